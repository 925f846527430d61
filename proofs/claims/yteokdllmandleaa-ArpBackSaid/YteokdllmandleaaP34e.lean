import Derived.Test.YteokdllmandleaaP34d
noncomputable section
open Go.Proofs
namespace Go.Proofs.Yteokdllmandleaa.Ideal
open Go.RowKit
set_option linter.unusedSimpArgs false
set_option linter.unusedVariables false
set_option linter.unusedSectionVars false
set_option maxRecDepth 100000
set_option maxHeartbeats 4000000
attribute [-simp] IHeap.size_set IHeap.size_push
attribute [local simp ↓] Hid.ap_mk
attribute [local simp] scopeQ_normal scopeQ_ret scopeQ_exit WP_skip WP_label WP_exit WP_goto WP_ret WP_region WP_seq WP_cond WP_block WP_scope WP_loop WP_range thenQ_normal thenQ_ret thenQ_exit thenQ_goto loopQ_normal loopQ_ret loopQ_exit invQ_normal invQ_ret invQ_exit outOf_normal outOf_ret outOf_goto outOf_exit ev_tmp ev_const ev_func
  wops_nil wops_cons wantedE_none wantedE_some jgd_some wnx_eq niC_false wdo_move wdo_assign wdo_pick wdo_load wdo_store wdo_alloc wdo_box wdo_fieldAddr wdo_indexAddr wdo_field wdo_extract wdo_build wdo_buildSlice wdo_makeSlice wdo_binOp wdo_unOp wdo_makeFunc wdo_nilCheck wdo_callV wdo_len wdo_append wdo_copy wdo_delete wdo_max wdo_min wdo_convert jcvt_int
  xput_get put_n put_none put_dfr ibin finQ_n finQ_r finD_nil splice_one ires_nil ires_one ires_two ires_three ires1_tmp ires1_cell jcell_ptr rowLoad_row wrap64 wrapU64 wrapU8 wrapU16 wrapU32 callV_fn buildOf Instr.fill Value.cells Value.oneCell' kindOf slots_all splice_all IHeap.size_set' IHeap.size_push' IHeap.get_set_same IHeap.get_set_ne IHeap.get_pushed IHeap.get_push_ne IHeap.set_set IHeap.set_push IHeap.set_pushed IHeap.set_set3 getU_nil getU_same getU_ne jif_true jif_false pushH_eq setH_eq forceL_eq forceV_eq ibuildSlice
attribute [local simp] wdo_index jopt_some wdo_cut33 wdo_all23 wdo_all24 arrAll wdo_toArr
attribute [-simp] Value.oneCell'
attribute [local simp] one_int' one_slc'
def AR.dst (a : AR) : List Nat := if a.op = 1 then [255, 255, 255, 255, 255, 255] else a.to
theorem AR.dst_len (a : AR) : a.dst.length = 6 := by
  unfold AR.dst
  split
  · rfl
  · exact a.l2
def AR.er (a : AR) : ER := ⟨a.dst, a.fr, a.dst_len, a.l1⟩
def evOf (d s : List Nat) : Value := .agg (bys (d ++ s) ++ [Value.int .u16 2054]).toArray
theorem AR.er_val (a : AR) : a.er.val = evOf a.dst a.fr := rfl
theorem bld41 {d s : List Nat} (h1 : d.length = 6) (h2 : s.length = 6) : buildOf Try.prog 41 [(0, .agg (bys d).toArray), (1, .agg (bys s).toArray), (2, .int .u16 2054)] = some (evOf d s) := by
  obtain ⟨a, b, c, e, f, g, rfl⟩ := len6 h1
  obtain ⟨a', b', c', e', f', g', rfl⟩ := len6 h2
  kernel_rfl
/-- What Frame tells. -/
def FrV (h : IHeap) (a : AR) (v : Value) (h' : IHeap) : Prop := h.size ≤ h'.size ∧ (∀ i, i < h.size → h'.get i = h.get i) ∧ ((okOp a = false ∧ v = .tuple #[.slice none 0 0, .int .i64 5]) ∨ (okOp a = true ∧ ∃ r, v = .tuple #[.slice (some ⟨r, 0, none⟩) 42 42, .int .i64 0] ∧ h.size ≤ r ∧ h'.get r = some (.row false 1 (bys (a.er.wl a.wl)))))
theorem frame_c {h : IHeap} (a : AR) (hop : a.op < 65536) : FN Try.prog 14 #[a.val] h (Q := ⟨fun v h' => FrV h a v h'⟩) := by
  refine FN.enter mixed (fn := Try.f14) (by kernel_rfl) rfl (by kernel_rfl) fun e hn hg hd => ?_
  simp [Try.f14] at hn
  have a0 : e.get 0 = a.val := hg 0 (by omega)
  clear hg
  have g0 := a.get0
  have g0' : ∀ hh, a.row[0]'hh = .int .u16 (a.op : Nat) := fun _ => rfl
  have rl := a.row_len
  have s21 := a.s21
  have sto := a.sto
  have sfr := a.sfr
  have l28 := a.wl_len
  simp (maxSteps := 1000000) (disch := first | (simp; done) | (simp only [IHeap.size_push', IHeap.size_set']; omega) | omega) [a0, hn, hd, AR.val, a.row_one, s21]
  refine FN.mono (write_c a hop) ?_
  rintro v h1 ⟨z1, o1, w⟩
  rw [IHeap.size_push'] at z1 o1 w
  have g1 : h1.get h.size = some (.row false 0 a.row) := by rw [o1 _ (by omega)]; exact IHeap.get_pushed _ rfl
  have o1' : ∀ i, i < h.size → h1.get i = h.get i := fun i hi => by rw [o1 i (by omega), IHeap.get_push_ne _ (by omega)]
  rcases w with ⟨hok, rfl⟩ | ⟨hok, r, rfl, hr, gr⟩
  · simp (maxSteps := 1000000) (disch := first | (simp; done) | (simp only [IHeap.size_push', IHeap.size_set']; omega) | omega) [a0, hn, hd]
    exact ⟨by omega, o1', .inl ⟨hok, rfl⟩⟩
  · have rz := IHeap.get_lt gr
    have b6 := bys_len a.to
    rw [a.l2] at b6
    have sp6 : splice [Value.int .u8 0, .int .u8 0, .int .u8 0, .int .u8 0, .int .u8 0, .int .u8 0] 0 (bys a.to) = bys a.to := splice_all (by rw [b6]; rfl)
    have sl6 : slots (bys a.to) 0 6 = some (bys a.to) := slots_full _ (by rw [b6])
    have b6f := bys_len a.fr
    rw [a.l1] at b6f
    by_cases o : a.op = 1
    · have o2 : (a.op : Int) = 1 := by omega
      have o3 : (decide ((a.op : Int) = 1)) = true := by simp [o2]
      simp (maxSteps := 1000000) (disch := first | (simp; done) | (simp only [IHeap.size_push', IHeap.size_set']; omega) | omega) [a0, hn, hd, g1, sto, sfr, g0, g0', rl, o2, zeros, bys_all, b6, sp6, sl6]
      refine FN.mono (repeat6_c (IHeap.get_pushed _ rfl)) ?_
      rintro _ h2 ⟨rfl, z2, g2, o2'⟩
      simp only [IHeap.size_push'] at z2 g2 o2'
      have t2 : h2.get h1.size = some (.row false 0 (bys a.to)) := by rw [o2' _ (by omega), IHeap.get_push_ne _ (by simp only [IHeap.size_push']; omega)]; exact IHeap.get_pushed _ rfl
      have a2 : h2.get h.size = some (.row false 0 a.row) := by rw [o2' _ (by omega), IHeap.get_push_ne _ (by simp only [IHeap.size_push']; omega), IHeap.get_push_ne _ (by omega)]; exact g1
      have t2z := IHeap.get_lt t2
      have sF : slots (bys [255, 255, 255, 255, 255, 255]) 0 6 = some (bys [255, 255, 255, 255, 255, 255]) := rfl
      have bF : (bys [255, 255, 255, 255, 255, 255]).length = 6 := rfl
      have spF : splice (bys a.to) 0 (bys [255, 255, 255, 255, 255, 255]) = bys [255, 255, 255, 255, 255, 255] := splice_all (by rw [b6]; rfl)
      have bl := bld41 (d := [255, 255, 255, 255, 255, 255]) rfl a.l1
      simp (maxSteps := 1000000) (disch := first | (simp; done) | (simp only [IHeap.size_push', IHeap.size_set']; omega) | omega) [-buildOf, -Instr.fill, a0, hn, hd, toArrV, g2, t2, a2, sF, bF, spF, bys_all, b6, sfr, rl, t2z, bl]
      rw [show evOf [255, 255, 255, 255, 255, 255] a.fr = a.er.val by rw [AR.er_val, AR.dst, if_pos o]]
      have gr2 : (h2.set h1.size (.row false 0 (bys [255, 255, 255, 255, 255, 255]))).get r = some (.row false 1 (bys a.wl)) := by
        rw [IHeap.get_set_ne _ (by omega), o2' r (by omega), IHeap.get_push_ne _ (by simp only [IHeap.size_push']; omega), IHeap.get_push_ne _ (by omega)]; exact gr
      have ew := ewrite_c (c := 28) a.er (by rw [l28]; omega) gr2
      rw [l28] at ew
      refine FN.mono ew ?_
      rintro v h3 ⟨z3, o3, r3, rfl, hr3, gr3⟩
      rw [IHeap.size_set] at z3 o3 hr3
      rw [l28]
      simp (maxSteps := 1000000) (disch := first | (simp; done) | (simp only [IHeap.size_push', IHeap.size_set']; omega) | omega) [a0, hn, hd]
      refine ⟨by omega, fun i hi => by rw [o3 i (by omega), IHeap.get_set_ne _ (by omega), o2' i (by omega), IHeap.get_push_ne _ (by simp only [IHeap.size_push']; omega), IHeap.get_push_ne _ (by omega), o1' i hi], .inr ⟨hok, r3, rfl, by omega, gr3⟩⟩
    · have o2 : ¬ (a.op : Int) = 1 := by omega
      have bl := bld41 a.l2 a.l1
      simp (maxSteps := 1000000) (disch := first | (simp; done) | (simp only [IHeap.size_push', IHeap.size_set']; omega) | omega) [-buildOf, -Instr.fill, a0, hn, hd, g1, sto, sfr, g0, g0', rl, o2, zeros, bys_all, b6, sp6, sl6, bl]
      rw [show evOf a.to a.fr = a.er.val by rw [AR.er_val, AR.dst, if_neg o]]
      have gr2 : (h1.push (.row false 0 (bys a.to))).get r = some (.row false 1 (bys a.wl)) := by
        rw [IHeap.get_push_ne _ (by omega)]; exact gr
      have ew := ewrite_c (c := 28) a.er (by rw [l28]; omega) gr2
      rw [l28] at ew
      refine FN.mono ew ?_
      rintro v h3 ⟨z3, o3, r3, rfl, hr3, gr3⟩
      rw [IHeap.size_push'] at z3 o3 hr3
      rw [l28]
      simp (maxSteps := 1000000) (disch := first | (simp; done) | (simp only [IHeap.size_push', IHeap.size_set']; omega) | omega) [a0, hn, hd]
      refine ⟨by omega, fun i hi => by rw [o3 i (by omega), IHeap.get_push_ne _ (by omega), o1' i hi], .inr ⟨hok, r3, rfl, by omega, gr3⟩⟩
end Go.Proofs.Yteokdllmandleaa.Ideal
