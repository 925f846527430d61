import Derived.Test.YteokdllmandleaaP34e
noncomputable section
open Go.Proofs
namespace Go.Proofs.Yteokdllmandleaa.Ideal
open Go.RowKit
set_option linter.unusedSimpArgs false
set_option linter.unusedVariables false
set_option linter.unusedSectionVars false
set_option maxRecDepth 100000
set_option maxHeartbeats 4000000
attribute [-simp] IHeap.size_set IHeap.size_push
attribute [local simp ↓] Hid.ap_mk
attribute [local simp] scopeQ_normal scopeQ_ret scopeQ_exit WP_skip WP_label WP_exit WP_goto WP_ret WP_region WP_seq WP_cond WP_block WP_scope WP_loop WP_range thenQ_normal thenQ_ret thenQ_exit thenQ_goto loopQ_normal loopQ_ret loopQ_exit invQ_normal invQ_ret invQ_exit outOf_normal outOf_ret outOf_goto outOf_exit ev_tmp ev_const ev_func
  wops_nil wops_cons wantedE_none wantedE_some jgd_some wnx_eq niC_false wdo_move wdo_assign wdo_pick wdo_load wdo_store wdo_alloc wdo_box wdo_fieldAddr wdo_indexAddr wdo_field wdo_extract wdo_build wdo_buildSlice wdo_makeSlice wdo_binOp wdo_unOp wdo_makeFunc wdo_nilCheck wdo_callV wdo_len wdo_append wdo_copy wdo_delete wdo_max wdo_min wdo_convert jcvt_int
  xput_get put_n put_none put_dfr ibin finQ_n finQ_r finD_nil splice_one ires_nil ires_one ires_two ires_three ires1_tmp ires1_cell jcell_ptr rowLoad_row wrap64 wrapU64 wrapU8 wrapU16 wrapU32 callV_fn buildOf Instr.fill Value.cells Value.oneCell' kindOf slots_all splice_all IHeap.size_set' IHeap.size_push' IHeap.get_set_same IHeap.get_set_ne IHeap.get_pushed IHeap.get_push_ne IHeap.set_set IHeap.set_push IHeap.set_pushed IHeap.set_set3 getU_nil getU_same getU_ne jif_true jif_false pushH_eq setH_eq forceL_eq forceV_eq ibuildSlice
attribute [local simp] wdo_index jopt_some wdo_cut33 wdo_all23 wdo_all24 arrAll wdo_toArr
attribute [-simp] Value.oneCell'
attribute [local simp] one_int' one_slc'
def erow (d s : List Nat) : List Value := bys (d ++ s) ++ [Value.int .u16 2054]
theorem bld41s {s : List Nat} (h2 : s.length = 6) : buildOf Try.prog 41 [(1, .agg (bys s).toArray), (2, .int .u16 2054)] = some (.agg (erow [0, 0, 0, 0, 0, 0] s).toArray) := by
  obtain ⟨a', b', c', e', f', g', rfl⟩ := len6 h2
  kernel_rfl
theorem erow_len {d s : List Nat} (h1 : d.length = 6) (h2 : s.length = 6) : (erow d s).length = 13 := by simp [erow, bys_len, h1, h2]
theorem erow_one (d s : List Nat) : (erow d s).all (·.oneCell') = true := by
  unfold erow
  rw [List.all_append, bys_all]
  rfl
theorem erow_set {d s : List Nat} {j x : Nat} (h : j < d.length) : splice (erow d s) j [.int .u8 x] = erow (d.set j x) s := by
  unfold erow
  rw [splice_one _ (by simp [bys_len]; omega), List.set_append_left _ _ (by rw [bys_len, List.length_append]; omega)]
  congr 1
  rw [← List.set_append_left _ _ h]
  simp [bys, List.map_set]
theorem rframe_c {h : IHeap} (a : AR) (hop : a.op < 65536) : FN Try.prog 15 #[a.val] h (Q := ⟨fun v h' => FrV h a v h'⟩) := by
  refine FN.enter mixed (fn := Try.f15) (by kernel_rfl) rfl (by kernel_rfl) fun e hn hg hd => ?_
  simp [Try.f15] at hn
  have a0 : e.get 0 = a.val := hg 0 (by omega)
  clear hg
  have g0 := a.get0
  have g0' : ∀ hh, a.row[0]'hh = .int .u16 (a.op : Nat) := fun _ => rfl
  have rl := a.row_len
  have s21 := a.s21
  have sfr := a.sfr
  have l28 := a.wl_len
  simp (maxSteps := 1000000) (disch := first | (simp; done) | (simp only [IHeap.size_push', IHeap.size_set']; omega) | omega) [a0, hn, hd, AR.val, a.row_one, s21]
  refine FN.mono (rwrite_c a hop) ?_
  rintro v h1 ⟨z1, o1, w⟩
  rw [IHeap.size_push'] at z1 o1 w
  have g1 : h1.get h.size = some (.row false 0 a.row) := by rw [o1 _ (by omega)]; exact IHeap.get_pushed _ rfl
  have o1' : ∀ i, i < h.size → h1.get i = h.get i := fun i hi => by rw [o1 i (by omega), IHeap.get_push_ne _ (by omega)]
  rcases w with ⟨hok, rfl⟩ | ⟨hok, r, rfl, hr, gr⟩
  · simp (maxSteps := 1000000) (disch := first | (simp; done) | (simp only [IHeap.size_push', IHeap.size_set']; omega) | omega) [a0, hn, hd]
    exact ⟨by omega, o1', .inl ⟨hok, rfl⟩⟩
  · have rz := IHeap.get_lt gr
    have bl := bld41s a.l1
    have el := erow_len (d := [0, 0, 0, 0, 0, 0]) rfl a.l1
    have eo := erow_one [0, 0, 0, 0, 0, 0] a.fr
    have spz : splice [Value.int .u8 0, .int .u8 0, .int .u8 0, .int .u8 0, .int .u8 0, .int .u8 0, .int .u8 0, .int .u8 0, .int .u8 0, .int .u8 0, .int .u8 0, .int .u8 0, .int .u16 0] 0 (erow [0, 0, 0, 0, 0, 0] a.fr) = erow [0, 0, 0, 0, 0, 0] a.fr := splice_all (by rw [el]; rfl)
    simp (maxSteps := 1000000) (disch := first | (simp; done) | (simp only [IHeap.size_push', IHeap.size_set']; omega) | omega) [-buildOf, -Instr.fill, a0, hn, hd, g1, sfr, rl, bl, zeros, el, eo, spz]
    have st0 : erow [0, 0, 0, 0, 0, 0] a.fr = erow (fillT [] a.dst 0 []) a.fr := by
      unfold fillT
      rw [a.dst_len]
      rfl
    rw [st0]
    refine WPL.by_inv mixed (by kernel_rfl) (fun y e h' => ∃ j : Nat, j + y = 6 ∧ e.n = 41 ∧ e.dfr = [] ∧ e.get 1 = .pointer (some ⟨h.size, 0, none⟩) ∧ e.get 4 = .slice (some ⟨r, 0, none⟩) 28 28 ∧ e.get 6 = .pointer (some ⟨h1.size, 0, none⟩) ∧ e.get 7 = .int .i64 j ∧ h'.size = h1.size + 1 ∧ (∀ i, i < h1.size → h'.get i = h1.get i) ∧ h'.get h1.size = some (.row false 0 (erow (fillT [] a.dst j []) a.fr))) 6 ?_ ?_
    · refine ⟨0, ?_⟩
      simp (maxSteps := 1000000) (disch := first | (simp; done) | (simp only [IHeap.size_push', IHeap.size_set']; omega) | omega) [a0, hn, hd]
      exact fun i hi => IHeap.get_push_ne _ (by omega)
    clear hn hd a0 e
    rintro y e h2 ⟨j, hj, hn, hd, e1, e4, e6, e7, z2, o2, g2⟩
    have g3 : h2.get h.size = some (.row false 0 a.row) := by rw [o2 _ (by omega)]; exact g1
    cases y with
    | zero =>
      obtain rfl : j = 6 := by omega
      rw [fillT_all a.dst_len] at g2
      have er : erow ([] ++ a.dst ++ []) a.fr = a.er.row := by simp [erow, ER.row, AR.er]
      rw [er] at g2
      have se : slots a.er.row 0 13 = some a.er.row := slots_full _ (by rw [a.er.row_len])
      have gr2 : h2.get r = some (.row false 1 (bys a.wl)) := by rw [o2 r rz]; exact gr
      simp (maxSteps := 1000000) (disch := first | (simp; done) | (simp only [IHeap.size_push', IHeap.size_set']; omega) | omega) [e1, e4, e6, e7, hn, hd, g2, se]
      have ew := rewrite02_c (c := 28) a.er (by rw [l28]; omega) gr2
      rw [l28] at ew
      refine FN.mono ew ?_
      rintro v h3 ⟨z3, o3, r3, rfl, hr3, gr3⟩
      rw [l28]
      simp (maxSteps := 1000000) (disch := first | (simp; done) | (simp only [IHeap.size_push', IHeap.size_set']; omega) | omega) [e1, e4, e6, e7, hn, hd]
      exact ⟨by omega, fun i hi => by rw [o3 i (by omega), o2 i (by omega), o1' i hi], .inr ⟨hok, r3, rfl, by omega, gr3⟩⟩
    | succ y =>
      have hlt : j < 6 := by omega
      have hlt2 : (j : Int) < 6 := by omega
      have dl := a.dst_len
      have d1 : j < a.dst.length := by omega
      obtain ⟨X, hX⟩ : ∃ X, fillT [] a.dst j [] = X := ⟨_, rfl⟩
      have Xl : X.length = 6 := by rw [← hX, fillT_len (by omega), dl]; rfl
      rw [hX] at g2
      have e5 := fillT_set (b := []) (x := a.dst) (rest := []) (n := 0) rfl d1
      rw [Nat.zero_add, hX] at e5
      have s1 : splice (erow X a.fr) j [.int .u8 255] = erow (X.set j 255) a.fr := erow_set (x := 255) (by omega)
      have xl := erow_len Xl a.l1
      by_cases o : a.op = 2
      · have o2' : (a.op : Int) = 2 := by omega
        have on : ¬ a.op = 1 := by omega
        have gt := slots_at a.sto (j := j) hlt
        have t1 : j < a.to.length := by rw [a.l2]; exact hlt
        rw [bys_at t1] at gt
        have gt' : ∀ hh, a.row[7 + j]'hh = .int .u8 (a.to[j] : Nat) := fun hh => by rw [List.getElem?_eq_getElem hh] at gt; injection gt
        have s2 : splice (erow (X.set j 255) a.fr) j [.int .u8 (a.to[j] : Nat)] = erow (fillT [] a.dst (j + 1) []) a.fr := by
          rw [erow_set (by rw [List.length_set]; omega), List.set_set, ← e5]
          congr 2
          simp only [AR.dst, on, if_false]
        have xl2 := erow_len (d := X.set j 255) (s := a.fr) (by rw [List.length_set]; exact Xl) a.l1
        simp (maxSteps := 1000000) (disch := first | (simp; done) | (simp only [IHeap.size_push', IHeap.size_set']; omega) | omega) [e1, e4, e6, e7, hn, hd, hlt, hlt2, g2, g3, s1, s2, xl, xl2, z2, gt, gt', g0, g0', rl, o2', wrap64, show j + 1 ≤ 13 by omega, show 7 + j < 21 by omega, show j < 13 by omega]
        exact ⟨y, by omega, j + 1, by omega, by omega, fun i hi => by rw [IHeap.get_set_ne _ (by omega)]; exact o2 i hi, rfl⟩
      · have o2' : ¬ (a.op : Int) = 2 := by omega
        have on : a.op = 1 := by
          have : a.op = 1 ∨ a.op = 2 := by simpa [okOp] using hok
          omega
        have s2 : erow (X.set j 255) a.fr = erow (fillT [] a.dst (j + 1) []) a.fr := by
          rw [← e5]
          congr 2
          have : a.dst = [255, 255, 255, 255, 255, 255] := by simp only [AR.dst, on, if_true]
          simp only [this]
          rcases (show j = 0 ∨ j = 1 ∨ j = 2 ∨ j = 3 ∨ j = 4 ∨ j = 5 by omega) with e | e | e | e | e | e <;> subst e <;> rfl
        rw [s2] at s1
        simp (maxSteps := 1000000) (disch := first | (simp; done) | (simp only [IHeap.size_push', IHeap.size_set']; omega) | omega) [e1, e4, e6, e7, hn, hd, hlt, hlt2, g2, g3, s1, xl, z2, g0, g0', rl, o2', wrap64, show j + 1 ≤ 13 by omega, show j < 13 by omega]
        exact ⟨y, by omega, j + 1, by omega, by omega, fun i hi => by rw [IHeap.get_set_ne _ (by omega)]; exact o2 i hi, rfl⟩
end Go.Proofs.Yteokdllmandleaa.Ideal
