import Derived.Test.YtgfemimlpbileaaP13d
noncomputable section
open Go.Proofs
namespace Go.Proofs.Ytgfemimlpbileaa.Ideal
open Go.RowKit
set_option linter.unusedSimpArgs false
set_option linter.unusedVariables false
set_option linter.unusedSectionVars false
set_option linter.unnecessarySimpa false
set_option maxRecDepth 100000
set_option maxHeartbeats 2000000
attribute [-simp] IHeap.size_set IHeap.size_push
attribute [local simp ↓] Hid.ap_mk
attribute [local simp] scopeQ_normal scopeQ_ret scopeQ_exit WP_skip WP_label WP_exit WP_goto WP_ret WP_region WP_seq WP_cond WP_block WP_scope WP_loop WP_range thenQ_normal thenQ_ret thenQ_exit thenQ_goto loopQ_normal loopQ_ret loopQ_exit invQ_normal invQ_ret invQ_exit outOf_normal outOf_ret outOf_goto outOf_exit ev_tmp ev_const ev_func
  wops_nil wops_cons wantedE_none wantedE_some jgd_some wnx_eq niC_false wdo_move wdo_assign wdo_pick wdo_load wdo_store wdo_alloc wdo_box wdo_fieldAddr wdo_indexAddr wdo_field wdo_extract wdo_build wdo_buildSlice wdo_makeSlice wdo_binOp wdo_unOp wdo_makeFunc wdo_nilCheck wdo_callV wdo_len wdo_append wdo_copy wdo_delete wdo_max wdo_min wdo_convert jcvt_int
  xput_get put_n put_none put_dfr ibin finQ_n finQ_r finD_nil splice_one ires_nil ires_one ires_two ires_three ires1_tmp ires1_cell jcell_ptr rowLoad_row wrap64 wrapU64 wrapU8 wrapU16 wrapU32 callV_fn buildOf Instr.fill Value.cells Value.oneCell' kindOf slots_all splice_all IHeap.size_set' IHeap.size_push' IHeap.get_set_same IHeap.get_set_ne IHeap.get_pushed IHeap.get_push_ne IHeap.set_set IHeap.set_push IHeap.set_pushed IHeap.set_set3 getU_nil getU_same getU_ne jif_true jif_false pushH_eq setH_eq forceL_eq forceV_eq ibuildSlice
attribute [-simp] Value.oneCell'
def noT : TB := ⟨[], 0, 0⟩
theorem new8 {h : IHeap} : FN Try.prog 6 #[.int .i64 8] h (Q := ⟨fun v h' => ∃ p q, v = .tuple #[.pointer (some ⟨p, 0, none⟩), .int .i64 0] ∧ (newTB 8).at h' p q ∧ Fr h h' []⟩) := by
  refine FN.of (new_c (h := h) 8 (by omega) (by kernel_rfl)) ?_
  refine ⟨h.size + 1, h.size, rfl, ⟨?_, fun _ => ⟨?_, by omega⟩⟩, ((Fr.refl _).push _).push _⟩
  · generalize newTB 8 = t
    generalize List.replicate 8 ((0 : Int), (0 : Int), (0 : Int)) = l
    simp (maxSteps := 1000000) (disch := first | (simp; done) | (simp only [IHeap.size_push', IHeap.size_set']; omega) | omega) []
  · show _ = some (IObj.row false 3 (flat3 (List.replicate 8 (0, 0, 0))))
    generalize newTB 8 = t
    generalize List.replicate 8 ((0 : Int), (0 : Int), (0 : Int)) = l
    simp (maxSteps := 1000000) (disch := first | (simp; done) | (simp only [IHeap.size_push', IHeap.size_set']; omega) | omega) []
theorem none_law {h : IHeap} (hash what : Int) (hh : 0 ≤ hash ∧ hash < 18446744073709551616) (i : Int) : FN Try.prog 5 #[.agg #[.int .u64 hash, .int .u32 what], .int .i64 i] h (Q := ⟨fun v h' => v = .bool true⟩) := by
  refine FN.enter mixed (fn := Try.f5) (by kernel_rfl) rfl (by kernel_rfl) fun e hn hg hd => ?_
  simp [Try.f5] at hn
  have a0 : e.get 0 = .agg #[.int .u64 hash, .int .u32 what] := hg 0 (by omega)
  have a1 : e.get 1 = .int .i64 i := hg 1 (by omega)
  clear hg
  simp (maxSteps := 1000000) (disch := first | (simp; done) | (simp only [IHeap.size_push', IHeap.size_set']; omega) | omega) [a0, a1, hn, hd, zeros]
  refine WPL.by_inv mixed (by kernel_rfl) (fun k e h' => ∃ j : Nat, j + k = 2 ∧ e.n = 98 ∧ e.dfr = [] ∧ e.get 1 = .int .i64 i ∧ e.get 2 = .pointer (some ⟨h.size, 0, none⟩) ∧ e.get 5 = .pointer (some ⟨h.size + 1, 0, none⟩) ∧ e.get 18 = .slice (some ⟨h.size + 2, 0, none⟩) 2 2 ∧ e.get 19 = .int .i64 2 ∧ e.get 20 = .int .i64 j ∧ h.size + 3 ≤ h'.size ∧ h'.get h.size = some (.row false 0 [.int .u64 hash, .int .u32 what]) ∧ h'.get (h.size + 1) = some (.row false 0 [.slice none 0 0, .int .i64 0, .int .i64 0]) ∧ h'.get (h.size + 2) = some (.row false 1 [.pointer none, .pointer (some ⟨h.size + 1, 0, none⟩)])) 2 ?_ ?_
  · refine ⟨0, ?_⟩
    simp (maxSteps := 1000000) (disch := first | (simp; done) | (simp only [IHeap.size_push', IHeap.size_set']; omega) | omega) [a0, a1, hn, hd]
  clear hn hd a0 a1 e
  rintro k e h1 ⟨j, hj, hn, hd, e1, e2, e5, e18, e19, e20, hz, g0, g1, g2⟩
  cases k with
  | zero =>
    obtain rfl : j = 2 := by omega
    simp (maxSteps := 1000000) (disch := first | (simp; done) | (simp only [IHeap.size_push', IHeap.size_set']; omega) | omega) [e1, e2, e5, e18, e19, e20, hn, hd]
    refine FN.mono new8 ?_
    rintro v h2 ⟨p, q, rfl, x8, fr2⟩
    have ok8 : (newTB 8).ok := ⟨by simp [newTB], by simp [newTB], by simp [newTB]⟩
    have hl8 : (newTB 8).ps.length = 8 := by simp [newTB]
    have hz2 := fr2.size
    have g3 : h2.get h.size = some (.row false 0 [.int .u64 hash, .int .u32 what]) := by
      rw [fr2.get _ (by (try simp only [IHeap.size_push', IHeap.size_set']); omega)]
      simp (maxSteps := 1000000) (disch := first | (simp; done) | (simp only [IHeap.size_push', IHeap.size_set']; omega) | omega) [g0]
    have hpx : h.size ≠ p := by rintro rfl; rw [x8.gp] at g3; simp [TB.row] at g3
    have hqx : h.size ≠ q := by rintro rfl; have := (x8.gq (by intro h; rw [h] at hl8; simp at hl8)).1; rw [this] at g3; simp at g3
    generalize newTB 8 = t8 at x8 ok8 hl8
    simp (maxSteps := 1000000) (disch := first | (simp; done) | (simp only [IHeap.size_push', IHeap.size_set']; omega) | omega) [e1, e2, e5, e18, e19, e20, hn, hd, g3]
    refine FN.mono (put_c ok8 x8 hash what hh) ?_
    rintro v h3 ⟨_, x9, kp⟩
    have hz3 := kp.size
    have g4 : h3.get h.size = some (.row false 0 [.int .u64 hash, .int .u32 what]) := by rw [kp.get _ (by omega) hpx hqx]; exact g3
    have hl9 : (t8.put hash what).ps.length = 8 := by
      unfold TB.put
      cases t8.free hash <;> simp [TB.putAt, hl8]
    generalize t8.put hash what = t9 at x9 hl9
    simp (maxSteps := 1000000) (disch := first | (simp; done) | (simp only [IHeap.size_push', IHeap.size_set']; omega) | omega) [e1, e2, e5, e18, e19, e20, hn, hd, g4]
    refine FN.ct (Find_c (by omega) (.inr ⟨p, rfl, x9⟩) hash hh .nilFunc none (.inl ⟨rfl, rfl⟩)) ?_
    intro h4 fr4
    have hfd : t9.find hash none = none := by
      unfold TB.find
      split
      · split <;> simp_all
      · rfl
    rw [hfd]
    simp (maxSteps := 1000000) (disch := first | (simp; done) | (simp only [IHeap.size_push', IHeap.size_set']; omega) | omega) [e1, e2, e5, e18, e19, e20, hn, hd, findV]
    refine FN.of known_c ?_
    simp (maxSteps := 1000000) (disch := first | (simp; done) | (simp only [IHeap.size_push', IHeap.size_set']; omega) | omega) [hn, hd]
  | succ k =>
    obtain ⟨A, hA, hA2⟩ : ∃ A : Option Addr, [Value.pointer none, .pointer (some ⟨h.size + 1, 0, none⟩)][j]? = some (.pointer A) ∧ ∀ h', h'.get (h.size + 1) = some (.row false 0 [.slice none 0 0, .int .i64 0, .int .i64 0]) → TIs h' A noT 0 := by
      have hj2 : j = 0 ∨ j = 1 := by omega
      rcases hj2 with rfl | rfl
      · exact ⟨none, rfl, fun h' hg => .inl ⟨rfl, rfl⟩⟩
      · exact ⟨some ⟨h.size + 1, 0, none⟩, rfl, fun h' hg => .inr ⟨_, rfl, ⟨by rw [hg]; rfl, fun hc => absurd rfl hc⟩⟩⟩
    have hlt : (j : Int) < 2 := by omega
    have hlt2 : j < 2 := by omega
    have hAj : ∀ hh, [Value.pointer none, .pointer (some ⟨h.size + 1, 0, none⟩)][j]'hh = .pointer A := fun hh => by
      rw [List.getElem?_eq_getElem hh] at hA
      exact Option.some.inj hA
    have hnl : noT.ps = [] := rfl
    have hll : noT.ps.length ≤ 300000 := by simp [noT]
    simp (maxSteps := 1000000) (disch := first | (simp; done) | (simp only [IHeap.size_push', IHeap.size_set']; omega) | omega) [e1, e2, e5, e18, e19, e20, hn, hd, hlt, hlt2, g0, g1, g2, hA, hAj]
    refine FN.ct (put_nil (hA2 _ g1) rfl hash what) ?_
    intro h2 f2
    have z2 := f2.size
    have p0 : h2.get h.size = some (.row false 0 [.int .u64 hash, .int .u32 what]) := by
      rw [f2.get _ (by (try simp only [IHeap.size_push', IHeap.size_set']); omega)]
      simp (maxSteps := 1000000) (disch := first | (simp; done) | (simp only [IHeap.size_push', IHeap.size_set']; omega) | omega) [g0]
    have p1 : h2.get (h.size + 1) = some (.row false 0 [.slice none 0 0, .int .i64 0, .int .i64 0]) := by
      rw [f2.get _ (by (try simp only [IHeap.size_push', IHeap.size_set']); omega)]
      simp (maxSteps := 1000000) (disch := first | (simp; done) | (simp only [IHeap.size_push', IHeap.size_set']; omega) | omega) [g1]
    have p2 : h2.get (h.size + 2) = some (.row false 1 [.pointer none, .pointer (some ⟨h.size + 1, 0, none⟩)]) := by
      rw [f2.get _ (by (try simp only [IHeap.size_push', IHeap.size_set']); omega)]
      simp (maxSteps := 1000000) (disch := first | (simp; done) | (simp only [IHeap.size_push', IHeap.size_set']; omega) | omega) [g2]
    simp (maxSteps := 1000000) (disch := first | (simp; done) | (simp only [IHeap.size_push', IHeap.size_set']; omega) | omega) [e1, e2, e5, e18, e19, e20, hn, hd, p0]
    refine FN.ct (find_c hll (hA2 _ p1) hash what hh) ?_
    intro h3 f3
    have z3 := f3.size
    have q0 : h3.get h.size = some (.row false 0 [.int .u64 hash, .int .u32 what]) := by
      rw [f3.get _ (by (try simp only [IHeap.size_push', IHeap.size_set']); omega)]
      simp (maxSteps := 1000000) (disch := first | (simp; done) | (simp only [IHeap.size_push', IHeap.size_set']; omega) | omega) [p0]
    have q1 : h3.get (h.size + 1) = some (.row false 0 [.slice none 0 0, .int .i64 0, .int .i64 0]) := by
      rw [f3.get _ (by (try simp only [IHeap.size_push', IHeap.size_set']); omega)]
      simp (maxSteps := 1000000) (disch := first | (simp; done) | (simp only [IHeap.size_push', IHeap.size_set']; omega) | omega) [p1]
    have q2 : h3.get (h.size + 2) = some (.row false 1 [.pointer none, .pointer (some ⟨h.size + 1, 0, none⟩)]) := by
      rw [f3.get _ (by (try simp only [IHeap.size_push', IHeap.size_set']); omega)]
      simp (maxSteps := 1000000) (disch := first | (simp; done) | (simp only [IHeap.size_push', IHeap.size_set']; omega) | omega) [p2]
    have hfd : noT.find hash (some fun w => decide (w = what)) = none := rfl
    rw [hfd]
    simp (maxSteps := 1000000) (disch := first | (simp; done) | (simp only [IHeap.size_push', IHeap.size_set']; omega) | omega) [e1, e2, e5, e18, e19, e20, hn, hd, q0, findV]
    refine FN.ct (get_c (hA2 _ q1) i) ?_
    intro h4 f4
    have z4 := f4.size
    have r0 : h4.get h.size = some (.row false 0 [.int .u64 hash, .int .u32 what]) := by
      rw [f4.get _ (by (try simp only [IHeap.size_push', IHeap.size_set']); omega)]
      simp (maxSteps := 1000000) (disch := first | (simp; done) | (simp only [IHeap.size_push', IHeap.size_set']; omega) | omega) [q0]
    have r1 : h4.get (h.size + 1) = some (.row false 0 [.slice none 0 0, .int .i64 0, .int .i64 0]) := by
      rw [f4.get _ (by (try simp only [IHeap.size_push', IHeap.size_set']); omega)]
      simp (maxSteps := 1000000) (disch := first | (simp; done) | (simp only [IHeap.size_push', IHeap.size_set']; omega) | omega) [q1]
    have r2 : h4.get (h.size + 2) = some (.row false 1 [.pointer none, .pointer (some ⟨h.size + 1, 0, none⟩)]) := by
      rw [f4.get _ (by (try simp only [IHeap.size_push', IHeap.size_set']); omega)]
      simp (maxSteps := 1000000) (disch := first | (simp; done) | (simp only [IHeap.size_push', IHeap.size_set']; omega) | omega) [q2]
    have hgv : noT.get i = .tuple #[.agg #[.int .u64 0, .int .u32 0], .bool false] := by unfold TB.get; split <;> simp [noT]
    rw [hgv]
    simp (maxSteps := 1000000) (disch := first | (simp; done) | (simp only [IHeap.size_push', IHeap.size_set']; omega) | omega) [e1, e2, e5, e18, e19, e20, hn, hd, zeros, one_int]
    have xx : TIs (h4.push (.row false 0 [.int .u64 0, .int .u32 0])) A noT 0 := hA2 _ (by simp (maxSteps := 1000000) (disch := first | (simp; done) | (simp only [IHeap.size_push', IHeap.size_set']; omega) | omega) [r1])
    refine FN.of (drop_nil xx rfl i) ?_
    simp (maxSteps := 1000000) (disch := first | (simp; done) | (simp only [IHeap.size_push', IHeap.size_set']; omega) | omega) [e1, e2, e5, e18, e19, e20, hn, hd]
    refine FN.of (places_c xx) ?_
    simp (maxSteps := 1000000) (disch := first | (simp; done) | (simp only [IHeap.size_push', IHeap.size_set']; omega) | omega) [e1, e2, e5, e18, e19, e20, hn, hd]
    refine FN.of (entries_c xx) ?_
    simp (maxSteps := 1000000) (disch := first | (simp; done) | (simp only [IHeap.size_push', IHeap.size_set']; omega) | omega) [e1, e2, e5, e18, e19, e20, hn, hd]
    refine FN.of (marks_c xx) ?_
    simp (maxSteps := 1000000) (disch := first | (simp; done) | (simp only [IHeap.size_push', IHeap.size_set']; omega) | omega) [e1, e2, e5, e18, e19, e20, hn, hd, noT, wrap64]
    refine FN.of (copy_nil xx rfl) ?_
    simp (maxSteps := 1000000) (disch := first | (simp; done) | (simp only [IHeap.size_push', IHeap.size_set']; omega) | omega) [e1, e2, e5, e18, e19, e20, hn, hd, noT, wrap64]
    refine FN.of (all_c A) ?_
    simp (maxSteps := 1000000) (disch := first | (simp; done) | (simp only [IHeap.size_push', IHeap.size_set']; omega) | omega) [e1, e2, e5, e18, e19, e20, hn, hd, noT, wrap64]
    refine ⟨k, by omega, j + 1, by omega, ?_⟩
    simp (maxSteps := 1000000) (disch := first | (simp; done) | (simp only [IHeap.size_push', IHeap.size_set']; omega) | omega) [e1, e2, e5, e18, e19, e20, hn, hd, r0, r1, r2]
    omega
end Go.Proofs.Ytgfemimlpbileaa.Ideal
