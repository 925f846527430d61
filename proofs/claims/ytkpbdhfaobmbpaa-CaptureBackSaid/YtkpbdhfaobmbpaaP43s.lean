import Derived.Test.YtkpbdhfaobmbpaaP43r
noncomputable section
open Go.Proofs
namespace Go.Proofs.Ytkpbdhfaobmbpaa.Ideal
open Go.RowKit
set_option linter.unusedSimpArgs false
set_option linter.unusedVariables false
set_option linter.unusedSectionVars false
set_option maxRecDepth 100000
set_option maxHeartbeats 4000000
attribute [-simp] IHeap.size_set IHeap.size_push
attribute [local simp ↓] Hid.ap_mk
attribute [local simp] scopeQ_normal scopeQ_ret scopeQ_exit WP_skip WP_label WP_exit WP_goto WP_ret WP_region WP_seq WP_cond WP_block WP_scope WP_loop WP_range thenQ_normal thenQ_ret thenQ_exit thenQ_goto loopQ_normal loopQ_ret loopQ_exit invQ_normal invQ_ret invQ_exit outOf_normal outOf_ret outOf_goto outOf_exit ev_tmp ev_const ev_func
  wops_nil wops_cons wantedE_none wantedE_some jgd_some wnx_eq niC_false wdo_move wdo_assign wdo_pick wdo_load wdo_store wdo_alloc wdo_box wdo_fieldAddr wdo_indexAddr wdo_field wdo_extract wdo_build wdo_buildSlice wdo_makeSlice wdo_binOp wdo_unOp wdo_makeFunc wdo_nilCheck wdo_callV wdo_len wdo_append wdo_copy wdo_delete wdo_max wdo_min wdo_convert jcvt_int
  xput_get put_n put_none put_dfr ibin finQ_n finQ_r finD_nil splice_one ires_nil ires_one ires_two ires_three ires1_tmp ires1_cell jcell_ptr rowLoad_row wrap64 wrapU64 wrapU8 wrapU16 wrapU32 callV_fn buildOf Instr.fill Value.cells Value.oneCell' kindOf slots_all splice_all IHeap.size_set' IHeap.size_push' IHeap.get_set_same IHeap.get_set_ne IHeap.get_pushed IHeap.get_push_ne IHeap.set_set IHeap.set_push IHeap.set_pushed IHeap.set_set3 getU_nil getU_same getU_ne jif_true jif_false pushH_eq setH_eq forceL_eq forceV_eq ibuildSlice
attribute [local simp] wdo_index jopt_some wdo_cutV
attribute [-simp] Value.oneCell'
attribute [local simp] one_int' one_slc'
/-- In the window. -/
def inW (lo hi : Nat) (s : SH) : Bool := decide (lo ≤ s.time) && decide (s.time < hi)
theorem rwindow_c {h : IHeap} {v : Value} {S : List SH} {lo hi : Nat} (x : ShS h v S) (hS : S.length ≤ 200) (h4 : ∀ s ∈ S, s.xs.length ≤ 400) : FN Try.prog 19 #[v, .int .u64 lo, .int .u64 hi] h (Q := ⟨fun v h' => OwnS h.size h' v (S.filter (inW lo hi)) ∧ Keep h h'⟩) := by
  obtain ⟨A, c, rfl, _⟩ := id x
  refine FN.enter mixed (fn := Try.f19) (by kernel_rfl) rfl (by kernel_rfl) fun e hn hg hd => ?_
  simp [Try.f19] at hn
  have a0 : e.get 0 = .slice A S.length c := hg 0 (by omega)
  have a1 : e.get 1 = .int .u64 lo := hg 1 (by omega)
  have a2 : e.get 2 = .int .u64 hi := hg 2 (by omega)
  clear hg
  simp (maxSteps := 1000000) (disch := first | (simp; done) | (simp only [IHeap.size_push', IHeap.size_set']; omega) | omega) [a0, a1, a2, hn, hd]
  refine WPL.by_inv mixed (by kernel_rfl) (fun k e h' => ∃ (j : Nat) (w : Value), j + k = S.length ∧ e.n = 39 ∧ e.dfr = [] ∧ e.get 0 = .slice A S.length c ∧ e.get 1 = .int .u64 lo ∧ e.get 2 = .int .u64 hi ∧ e.get 7 = w ∧ e.get 8 = .int .i64 j ∧ OwnS h.size h' w ((S.take j).filter (inW lo hi)) ∧ Keep h h') S.length ?_ ?_
  · refine ⟨0, .slice none 0 0, ?_⟩
    simp (maxSteps := 1000000) (disch := first | (simp; done) | (simp only [IHeap.size_push', IHeap.size_set']; omega) | omega) [a0, a1, a2, hn, hd]
    exact ⟨⟨.inl ⟨rfl, rfl⟩, fun t ht => by simp at ht⟩, Keep.refl h⟩
  clear hn hd a0 a1 a2 e
  rintro k e h1 ⟨j, w, hj, hn, hd, a0, a1, a2, a7, a8, ow, kp⟩
  cases k with
  | zero =>
    obtain rfl : j = S.length := by omega
    simp (maxSteps := 1000000) (disch := first | (simp; done) | (simp only [IHeap.size_push', IHeap.size_set']; omega) | omega) [a0, a1, a2, a7, a8, hn, hd]
    rw [List.take_length] at ow
    exact ⟨ow, kp⟩
  | succ k =>
    have j2 : j < S.length := by omega
    have j1 : (j : Int) < S.length := by omega
    obtain ⟨r, q, ro, z, cs, rfl, hg, hz, hs, hok⟩ := (x.keep kp).at j2
    obtain ⟨s, es⟩ : ∃ s, S[j] = s := ⟨_, rfl⟩
    have z0 := kp.le
    have ht1 : S.take (j + 1) = S.take j ++ [s] := by rw [List.take_succ_eq_append_getElem j2, es]
    rw [es] at hs hok
    obtain ⟨B, d, eb, _⟩ := hok.b
    have l4 := h4 S[j] (List.getElem_mem j2)
    rw [es] at l4
    have tc := rtime_c hok
    have kq := kp.push' (.row false 0 s.cells)
    have hg2 := (Keep.push h1 (.row false 0 s.cells)).get hg
    have hok2 := hok.keep (Keep.push h1 (.row false 0 s.cells))
    have tc2 := rtime_c hok2
    have kq2 := kq.push' (.row false 0 s.cells)
    have hg3 := ((Keep.push h1 (.row false 0 s.cells)).push' (.row false 0 s.cells)).get hg
    have ow2 := ow.keep ((Keep.push h1 (.row false 0 s.cells)))
    have ow3 := ow.keep ((Keep.push h1 (.row false 0 s.cells)).push' (.row false 0 s.cells))
    have hok3 := hok.keep ((Keep.push h1 (.row false 0 s.cells)).push' (.row false 0 s.cells))
    have fl : (S.take j).filter (inW lo hi) = (S.take j).filter (inW lo hi) ++ [] := (List.append_nil _).symm
    obtain ⟨v', h', ap, ow4, f1, z2, _⟩ := app_own ow3 hok3 l4 (by have := List.length_filter_le (inW lo hi) (S.take j); rw [List.length_take] at this; omega) (by simp only [IHeap.size_push']; omega)
    simp only [SH.val, SH.cells, eb, IHeap.size_push'] at tc tc2 kq hg2 kq2 hg3 ow2 ow3 ap f1 z2
    simp (maxSteps := 1000000) (disch := first | (simp; done) | (simp only [IHeap.size_push', IHeap.size_set']; omega) | omega) [a0, a1, a2, a7, a8, hn, hd, j1, j2, hg, hs, SH.cells, eb]
    refine FN.of tc ?_
    obtain ⟨t, ht⟩ : ∃ t, s.time = t := ⟨_, rfl⟩
    rw [ht] at tc2 ⊢
    by_cases c1 : lo ≤ t
    · simp (maxSteps := 1000000) (disch := first | (simp; done) | (simp only [IHeap.size_push', IHeap.size_set']; omega) | omega) [a0, a1, a2, a7, a8, hn, hd, j1, j2, hg, hg2, hs, SH.cells, eb, c1, undef]
      refine FN.of tc2 ?_
      by_cases c2 : t < hi
      · have iw : inW lo hi s = true := by
          unfold inW
          rw [ht, decide_eq_true c1, decide_eq_true c2]
          rfl
        have z1 : zeros #[Value.int .u32 0, Value.int .u32 0, Value.int .u32 0, Value.slice none 0 0] 1 = [Value.int .u32 0, Value.int .u32 0, Value.int .u32 0, Value.slice none 0 0] := rfl
        simp (maxSteps := 1000000) (disch := first | (simp; done) | (simp only [IHeap.size_push', IHeap.size_set']; omega) | omega) [a0, a1, a2, a7, a8, hn, hd, j1, j2, hg, hg2, hg3, hs, SH.cells, eb, c1, c2, z1, ap]
        refine ⟨k, by omega, j + 1, by omega, by omega, ?_, ?_⟩
        · rw [ht1, List.filter_append, List.filter_cons, iw]
          exact ow4
        · exact ⟨by omega, fun i hi => by rw [f1 i (by omega)]; exact kq2.eq i hi⟩
      · have iw : inW lo hi s = false := by
          unfold inW
          rw [ht, decide_eq_false c2, Bool.and_false]
        simp (maxSteps := 1000000) (disch := first | (simp; done) | (simp only [IHeap.size_push', IHeap.size_set']; omega) | omega) [a0, a1, a2, a7, a8, hn, hd, j1, j2, hg, hg2, hs, SH.cells, eb, c1, c2]
        refine ⟨k, by omega, j + 1, by omega, by omega, ?_, kq2⟩
        rw [ht1, List.filter_append, List.filter_cons, iw]
        simpa using ow3
    · have iw : inW lo hi s = false := by
        unfold inW
        rw [ht, decide_eq_false c1, Bool.false_and]
      simp (maxSteps := 1000000) (disch := first | (simp; done) | (simp only [IHeap.size_push', IHeap.size_set']; omega) | omega) [a0, a1, a2, a7, a8, hn, hd, j1, j2, hg, hs, SH.cells, eb, c1, undef]
      refine ⟨k, by omega, j + 1, by omega, by omega, ?_, kq⟩
      rw [ht1, List.filter_append, List.filter_cons, iw]
      simpa using ow2
end Go.Proofs.Ytkpbdhfaobmbpaa.Ideal
