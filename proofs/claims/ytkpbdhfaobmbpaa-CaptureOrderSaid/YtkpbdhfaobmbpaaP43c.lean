import Derived.Test.YtkpbdhfaobmbpaaP43b
noncomputable section
open Go.Proofs
namespace Go.Proofs.Ytkpbdhfaobmbpaa.Ideal
open Go.RowKit
set_option linter.unusedSimpArgs false
set_option linter.unusedVariables false
set_option linter.unusedSectionVars false
set_option maxRecDepth 100000
set_option maxHeartbeats 4000000
attribute [-simp] IHeap.size_set IHeap.size_push
attribute [local simp ↓] Hid.ap_mk
attribute [local simp] scopeQ_normal scopeQ_ret scopeQ_exit WP_skip WP_label WP_exit WP_goto WP_ret WP_region WP_seq WP_cond WP_block WP_scope WP_loop WP_range thenQ_normal thenQ_ret thenQ_exit thenQ_goto loopQ_normal loopQ_ret loopQ_exit invQ_normal invQ_ret invQ_exit outOf_normal outOf_ret outOf_goto outOf_exit ev_tmp ev_const ev_func
  wops_nil wops_cons wantedE_none wantedE_some jgd_some wnx_eq niC_false wdo_move wdo_assign wdo_pick wdo_load wdo_store wdo_alloc wdo_box wdo_fieldAddr wdo_indexAddr wdo_field wdo_extract wdo_build wdo_buildSlice wdo_makeSlice wdo_binOp wdo_unOp wdo_makeFunc wdo_nilCheck wdo_callV wdo_len wdo_append wdo_copy wdo_delete wdo_max wdo_min wdo_convert jcvt_int
  xput_get put_n put_none put_dfr ibin finQ_n finQ_r finD_nil splice_one ires_nil ires_one ires_two ires_three ires1_tmp ires1_cell jcell_ptr rowLoad_row wrap64 wrapU64 wrapU8 wrapU16 wrapU32 callV_fn buildOf Instr.fill Value.cells Value.oneCell' kindOf slots_all splice_all IHeap.size_set' IHeap.size_push' IHeap.get_set_same IHeap.get_set_ne IHeap.get_pushed IHeap.get_push_ne IHeap.set_set IHeap.set_push IHeap.set_pushed IHeap.set_set3 getU_nil getU_same getU_ne jif_true jif_false pushH_eq setH_eq forceL_eq forceV_eq ibuildSlice
attribute [local simp] wdo_index jopt_some
attribute [-simp] Value.oneCell'
attribute [local simp] one_int' one_slc'
/-- Times that rise. -/
def Rise (T : List SH) : Prop := T.Pairwise (fun a b => a.time ≤ b.time)
theorem rise_c {h : IHeap} {v : Value} {S : List SH} (x : ShS h v S) (hS : S.length ≤ 60) (h4 : ∀ s ∈ S, s.xs.length ≤ 400) : FN Try.prog 22 #[v] h (Q := ⟨fun v h' => ∃ T, OwnS h.size h' v T ∧ T.length = S.length ∧ Rise T ∧ Keep h h'⟩) := by
  obtain ⟨A, c, rfl, _⟩ := id x
  refine FN.enter mixed (fn := Try.f22) (by kernel_rfl) rfl (by kernel_rfl) fun e hn hg hd => ?_
  simp [Try.f22] at hn
  have a0 : e.get 0 = .slice A S.length c := hg 0 (by omega)
  clear hg
  simp (maxSteps := 1000000) (disch := first | (simp; done) | (simp only [IHeap.size_push', IHeap.size_set']; omega) | omega) [a0, hn, hd]
  refine WPL.by_inv mixed (by kernel_rfl) (fun k e h' => ∃ (j : Nat) (T : List SH) (a : Nat) (w : Value), j + k = S.length ∧ e.n = 27 ∧ e.dfr = [] ∧ e.get 3 = w ∧ e.get 4 = .int .u32 a ∧ e.get 7 = .slice A S.length c ∧ e.get 8 = .int .i64 S.length ∧ e.get 9 = .int .i64 j ∧ OwnS h.size h' w T ∧ T.length = j ∧ Rise T ∧ (∀ t ∈ T, t.time ≤ a * 1000000) ∧ a ≤ 999 * j ∧ Keep h h') S.length ?_ ?_
  · refine ⟨0, [], 0, .slice none 0 0, ?_⟩
    simp (maxSteps := 1000000) (disch := first | (simp; done) | (simp only [IHeap.size_push', IHeap.size_set']; omega) | omega) [a0, hn, hd]
    exact ⟨⟨.inl ⟨rfl, rfl⟩, fun t ht => by simp at ht⟩, List.Pairwise.nil, Keep.refl h⟩
  clear hn hd a0 e
  rintro k e h1 ⟨j, T, a, w, hj, hn, hd, a3, a4, a7, a8, a9, ow, hT, ri, tb, hb, kp⟩
  cases k with
  | zero =>
    obtain rfl : j = S.length := by omega
    simp (maxSteps := 1000000) (disch := first | (simp; done) | (simp only [IHeap.size_push', IHeap.size_set']; omega) | omega) [a3, a4, a7, a8, a9, hn, hd]
    exact ⟨T, ow, hT, ri, kp⟩
  | succ k =>
    have j2 : j < S.length := by omega
    have j1 : (j : Int) < S.length := by omega
    obtain ⟨r, q, ro, z, cs, rfl, hg, hz, hs, hok⟩ := (x.keep kp).at j2
    obtain ⟨s, es⟩ : ∃ s, S[j] = s := ⟨_, rfl⟩
    rw [es] at hs hok
    obtain ⟨B, d, eb, _⟩ := hok.b
    have l4 := h4 S[j] (List.getElem_mem j2)
    rw [es] at l4
    obtain ⟨m, em⟩ : ∃ m, s.sec % 1000 = m := ⟨_, rfl⟩
    have w0 : (s.sec : Int).tmod 1000 = (m : Int) := by
      rw [Int.tmod_eq_emod_of_nonneg (by omega)]
      omega
    obtain ⟨b, eb2⟩ : ∃ b, a + m = b := ⟨_, rfl⟩
    have w2 : (a : Int) + (m : Int) = (b : Int) := by omega
    have z1 : zeros #[Value.int .u32 0, Value.int .u32 0, Value.int .u32 0, Value.slice none 0 0] 1 = [Value.int .u32 0, Value.int .u32 0, Value.int .u32 0, Value.slice none 0 0] := rfl
    have ok2 : SH.ok ⟨b, 0, s.had, s.xs, .slice B s.xs.length d⟩ (h1.push (.row false 0 [.int .u32 b, .int .u32 0, .int .u32 s.had, .slice B s.xs.length d])) := ⟨(eb ▸ hok.b).keep (Keep.push _ _), by show b < _; omega, by show 0 < _; omega⟩
    have z0 := kp.le
    obtain ⟨v', h', ap, ow2, f1, z2⟩ := app_own (s := ⟨b, 0, s.had, s.xs, .slice B s.xs.length d⟩) (ow.keep (Keep.push _ _)) ok2 l4 (by omega) (by rw [IHeap.size_push']; omega)
    simp only [SH.cells, IHeap.size_push'] at ap f1 z2
    rw [show (((0 : Nat)) : Int) = 0 from rfl] at ap
    simp (maxSteps := 1000000) (disch := first | (simp; done) | (simp only [IHeap.size_push', IHeap.size_set']; omega) | omega) [a3, a4, a7, a8, a9, hn, hd, j1, j2, hg, hs, SH.cells, eb, w0, w2, z1, ap]
    have hm : m ≤ 999 := by omega
    have tm : SH.time ⟨b, 0, s.had, s.xs, .slice B s.xs.length d⟩ = b * 1000000 := by
      show b * 1000000 + 0 = _
      rw [Nat.add_zero]
    have ab : a * 1000000 ≤ b * 1000000 := Nat.mul_le_mul_right _ (by omega)
    refine ⟨k, by omega, j + 1, by omega, _, b, rfl, by omega, ow2, by rw [List.length_append, hT]; rfl, ?_, fun t ht => ?_, by omega, ?_⟩
    · refine List.pairwise_append.2 ⟨ri, List.pairwise_singleton _ _, fun t ht u hu => ?_⟩
      rw [List.mem_singleton] at hu
      subst hu
      rw [tm]
      exact Nat.le_trans (tb t ht) ab
    · rw [List.mem_append, List.mem_singleton] at ht
      rcases ht with ht | rfl
      · exact Nat.le_trans (tb t ht) ab
      · rw [tm]
        exact Nat.le_refl _
    · refine ⟨by omega, fun i hi => ?_⟩
      rw [f1 i hi]
      exact (kp.push' _).eq i hi
/-- In the window. -/
def inW (lo hi : Nat) (s : SH) : Bool := decide (lo ≤ s.time) && decide (s.time < hi)
theorem window_c {h : IHeap} {v : Value} {S : List SH} {lo hi : Nat} (x : ShS h v S) (hS : S.length ≤ 200) (h4 : ∀ s ∈ S, s.xs.length ≤ 400) : FN Try.prog 17 #[v, .int .u64 lo, .int .u64 hi] h (Q := ⟨fun v h' => ∃ T, OwnS h.size h' v T ∧ T.length = S.countP (inW lo hi) ∧ Keep h h'⟩) := by
  obtain ⟨A, c, rfl, _⟩ := id x
  refine FN.enter mixed (fn := Try.f17) (by kernel_rfl) rfl (by kernel_rfl) fun e hn hg hd => ?_
  simp [Try.f17] at hn
  have a0 : e.get 0 = .slice A S.length c := hg 0 (by omega)
  have a1 : e.get 1 = .int .u64 lo := hg 1 (by omega)
  have a2 : e.get 2 = .int .u64 hi := hg 2 (by omega)
  clear hg
  simp (maxSteps := 1000000) (disch := first | (simp; done) | (simp only [IHeap.size_push', IHeap.size_set']; omega) | omega) [a0, a1, a2, hn, hd]
  refine WPL.by_inv mixed (by kernel_rfl) (fun k e h' => ∃ (j : Nat) (T : List SH) (w : Value), j + k = S.length ∧ e.n = 33 ∧ e.dfr = [] ∧ e.get 1 = .int .u64 lo ∧ e.get 2 = .int .u64 hi ∧ e.get 6 = w ∧ e.get 10 = .slice A S.length c ∧ e.get 11 = .int .i64 S.length ∧ e.get 12 = .int .i64 j ∧ OwnS h.size h' w T ∧ T.length = (S.take j).countP (inW lo hi) ∧ Keep h h') S.length ?_ ?_
  · refine ⟨0, [], .slice none 0 0, ?_⟩
    simp (maxSteps := 1000000) (disch := first | (simp; done) | (simp only [IHeap.size_push', IHeap.size_set']; omega) | omega) [a0, a1, a2, hn, hd]
    exact ⟨⟨.inl ⟨rfl, rfl⟩, fun t ht => by simp at ht⟩, Keep.refl h⟩
  clear hn hd a0 a1 a2 e
  rintro k e h1 ⟨j, T, w, hj, hn, hd, a1, a2, a6, a10, a11, a12, ow, hT, kp⟩
  cases k with
  | zero =>
    obtain rfl : j = S.length := by omega
    simp (maxSteps := 1000000) (disch := first | (simp; done) | (simp only [IHeap.size_push', IHeap.size_set']; omega) | omega) [a1, a2, a6, a10, a11, a12, hn, hd]
    rw [List.take_length] at hT
    exact ⟨T, ow, hT, kp⟩
  | succ k =>
    have j2 : j < S.length := by omega
    have j1 : (j : Int) < S.length := by omega
    obtain ⟨r, q, ro, z, cs, rfl, hg, hz, hs, hok⟩ := (x.keep kp).at j2
    obtain ⟨s, es⟩ : ∃ s, S[j] = s := ⟨_, rfl⟩
    have z0 := kp.le
    have ht1 : S.take (j + 1) = S.take j ++ [s] := by rw [List.take_succ_eq_append_getElem j2, es]
    rw [es] at hs hok
    obtain ⟨B, d, eb, _⟩ := hok.b
    have l4 := h4 S[j] (List.getElem_mem j2)
    rw [es] at l4
    have tc := time_c (hok.keep (Keep.push h1 (.row false 0 s.cells)))
    simp only [SH.val, SH.cells, eb] at tc
    simp (maxSteps := 1000000) (disch := first | (simp; done) | (simp only [IHeap.size_push', IHeap.size_set']; omega) | omega) [a1, a2, a6, a10, a11, a12, hn, hd, j1, j2, hg, hs, SH.cells, eb]
    refine FN.of tc ?_
    obtain ⟨t, ht⟩ : ∃ t, s.time = t := ⟨_, rfl⟩
    rw [ht]
    have z0 := kp.le
    have kq := (kp.push' (.row false 0 s.cells)).push' (.row false 0 s.cells)
    have ow2 := ow.keep ((Keep.push h1 (.row false 0 s.cells)).push' (.row false 0 s.cells))
    simp only [SH.cells, eb] at kq ow2
    by_cases c1 : lo ≤ t
    · by_cases c2 : t < hi
      · have iw : inW lo hi s = true := by
          unfold inW
          rw [ht, decide_eq_true c1, decide_eq_true c2]
          rfl
        simp (maxSteps := 1000000) (disch := first | (simp; done) | (simp only [IHeap.size_push', IHeap.size_set']; omega) | omega) [a1, a2, a6, a10, a11, a12, hn, hd, j1, j2, hg, hs, SH.cells, eb, c1, c2]
        have ok2 := hok.keep ((Keep.push h1 (.row false 0 s.cells)).push' (.row false 0 s.cells))
        have oc := own_c ok2 l4
        simp only [SH.val, SH.cells, eb] at oc
        refine FN.mono oc ?_
        rintro v h2 ⟨⟨sl', rfl, ok3⟩, k2⟩
        simp only [SH.cells, eb] at k2
        have z3 := k2.le
        simp only [IHeap.size_push'] at z3
        obtain ⟨v', h', ap, ow3, f1, z2⟩ := app_own (ow2.keep k2) ok3 l4 (by rw [hT]; have := List.countP_le_length (p := inW lo hi) (l := S.take j); rw [List.length_take] at this; omega) (by omega)
        obtain ⟨B', d', eb', _⟩ := ok3.b
        dsimp only at eb'
        subst eb'
        simp only [SH.cells] at ap
        have z1 : zeros #[Value.int .u32 0, Value.int .u32 0, Value.int .u32 0, Value.slice none 0 0] 1 = [Value.int .u32 0, Value.int .u32 0, Value.int .u32 0, Value.slice none 0 0] := rfl
        simp (maxSteps := 1000000) (disch := first | (simp; done) | (simp only [IHeap.size_push', IHeap.size_set']; omega) | omega) [a1, a2, a6, a10, a11, a12, hn, hd, SH.val, SH.cells, z1, ap]
        refine ⟨k, by omega, j + 1, by omega, by omega, _, ow3, ?_, ?_⟩
        · rw [ht1, List.countP_append, List.length_append, hT, List.countP_singleton, iw]
          rfl
        · exact ⟨by omega, fun i hi => by rw [f1 i (by omega)]; exact (kq.trans k2).eq i hi⟩
      · have iw : inW lo hi s = false := by
          unfold inW
          rw [ht, decide_eq_false c2, Bool.and_false]
        simp (maxSteps := 1000000) (disch := first | (simp; done) | (simp only [IHeap.size_push', IHeap.size_set']; omega) | omega) [a1, a2, a6, a10, a11, a12, hn, hd, j1, j2, hg, hs, SH.cells, eb, c1, c2]
        refine ⟨k, by omega, j + 1, by omega, by omega, T, ow2, ?_, kq⟩
        rw [ht1, List.countP_append, hT, List.countP_singleton, iw]
        rfl
    · have iw : inW lo hi s = false := by
        unfold inW
        rw [ht, decide_eq_false c1, Bool.false_and]
      simp (maxSteps := 1000000) (disch := first | (simp; done) | (simp only [IHeap.size_push', IHeap.size_set']; omega) | omega) [a1, a2, a6, a10, a11, a12, hn, hd, j1, j2, hg, hs, SH.cells, eb, c1]
      refine ⟨k, by omega, j + 1, by omega, by omega, T, ow2, ?_, kq⟩
      rw [ht1, List.countP_append, hT, List.countP_singleton, iw]
      rfl
end Go.Proofs.Ytkpbdhfaobmbpaa.Ideal
