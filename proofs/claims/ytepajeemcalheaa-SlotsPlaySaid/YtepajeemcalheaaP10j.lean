import Derived.Test.YtepajeemcalheaaP10i
noncomputable section
open Go.Proofs
namespace Go.Proofs.Ytepajeemcalheaa.Ideal
open Go.RowKit
set_option linter.unusedSimpArgs false
set_option linter.unusedVariables false
set_option linter.unusedSectionVars false
set_option maxRecDepth 100000
set_option maxHeartbeats 4000000
attribute [-simp] IHeap.size_set IHeap.size_push
attribute [local simp ↓] Hid.ap_mk
attribute [local simp] scopeQ_normal scopeQ_ret scopeQ_exit WP_skip WP_label WP_exit WP_goto WP_ret WP_region WP_seq WP_cond WP_block WP_scope WP_loop WP_range thenQ_normal thenQ_ret thenQ_exit thenQ_goto loopQ_normal loopQ_ret loopQ_exit invQ_normal invQ_ret invQ_exit outOf_normal outOf_ret outOf_goto outOf_exit ev_tmp ev_const ev_func
  wops_nil wops_cons wantedE_none wantedE_some jgd_some wnx_eq niC_false wdo_move wdo_assign wdo_pick wdo_load wdo_store wdo_alloc wdo_box wdo_fieldAddr wdo_indexAddr wdo_field wdo_extract wdo_build wdo_buildSlice wdo_makeSlice wdo_binOp wdo_unOp wdo_makeFunc wdo_nilCheck wdo_callV wdo_len wdo_append wdo_copy wdo_delete wdo_max wdo_min wdo_convert jcvt_int
  xput_get put_n put_none put_dfr ibin finQ_n finQ_r finD_nil splice_one ires_nil ires_one ires_two ires_three ires1_tmp ires1_cell jcell_ptr rowLoad_row wrap64 wrapU64 wrapU8 wrapU16 wrapU32 callV_fn buildOf Instr.fill Value.cells Value.oneCell' kindOf slots_all splice_all IHeap.size_set' IHeap.size_push' IHeap.get_set_same IHeap.get_set_ne IHeap.get_pushed IHeap.get_push_ne IHeap.set_set IHeap.set_push IHeap.set_pushed IHeap.set_set3 getU_nil getU_same getU_ne jif_true jif_false pushH_eq setH_eq forceL_eq forceV_eq ibuildSlice
attribute [local simp] wdo_index jopt_some fb_known wdo_cut29
attribute [-simp] Value.oneCell'
attribute [local simp] one_int' one_bool' one_ptr' one_slc'
variable {h : IHeap} {w u q n m : Nat} {L : Nat → List Nat} {cs : Nat → Value} {s k : Nat} {b f : Nat → Nat} {t : Nat → Int}
theorem rcopy_c (x : RIs h w u q n m L cs) : ICall Try.prog 19 #[.pointer (some ⟨w, 0, none⟩)] h (.pointer (some ⟨h.size, 0, none⟩)) (h.push (.row false 0 [.slice (some ⟨u, 0, none⟩) m m, .int .i64 n])) := by
  refine ICall.of_FN ?_
  refine FN.enter mixed (fn := Try.f19) (by kernel_rfl) rfl (by kernel_rfl) fun e hn hg hd => ?_
  simp [Try.f19] at hn
  have a0 : e.get 0 = .pointer (some ⟨w, 0, none⟩) := hg 0 (by omega)
  clear hg
  have gw := x.gw
  simp (maxSteps := 1000000) (disch := first | (simp; done) | (simp only [IHeap.size_push', IHeap.size_set']; omega) | omega) [a0, hn, hd, gw]
  exact niC_pend [] (by kernel_rfl) trivial
theorem mk_slcs {h : IHeap} (n : Nat) (hn : n ≤ 70000) : imakeSlice Try.prog h 61 (.int .i64 n) (.int .i64 n) = some (.slice (some ⟨h.size, 0, none⟩) n n, h.push (.row false 1 ((List.range n).map fun _ => Value.slice none 0 0)), .alloc) := by
  have h2 : (0 : Int) ≤ n := by omega
  have h3 : (n : Int) < 9223372036854775808 := by omega
  have h4 : 24 * (n : Int) ≤ 140737488355328 := by omega
  have e : zeros #[Value.slice none 0 0] n = (List.range n).map fun _ => Value.slice none 0 0 := by
    apply List.ext_getElem?
    intro j
    by_cases hj : j < n
    · simp [zeros, hj]
    · simp [zeros, hj]
  unfold imakeSlice
  simp [h2, h3, h4, e]
theorem rnew_c {h : IHeap} {q m n : Nat} (hm : 1 ≤ m) (hm2 : m ≤ 12) (hn : n ≤ 60) : FN Try.prog 13 #[.int .i64 m, .int .i64 n] h (Q := ⟨fun v h' => v = .pointer (some ⟨h.size + 1, 0, none⟩) ∧ (∃ cs, RIs h' (h.size + 1) h.size q n m (fun _ => []) cs) ∧ h'.size = h.size + 2 ∧ ∀ i, i < h.size → h'.get i = h.get i⟩) := by
  have hn' := hn
  clear hn
  refine FN.enter mixed (fn := Try.f13) (by kernel_rfl) rfl (by kernel_rfl) fun e hn hg hd => ?_
  simp [Try.f13] at hn
  have a0 : e.get 0 = .int .i64 m := hg 0 (by omega)
  have a1 : e.get 1 = .int .i64 n := hg 1 (by omega)
  clear hg
  simp (maxSteps := 1000000) (disch := first | (simp; done) | (simp only [IHeap.size_push', IHeap.size_set']; omega) | omega) [a0, a1, hn, hd, mk_slcs m (by omega)]
  refine ⟨⟨_, ⟨by simp (maxSteps := 1000000) (disch := first | (simp; done) | (simp only [IHeap.size_push', IHeap.size_set']; omega) | omega) [], by simp (maxSteps := 1000000) (disch := first | (simp; done) | (simp only [IHeap.size_push', IHeap.size_set']; omega) | omega) [], fun l hl => ⟨none, rfl, fun h => absurd rfl h⟩, hm2, hn', hm⟩⟩, fun i hi => by simp (maxSteps := 1000000) (disch := first | (simp; done) | (simp only [IHeap.size_push', IHeap.size_set']; omega) | omega) []⟩
theorem where_c (x : SIs h s k q n m L b f t) (c : Int) : FN Try.prog 21 #[.pointer (some ⟨s, 0, none⟩), .int .i64 c] h (Q := ⟨fun v h' => WhV m L c v ∧ h' = h⟩) := by
  refine FN.enter mixed (fn := Try.f21) (by kernel_rfl) rfl (by kernel_rfl) fun e hn hg hd => ?_
  simp [Try.f21] at hn
  have a0 : e.get 0 = .pointer (some ⟨s, 0, none⟩) := hg 0 (by omega)
  have a1 : e.get 1 = .int .i64 c := hg 1 (by omega)
  clear hg
  have gs := x.gs
  have gk := x.gk
  simp (maxSteps := 1000000) (disch := first | (simp; done) | (simp only [IHeap.size_push', IHeap.size_set']; omega) | omega) [a0, a1, hn, hd]
  refine FN.of (isCell_c x c) ?_
  by_cases hc : 0 ≤ c ∧ c < n
  · obtain ⟨d, rfl⟩ : ∃ d : Nat, c = d := ⟨c.toNat, by omega⟩
    have hd3 : (d : Int) < n + m := by omega
    have hd4 : d < n + m := by omega
    have gt := rowL_t (b := b) (f := f) (t := t) hd4
    have md : d * 3 = 3 * d := by omega
    have hc2 := hc.2
    by_cases ht : t d < 0
    · simp (maxSteps := 1000000) (disch := first | (simp; done) | (simp only [IHeap.size_push', IHeap.size_set']; omega) | omega) [a0, a1, hn, hd, undef, hc, hc2, gs, gk, hd3, hd4, gt, md, ht]
      exact .inr ⟨fun l hl y hy e => x.rep.free ht l hl (by
        have : y = d := by omega
        rw [← this]; exact hy), rfl⟩
    · obtain ⟨l, hl, h1, h2⟩ := x.rep.on (by omega) ht
      simp (maxSteps := 1000000) (disch := first | (simp; done) | (simp only [IHeap.size_push', IHeap.size_set']; omega) | omega) [a0, a1, hn, hd, undef, hc, hc2, gs, gk, hd3, hd4, gt, md, ht]
      exact .inl ⟨l, hl, ⟨d, h2, rfl⟩, by rw [h1]⟩
  · simp (maxSteps := 1000000) (disch := first | (simp; done) | (simp only [IHeap.size_push', IHeap.size_set']; omega) | omega) [a0, a1, hn, hd, undef, hc]
    exact .inr ⟨fun l hl y hy e => by
      have := (x.rep.mem l hl y hy).1
      omega, rfl⟩
theorem clone50_c {N : Nat} (hN1 : 1 ≤ N) (hN : N ≤ 1000) {b f : Nat → Nat} {t : Nat → Int} (g : h.get k = some (.row false 3 (rowL N b f t))) :
    FN Try.prog 31 #[.slice (some ⟨k, 0, none⟩) N N] h (Q := ⟨fun v h' => ∃ r, v = .slice (some ⟨r, 0, none⟩) N N ∧ h.size ≤ r ∧ h'.get r = some (.row false 3 (rowL N b f t)) ∧ h.size ≤ h'.size ∧ ∀ i, i < h.size → h'.get i = h.get i⟩) := by
  refine FN.enter mixed (fn := Try.f31) (by kernel_rfl) rfl (by kernel_rfl) fun e hn hg hd => ?_
  simp [Try.f31] at hn
  have a0 : e.get 0 = .slice (some ⟨k, 0, none⟩) N N := hg 0 (by omega)
  clear hg
  have kz := IHeap.get_lt g
  obtain ⟨h2, j2, ap, r2, k2, z2, f2⟩ := iapp_any (P := Try.prog) (h := h.push (.row false 3 [])) (t := 50) (t2 := 50) (i := h.size) (n := 0) (m := N) (cs := []) (news := rowL N b f t) (x := .slice (some ⟨k, 0, none⟩) N N) sl50 ze58 bt58 (by rfl) (by omega) ni50 (src_row (by rw [IHeap.get_push_ne _ (by omega)]; exact g) (slots_full _ (by rw [rowL_len, Nat.mul_comm])) (by omega)) (List.all_eq_true.2 (rowL_one N b f t)) (by rw [rowL_len, Nat.mul_comm]) (by omega) (IHeap.get_pushed _ rfl) rfl
  simp only [IHeap.size_push', Nat.zero_add, List.nil_append] at ap r2 k2 z2 f2
  simp (maxSteps := 1000000) (disch := first | (simp; done) | (simp only [IHeap.size_push', IHeap.size_set']; omega) | omega) [a0, hn, hd, zeros, ap]
  exact ⟨by omega, r2, by omega, fun i hi => by rw [k2 i (by omega) (by omega), IHeap.get_push_ne _ (by omega)]⟩
theorem clone29_c {m : Nat} (hN1 : 1 ≤ m) (hN : m ≤ 1000) (g : h.get k = some (.row false 1 (manyR m L))) :
    FN Try.prog 32 #[.slice (some ⟨k, 0, none⟩) m m] h (Q := ⟨fun v h' => ∃ r, v = .slice (some ⟨r, 0, none⟩) m m ∧ h.size ≤ r ∧ h'.get r = some (.row false 1 (manyR m L)) ∧ h.size ≤ h'.size ∧ ∀ i, i < h.size → h'.get i = h.get i⟩) := by
  refine FN.enter mixed (fn := Try.f32) (by kernel_rfl) rfl (by kernel_rfl) fun e hn hg hd => ?_
  simp [Try.f32] at hn
  have a0 : e.get 0 = .slice (some ⟨k, 0, none⟩) m m := hg 0 (by omega)
  clear hg
  have kz := IHeap.get_lt g
  obtain ⟨h2, j2, ap, r2, k2, z2, f2⟩ := iapp_any (P := Try.prog) (h := h.push (.row false 1 [])) (t := 29) (t2 := 29) (i := h.size) (n := 0) (m := m) (cs := []) (news := manyR m L) (x := .slice (some ⟨k, 0, none⟩) m m) sl29 ze3 bt3 (by rfl) (by omega) ni29 (src_row (by rw [IHeap.get_push_ne _ (by omega)]; exact g) (slots_full _ (by rw [manyR_len]; omega)) (by omega)) (by
    rw [List.all_eq_true]
    intro v hv
    obtain ⟨j, _, rfl⟩ := List.mem_map.1 hv
    rfl) (by rw [manyR_len]; omega) (by omega) (IHeap.get_pushed _ rfl) rfl
  simp only [IHeap.size_push', Nat.zero_add, List.nil_append] at ap r2 k2 z2 f2
  simp (maxSteps := 1000000) (disch := first | (simp; done) | (simp only [IHeap.size_push', IHeap.size_set']; omega) | omega) [a0, hn, hd, zeros, ap]
  exact ⟨by omega, r2, by omega, fun i hi => by rw [k2 i (by omega) (by omega), IHeap.get_push_ne _ (by omega)]⟩
theorem copy_c (x : SIs h s k q n m L b f t) (hm : m ≤ 12) (hn' : n ≤ 60) : FN Try.prog 18 #[.pointer (some ⟨s, 0, none⟩)] h (Q := ⟨fun v h' => ∃ s' k' q', v = .pointer (some ⟨s', 0, none⟩) ∧ SIs h' s' k' q' n m L b f t ∧ h.size ≤ s' ∧ h.size ≤ k' ∧ h.size ≤ q' ∧ h.size ≤ h'.size ∧ ∀ i, i < h.size → h'.get i = h.get i⟩) := by
  refine FN.enter mixed (fn := Try.f18) (by kernel_rfl) rfl (by kernel_rfl) fun e hn hg hd => ?_
  simp [Try.f18] at hn
  have a0 : e.get 0 = .pointer (some ⟨s, 0, none⟩) := hg 0 (by omega)
  clear hg
  have gs := x.gs
  have gk := x.gk
  have gq := x.gq
  have n1 := x.n1
  have m1 := x.m1
  have sz := IHeap.get_lt gs
  have qz := IHeap.get_lt gq
  have n0 : ¬ n = 0 := by omega
  simp (maxSteps := 1000000) (disch := first | (simp; done) | (simp only [IHeap.size_push', IHeap.size_set']; omega) | omega) [a0, hn, hd]
  refine FN.of (cells_c x) ?_
  simp (maxSteps := 1000000) (disch := first | (simp; done) | (simp only [IHeap.size_push', IHeap.size_set']; omega) | omega) [a0, hn, hd, n0, gs]
  refine FN.mono (clone50_c (N := n + m) (by omega) (by omega) gk) ?_
  rintro _ h2 ⟨r, rfl, hr, gr, z2, o2⟩
  have gs2 : h2.get s = some (.row false 0 [.slice (some ⟨k, 0, none⟩) (n + m) (n + m), .slice (some ⟨q, 0, none⟩) m m]) := by rw [o2 s sz]; exact gs
  have gq2 : h2.get q = some (.row false 1 (manyR m L)) := by rw [o2 q qz]; exact gq
  have k1 : h2.get s = h.get s := o2 s sz
  simp (maxSteps := 1000000) (disch := first | (simp; done) | (simp only [IHeap.size_push', IHeap.size_set']; omega) | omega) [a0, hn, hd, n0, gs2]
  refine FN.mono (clone29_c (m := m) (by omega) (by omega) gq2) ?_
  rintro _ h3 ⟨r', rfl, hr', gr', z3, o3⟩
  simp (maxSteps := 1000000) (disch := first | (simp; done) | (simp only [IHeap.size_push', IHeap.size_set']; omega) | omega) [a0, hn, hd, n0]
  have rz := IHeap.get_lt gr
  have r3 : h3.get r = some (.row false 3 (rowL (n + m) b f t)) := by rw [o3 r rz]; exact gr
  have r3z := IHeap.get_lt r3
  have r'z := IHeap.get_lt gr'
  refine ⟨niC_pend [(4, 8)] (by kernel_rfl) ⟨k1, trivial⟩, r, r', ⟨by simp (maxSteps := 1000000) (disch := first | (simp; done) | (simp only [IHeap.size_push', IHeap.size_set']; omega) | omega) [], by rw [IHeap.get_push_ne _ (by omega)]; exact r3, by rw [IHeap.get_push_ne _ (by omega)]; exact gr', x.rep, n1, m1, x.nz, x.mz⟩, by omega, by omega, by omega, by omega, fun i hi => ?_⟩
  rw [IHeap.get_push_ne _ (by omega), o3 i (by omega), o2 i hi]
end Go.Proofs.Ytepajeemcalheaa.Ideal
