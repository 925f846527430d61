import Derived.Test.YtnmbpehficchkaaP44s
noncomputable section
open Go.Proofs
namespace Go.Proofs.Ytnmbpehficchkaa.Ideal
open Go.RowKit
set_option linter.unusedSimpArgs false
set_option linter.unusedVariables false
set_option linter.unusedSectionVars false
set_option maxRecDepth 100000
set_option maxHeartbeats 4000000
attribute [-simp] IHeap.size_set IHeap.size_push
attribute [local simp ↓] Hid.ap_mk
attribute [local simp] scopeQ_normal scopeQ_ret scopeQ_exit WP_skip WP_label WP_exit WP_goto WP_ret WP_region WP_seq WP_cond WP_block WP_scope WP_loop WP_range thenQ_normal thenQ_ret thenQ_exit thenQ_goto loopQ_normal loopQ_ret loopQ_exit invQ_normal invQ_ret invQ_exit outOf_normal outOf_ret outOf_goto outOf_exit ev_tmp ev_const ev_func
  wops_nil wops_cons wantedE_none wantedE_some jgd_some wnx_eq niC_false wdo_move wdo_assign wdo_pick wdo_load wdo_store wdo_alloc wdo_box wdo_fieldAddr wdo_indexAddr wdo_field wdo_extract wdo_build wdo_buildSlice wdo_makeSlice wdo_binOp wdo_unOp wdo_makeFunc wdo_nilCheck wdo_callV wdo_len wdo_append wdo_copy wdo_delete wdo_max wdo_min wdo_convert jcvt_int
  xput_get put_n put_none put_dfr ibin finQ_n finQ_r finD_nil splice_one ires_nil ires_one ires_two ires_three ires1_tmp ires1_cell jcell_ptr rowLoad_row wrap64 wrapU64 wrapU8 wrapU16 wrapU32 callV_fn buildOf Instr.fill Value.cells Value.oneCell' kindOf slots_all splice_all IHeap.size_set' IHeap.size_push' IHeap.get_set_same IHeap.get_set_ne IHeap.get_pushed IHeap.get_push_ne IHeap.set_set IHeap.set_push IHeap.set_pushed IHeap.set_set3 getU_nil getU_same getU_ne jif_true jif_false pushH_eq setH_eq forceL_eq forceV_eq ibuildSlice
attribute [local simp] wdo_index jopt_some
attribute [-simp] Value.oneCell'
attribute [local simp] one_int' one_slc'
/-- Counters in a row of one's own. -/
def SlC (h : IHeap) (v : Value) (L : List CN) : Prop := (v = .slice none 0 0 ∧ L = []) ∨ ∃ j, v = .slice (some ⟨j, 0, none⟩) L.length L.length ∧ h.get j = some (.row false 39 (ccs L))
theorem SlC.keep {h h' : IHeap} {v : Value} {L : List CN} (x : SlC h v L) (k : Keep h h') : SlC h' v L := x.imp id fun ⟨j, h1, h2⟩ => ⟨j, h1, k.get h2⟩
theorem eqK (d e : Nat) : aggEq Try.prog 45 .eql (.agg (keyC d).toArray) (.agg (keyC e).toArray) = some (.bool (decide (d = e))) := eq45 d e
theorem same_c {h : IHeap} {c : CN} {b d : Nat} (hb : h.get b = some (.row false 0 (keyC d))) : ICall Try.prog 48 #[.agg c.cells.toArray, .pointer (some ⟨b, 0, none⟩)] h (.bool (decide (c.d = d))) (h.push (.row false 0 c.cells)) := by
  refine ICall.of_FN ?_
  have hbl := IHeap.get_lt hb
  have hb2 := (Keep.push h (.row false 0 c.cells)).get hb
  have kf : slots (keyC d) 0 36 = some (keyC d) := slots_full _ (keyC_len d).symm
  refine FN.enter mixed (fn := Try.f48) (by kernel_rfl) rfl (by kernel_rfl) fun e hn hg hd => ?_
  simp [Try.f48] at hn
  have a0 : e.get 0 = .agg c.cells.toArray := hg 0 (by omega)
  have a1 : e.get 1 = .pointer (some ⟨b, 0, none⟩) := hg 1 (by omega)
  clear hg
  simp (maxSteps := 1000000) (disch := first | (simp; done) | (simp only [IHeap.size_push', IHeap.size_set']; omega) | omega) [a0, a1, hn, hd, hb, hb2, one_cn, cn_key, kf, eqK]
/-- Where a key's counter is. -/
def At (L : List CN) (d : Nat) (v : Int) : Prop := (∃ (i : Nat) (hi : i < L.length), L[i].d = d ∧ v = i) ∨ ((∀ c ∈ L, c.d ≠ d) ∧ v = -1)
theorem SlC.at {h : IHeap} {A : Option Addr} {n cc : Nat} {L : List CN} (x : SlC h (.slice A n cc) L) : n = L.length ∧ (∀ i, (hi : i < L.length) → ∃ j, A = some ⟨j, 0, none⟩ ∧ cc = L.length ∧ h.get j = some (.row false 39 (ccs L))) := by
  rcases x with ⟨e, rfl⟩ | ⟨j, e, hg⟩
  · cases e
    exact ⟨rfl, fun i hi => by simp at hi⟩
  · cases e
    exact ⟨rfl, fun i hi => ⟨j, rfl, rfl, hg⟩⟩
theorem SlC.form {h : IHeap} {v : Value} {L : List CN} (x : SlC h v L) : ∃ A c, v = .slice A L.length c := by
  rcases x with ⟨rfl, rfl⟩ | ⟨j, rfl, _⟩
  · exact ⟨_, _, rfl⟩
  · exact ⟨_, _, rfl⟩
theorem index_c {h : IHeap} {v : Value} {L : List CN} {b d : Nat} (x : SlC h v L) (hL : L.length ≤ 200) (hb : h.get b = some (.row false 0 (keyC d))) : FN Try.prog 47 #[v, .func (.func 48) #[] #[.pointer (some ⟨b, 0, none⟩)]] h (Q := ⟨fun v h' => ∃ n, v = .int .i64 n ∧ At L d n ∧ Keep h h'⟩) := by
  obtain ⟨A, c, rfl⟩ := x.form
  refine FN.enter mixed (fn := Try.f47) (by kernel_rfl) rfl (by kernel_rfl) fun e hn hg hd => ?_
  simp [Try.f47] at hn
  have a0 : e.get 0 = .slice A L.length c := hg 0 (by omega)
  have a1 : e.get 1 = .func (.func 48) #[] #[.pointer (some ⟨b, 0, none⟩)] := hg 1 (by omega)
  clear hg
  simp (maxSteps := 1000000) (disch := first | (simp; done) | (simp only [IHeap.size_push', IHeap.size_set']; omega) | omega) [a0, a1, hn, hd]
  refine WPL.by_inv mixed (by kernel_rfl) (fun k e h' => ∃ (j : Nat), j + k = L.length ∧ e.n = 19 ∧ e.dfr = [] ∧ e.get 0 = .slice A L.length c ∧ e.get 1 = .func (.func 48) #[] #[.pointer (some ⟨b, 0, none⟩)] ∧ e.get 6 = .slice A L.length c ∧ e.get 7 = .int .i64 L.length ∧ e.get 8 = .int .i64 j ∧ Keep h h' ∧ ∀ (i : Nat) (hi : i < L.length), i < j → L[i].d ≠ d) L.length ?_ ?_
  · refine ⟨0, ?_⟩
    simp (maxSteps := 1000000) (disch := first | (simp; done) | (simp only [IHeap.size_push', IHeap.size_set']; omega) | omega) [a0, a1, hn, hd]
    exact Keep.refl h
  clear hn hd a0 a1 e
  rintro k e h1 ⟨j, hj, hn, hd, a0, a1, a6, a7, a8, kp, hne⟩
  cases k with
  | zero =>
    obtain rfl : j = L.length := by omega
    simp (maxSteps := 1000000) (disch := first | (simp; done) | (simp only [IHeap.size_push', IHeap.size_set']; omega) | omega) [a0, a1, a6, a7, a8, hn, hd]
    refine ⟨.inr ⟨fun c hc => ?_, rfl⟩, kp⟩
    obtain ⟨i, hi, rfl⟩ := List.mem_iff_getElem.1 hc
    exact hne i hi hi
  | succ k =>
    have j2 : j < L.length := by omega
    have j1 : (j : Int) < L.length := by omega
    obtain ⟨r, rfl, _, hr⟩ := (x.keep kp).at.2 j j2
    obtain ⟨cn, hcn⟩ : ∃ cn, L[j] = cn := ⟨_, rfl⟩
    have sl := fm_at cn_len L j j2
    rw [hcn] at sl
    change slots (ccs L) (j * 39) 39 = some cn.cells at sl
    have sc := same_c (c := cn) (d := d) (kp.get hb)
    simp (maxSteps := 1000000) (disch := first | (simp; done) | (simp only [IHeap.size_push', IHeap.size_set']; omega) | omega) [a0, a1, a6, a7, a8, hn, hd, j1, j2, hr, sl]
    refine FN.of sc ?_
    by_cases e : cn.d = d
    · simp (maxSteps := 1000000) (disch := first | (simp; done) | (simp only [IHeap.size_push', IHeap.size_set']; omega) | omega) [a0, a1, a6, a7, a8, hn, hd, e]
      exact ⟨.inl ⟨j, j2, by rw [hcn]; exact e, rfl⟩, kp.push' _⟩
    · simp (maxSteps := 1000000) (disch := first | (simp; done) | (simp only [IHeap.size_push', IHeap.size_set']; omega) | omega) [a0, a1, a6, a7, a8, hn, hd, e]
      refine ⟨k, by omega, j + 1, by omega, by omega, kp.push' _, fun i hi hij => ?_⟩
      by_cases e2 : i = j
      · subst e2
        rw [hcn]
        exact e
      · exact hne i hi (by omega)
theorem of_c {h : IHeap} {T k turns total d : Nat} {sl : Value} {L : List CN} (hT : h.get T = some (.row false 0 (tkr k sl turns total))) (x : SlC h sl L) (hL : L.length ≤ 200) : FN Try.prog 33 #[.pointer (some ⟨T, 0, none⟩), keyV d] h (Q := ⟨fun v h' => ∃ n, v = .tuple #[.int .i64 n, .bool (decide (0 ≤ n))] ∧ At L d n ∧ Keep h h'⟩) := by
  have hT2 := (Keep.push h (.row false 0 (keyC d))).get hT
  rw [tkr] at hT hT2
  have ic := index_c (x.keep (Keep.push h (.row false 0 (keyC d)))) hL (IHeap.get_pushed _ rfl)
  obtain ⟨A, c, rfl⟩ := x.form
  refine FN.enter mixed (fn := Try.f33) (by kernel_rfl) rfl (by kernel_rfl) fun e hn hg hd => ?_
  simp [Try.f33] at hn
  have a0 : e.get 0 = .pointer (some ⟨T, 0, none⟩) := hg 0 (by omega)
  have a1 : e.get 1 = keyV d := hg 1 (by omega)
  clear hg
  simp (maxSteps := 1000000) (disch := first | (simp; done) | (simp only [IHeap.size_push', IHeap.size_set']; omega) | omega) [a0, a1, hn, hd, keyV, one_key, hT2]
  refine FN.mono ic ?_
  rintro v h1 ⟨n, rfl, at', k1⟩
  simp (maxSteps := 1000000) (disch := first | (simp; done) | (simp only [IHeap.size_push', IHeap.size_set']; omega) | omega) [a0, a1, hn, hd]
  exact ⟨n, ⟨rfl, Iff.rfl⟩, at', (Keep.push _ _).trans k1⟩
end Go.Proofs.Ytnmbpehficchkaa.Ideal
