import Derived.Test.YtnmbpehficchkaaP44x
noncomputable section
open Go.Proofs
namespace Go.Proofs.Ytnmbpehficchkaa.Ideal
open Go.RowKit
set_option linter.unusedSimpArgs false
set_option linter.unusedVariables false
set_option linter.unusedSectionVars false
set_option maxRecDepth 100000
set_option maxHeartbeats 4000000
attribute [-simp] IHeap.size_set IHeap.size_push
attribute [local simp ↓] Hid.ap_mk
attribute [local simp] scopeQ_normal scopeQ_ret scopeQ_exit WP_skip WP_label WP_exit WP_goto WP_ret WP_region WP_seq WP_cond WP_block WP_scope WP_loop WP_range thenQ_normal thenQ_ret thenQ_exit thenQ_goto loopQ_normal loopQ_ret loopQ_exit invQ_normal invQ_ret invQ_exit outOf_normal outOf_ret outOf_goto outOf_exit ev_tmp ev_const ev_func
  wops_nil wops_cons wantedE_none wantedE_some jgd_some wnx_eq niC_false wdo_move wdo_assign wdo_pick wdo_load wdo_store wdo_alloc wdo_box wdo_fieldAddr wdo_indexAddr wdo_field wdo_extract wdo_build wdo_buildSlice wdo_makeSlice wdo_binOp wdo_unOp wdo_makeFunc wdo_nilCheck wdo_callV wdo_len wdo_append wdo_copy wdo_delete wdo_max wdo_min wdo_convert jcvt_int
  xput_get put_n put_none put_dfr ibin finQ_n finQ_r finD_nil splice_one ires_nil ires_one ires_two ires_three ires1_tmp ires1_cell jcell_ptr rowLoad_row wrap64 wrapU64 wrapU8 wrapU16 wrapU32 callV_fn buildOf Instr.fill Value.cells Value.oneCell' kindOf slots_all splice_all IHeap.size_set' IHeap.size_push' IHeap.get_set_same IHeap.get_set_ne IHeap.get_pushed IHeap.get_push_ne IHeap.set_set IHeap.set_push IHeap.set_pushed IHeap.set_set3 getU_nil getU_same getU_ne jif_true jif_false pushH_eq setH_eq forceL_eq forceV_eq ibuildSlice
attribute [local simp] wdo_index jopt_some
attribute [-simp] Value.oneCell'
attribute [local simp] one_int' one_slc'
attribute [-simp] ze80 ze47 ze45
/-- All rows stay, but one. -/
structure KR (R : Nat) (h h' : IHeap) : Prop where
  le : h.size ≤ h'.size
  eq : ∀ i, i < h.size → i ≠ R → h'.get i = h.get i
theorem KR.refl (R : Nat) (h : IHeap) : KR R h h := ⟨Nat.le_refl _, fun _ _ _ => rfl⟩
theorem KR.trans {R : Nat} {a b c : IHeap} (x : KR R a b) (y : KR R b c) : KR R a c := ⟨by have := x.le; have := y.le; omega, fun i hi hr => by have := x.le; rw [y.eq i (by omega) hr, x.eq i hi hr]⟩
theorem Keep.kr {h h' : IHeap} (k : Keep h h') (R : Nat) : KR R h h' := ⟨k.le, fun i hi _ => k.eq i hi⟩
theorem KR.set {R : Nat} {a h : IHeap} (x : KR R a h) (o : IObj) : KR R a (h.set R o) := ⟨by rw [IHeap.size_set']; exact x.le, fun i hi hr => by rw [IHeap.get_set_ne _ (fun e => hr e.symm)]; exact x.eq i hi hr⟩
/-- Talkers in a row of one's own. -/
def TS (J : Nat) (h : IHeap) (v : Value) (M : List CN) : Prop := (v = .slice none 0 0 ∧ M = []) ∨ (v = .slice (some ⟨J, 0, none⟩) M.length M.length ∧ h.get J = some (.row false 38 (tcs M)))
theorem TS.form {J : Nat} {h : IHeap} {v : Value} {M : List CN} (x : TS J h v M) : ∃ A, v = .slice A M.length M.length ∧ (M ≠ [] → A = some ⟨J, 0, none⟩ ∧ h.get J = some (.row false 38 (tcs M))) := by
  rcases x with ⟨rfl, rfl⟩ | ⟨rfl, h⟩
  · exact ⟨_, rfl, fun h => absurd rfl h⟩
  · exact ⟨_, rfl, fun _ => ⟨rfl, h⟩⟩
theorem tcs_len (L : List CN) : (tcs L).length = L.length * 38 := fm_len tal_len L
def ordF : Value := .func (.func 37) #[] #[]
theorem ins_c {h : IHeap} {v : Value} {M : List CN} {J : Nat} (x : TS J h v M) (hM : M.length ≤ 12) : FN Try.prog 61 #[v, .int .i64 0, .int .i64 M.length, ordF] h (Q := ⟨fun _ h' => ∃ M', M'.Perm M ∧ TS J h' v M' ∧ KR J h h'⟩) := by
  obtain ⟨A, rfl, hA⟩ := x.form
  refine FN.enter mixed (fn := Try.f61) (by kernel_rfl) rfl (by kernel_rfl) fun e hn hg hd => ?_
  simp [Try.f61] at hn
  have a0 : e.get 0 = .slice A M.length M.length := hg 0 (by omega)
  have a1 : e.get 1 = .int .i64 0 := hg 1 (by omega)
  have a2 : e.get 2 = .int .i64 M.length := hg 2 (by omega)
  have a3 : e.get 3 = ordF := hg 3 (by omega)
  clear hg
  rw [ordF] at a3
  simp (maxSteps := 1000000) (disch := first | (simp; done) | (simp only [IHeap.size_push', IHeap.size_set']; omega) | omega) [a0, a1, a2, a3, hn, hd]
  refine WPL.by_inv mixed (by kernel_rfl) (fun k e h' => ∃ (i : Nat) (N : List CN), k = M.length - i ∧ 1 ≤ i ∧ i ≤ 13 ∧ N.Perm M ∧ e.n = 53 ∧ e.dfr = [] ∧ e.get 0 = .slice A M.length M.length ∧ e.get 1 = .int .i64 0 ∧ e.get 2 = .int .i64 M.length ∧ e.get 3 = .func (.func 37) #[] #[] ∧ e.get 8 = .int .i64 i ∧ TS J h' (.slice A M.length M.length) N ∧ KR J h h') (M.length - 1) ?_ ?_
  · refine ⟨1, M, rfl, ?_⟩
    simp (maxSteps := 1000000) (disch := first | (simp; done) | (simp only [IHeap.size_push', IHeap.size_set']; omega) | omega) [a0, a1, a2, a3, hn, hd]
    exact ⟨x, KR.refl J h⟩
  clear hn hd a0 a1 a2 a3 e
  rintro k e h1 ⟨i, N, hk, i1, i13, pN, hn, hd, a0, a1, a2, a3, a8, ts, kr⟩
  by_cases c1 : i < M.length
  · have c1' : (i : Int) < M.length := by omega
    simp (maxSteps := 1000000) (disch := first | (simp; done) | (simp only [IHeap.size_push', IHeap.size_set']; omega) | omega) [a0, a1, a2, a3, a8, hn, hd, c1']
    refine WPL.by_inv mixed (by kernel_rfl) (fun k2 e h' => ∃ (j : Nat) (N : List CN), k2 = j ∧ j ≤ i ∧ N.Perm M ∧ e.n = 53 ∧ e.dfr = [] ∧ e.get 0 = .slice A M.length M.length ∧ e.get 1 = .int .i64 0 ∧ e.get 2 = .int .i64 M.length ∧ e.get 3 = .func (.func 37) #[] #[] ∧ e.get 8 = .int .i64 i ∧ e.get 9 = .int .i64 j ∧ TS J h' (.slice A M.length M.length) N ∧ KR J h h') i ?_ ?_
    · refine ⟨i, N, rfl, Nat.le_refl _, pN, ?_⟩
      simp (maxSteps := 1000000) (disch := first | (simp; done) | (simp only [IHeap.size_push', IHeap.size_set']; omega) | omega) [a0, a1, a2, a3, a8, hn, hd]
      exact ⟨ts, kr⟩
    clear hn hd a0 a1 a2 a3 a8 ts kr e pN
    rintro k2 e h2 ⟨j, N, rfl, hj, pN, hn, hd, a0, a1, a2, a3, a8, a9, ts, kr⟩
    cases k2 with
    | zero =>
      simp (maxSteps := 1000000) (disch := first | (simp; done) | (simp only [IHeap.size_push', IHeap.size_set']; omega) | omega) [a0, a1, a2, a3, a8, a9, hn, hd, undef]
      exact ⟨niC_pend [] (by kernel_rfl) trivial, M.length - (i + 1), by omega, i + 1, rfl, by omega, by omega, N, pN, by omega, ts, kr⟩
    | succ j =>
      have nl : N.length = M.length := pN.length_eq
      have hj1 : j + 1 < N.length := by omega
      have hj0 : j < N.length := by omega
      obtain ⟨A', e1, hA'⟩ := ts.form
      rw [nl] at e1
      simp only [Value.slice.injEq, and_true] at e1
      subst e1
      obtain ⟨rfl, hg⟩ := hA' (fun e => by rw [e] at hj0; simp at hj0)
      have s1 := fm_at tal_len N (j + 1) hj1
      have s0 := fm_at tal_len N j hj0
      change slots (tcs N) _ _ = _ at s1 s0
      have c2 : (0 : Int) < (j : Int) + 1 := by omega
      have c3 : ((j : Int) + 1) < M.length := by omega
      have c4 : (j : Int) < M.length := by omega
      have c5 : j + 1 < M.length := by omega
      have c6 : j < M.length := by omega
      have c7 : (0 : Int) ≤ (j : Int) + 1 := by omega
      have c8 : ((j : Int) + 1).toNat = j + 1 := by omega
      simp (maxSteps := 1000000) (disch := first | (simp; done) | (simp only [IHeap.size_push', IHeap.size_set']; omega) | omega) [a0, a1, a2, a3, a8, a9, hn, hd, undef, c2, c3, c4, c5, c6, c7, c8, hg, s1, s0, one_tal]
      refine FN.mono order_c ?_
      rintro v h3 ⟨n, rfl, k3⟩
      have hg3 := k3.get hg
      have hl3 := IHeap.get_lt hg3
      by_cases n0 : n < 0
      · have sp1 : splice (tcs N) ((j + 1) * 38) N[j].tal = tcs (N.set (j + 1) N[j]) := fm_splice tal_len N (j + 1) hj1 (k := 0) (vs := N[j].tal) (c := N[j]) (by rw [tal_len]; omega) (tal_set _ _)
        have sp2 : splice (tcs (N.set (j + 1) N[j])) (j * 38) N[j + 1].tal = tcs ((N.set (j + 1) N[j]).set j N[j + 1]) := fm_splice tal_len (N.set (j + 1) N[j]) j (by simpa using hj0) (k := 0) (vs := N[j + 1].tal) (c := N[j + 1]) (by rw [tal_len]; omega) (tal_set _ _)
        have wl1 : (j + 1) * 38 + 38 ≤ (tcs N).length := by rw [tcs_len]; omega
        have wl2 : j * 38 + 38 ≤ (tcs (N.set (j + 1) N[j])).length := by rw [tcs_len, List.length_set]; omega
        simp (maxSteps := 1000000) (disch := first | (simp; done) | (simp only [IHeap.size_push', IHeap.size_set']; omega) | omega) [a0, a1, a2, a3, a8, a9, hn, hd, n0, c2, c3, c4, c5, c6, c7, c8, hg3, s1, s0, one_tal, tal_len, sp1, sp2, wl1, wl2]
        exact ⟨niC_pend [] (by kernel_rfl) trivial, niC_pend [] (by kernel_rfl) trivial, j, by omega, by omega, _, (List.set_set_perm hj1 hj0).trans pN, rfl, .inr ⟨by simp [nl], IHeap.get_set_same _ hl3⟩, (kr.trans (k3.kr J)).set _⟩
      · simp (maxSteps := 1000000) (disch := first | (simp; done) | (simp only [IHeap.size_push', IHeap.size_set']; omega) | omega) [a0, a1, a2, a3, a8, a9, hn, hd, n0]
        exact ⟨niC_pend [] (by kernel_rfl) trivial, M.length - (i + 1), by omega, i + 1, rfl, by omega, by omega, N, pN, by omega, .inr ⟨by rw [nl], hg3⟩, kr.trans (k3.kr J)⟩
  · have c1' : ¬ (i : Int) < M.length := by omega
    simp (maxSteps := 1000000) (disch := first | (simp; done) | (simp only [IHeap.size_push', IHeap.size_set']; omega) | omega) [a0, a1, a2, a3, a8, hn, hd, c1']
    exact ⟨N, pN, ts, kr⟩
theorem len_c {h : IHeap} {n : Nat} (hn : n < 2 ^ 64) : ICall Try.prog 51 #[.int .u64 n] h (.int .i64 (bl n)) h := by
  refine ICall.of_FN ?_
  have hn4 := hn
  clear hn
  refine FN.enter mixed (fn := Try.f51) (by kernel_rfl) rfl (by kernel_rfl) fun e hn hg hd => ?_
  simp [Try.f51] at hn
  have a0 : e.get 0 = .int .u64 n := hg 0 (by omega)
  clear hg
  simp (maxSteps := 1000000) (disch := first | (simp; done) | (simp only [IHeap.size_push', IHeap.size_set']; omega) | omega) [a0, hn, hd]
  refine FN.of (len64_c hn4) ?_
  simp (maxSteps := 1000000) (disch := first | (simp; done) | (simp only [IHeap.size_push', IHeap.size_set']; omega) | omega) [a0, hn, hd]
theorem pdq_c {h : IHeap} {v : Value} {M : List CN} {J : Nat} {lim : Int} (x : TS J h v M) (hM : M.length ≤ 12) : FN Try.prog 50 #[v, .int .i64 0, .int .i64 M.length, .int .i64 lim, ordF] h (Q := ⟨fun _ h' => ∃ M', M'.Perm M ∧ TS J h' v M' ∧ KR J h h'⟩) := by
  have ic := ins_c x hM
  rw [ordF] at ic
  have c12 : (M.length : Int) ≤ 12 := by omega
  refine FN.enter mixed (fn := Try.f50) (by kernel_rfl) rfl (by kernel_rfl) fun e hn hg hd => ?_
  simp [Try.f50] at hn
  have a0 : e.get 0 = v := hg 0 (by omega)
  have a1 : e.get 1 = .int .i64 0 := hg 1 (by omega)
  have a2 : e.get 2 = .int .i64 M.length := hg 2 (by omega)
  have a3 : e.get 3 = .int .i64 lim := hg 3 (by omega)
  have a4 : e.get 4 = ordF := hg 4 (by omega)
  clear hg
  rw [ordF] at a4
  simp (maxSteps := 1000000) (disch := first | (simp; done) | (simp only [IHeap.size_push', IHeap.size_set']; omega) | omega) [a0, a1, a2, a3, a4, hn, hd]
  refine WPL.unroll mixed (by kernel_rfl) ?_
  simp (maxSteps := 1000000) (disch := first | (simp; done) | (simp only [IHeap.size_push', IHeap.size_set']; omega) | omega) [a0, a1, a2, a3, a4, hn, hd, c12]
  refine FN.mono ic ?_
  rintro w h1 ⟨M', p, ts, kr⟩
  simp (maxSteps := 1000000) (disch := first | (simp; done) | (simp only [IHeap.size_push', IHeap.size_set']; omega) | omega) [a0, a1, a2, a3, a4, hn, hd, c12]
  exact ⟨M', p, ts, kr⟩
theorem sort_c {h : IHeap} {v : Value} {M : List CN} {J : Nat} (x : TS J h v M) (hM : M.length ≤ 12) : FN Try.prog 36 #[v, ordF] h (Q := ⟨fun _ h' => ∃ M', M'.Perm M ∧ TS J h' v M' ∧ KR J h h'⟩) := by
  obtain ⟨A, rfl, _⟩ := x.form
  refine FN.enter mixed (fn := Try.f36) (by kernel_rfl) rfl (by kernel_rfl) fun e hn hg hd => ?_
  simp [Try.f36] at hn
  have a0 : e.get 0 = .slice A M.length M.length := hg 0 (by omega)
  have a1 : e.get 1 = ordF := hg 1 (by omega)
  clear hg
  simp (maxSteps := 1000000) (disch := first | (simp; done) | (simp only [IHeap.size_push', IHeap.size_set']; omega) | omega) [a0, a1, hn, hd]
  refine FN.of (len_c (by omega)) ?_
  simp (maxSteps := 1000000) (disch := first | (simp; done) | (simp only [IHeap.size_push', IHeap.size_set']; omega) | omega) [a0, a1, hn, hd]
  refine FN.mono (pdq_c x hM) ?_
  rintro w h1 ⟨M', p, ts, kr⟩
  simp (maxSteps := 1000000) (disch := first | (simp; done) | (simp only [IHeap.size_push', IHeap.size_set']; omega) | omega) [a0, a1, hn, hd]
  exact ⟨M', p, ts, kr⟩
end Go.Proofs.Ytnmbpehficchkaa.Ideal
