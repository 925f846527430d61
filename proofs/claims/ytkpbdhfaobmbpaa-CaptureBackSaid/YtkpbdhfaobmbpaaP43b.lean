import Derived.Test.YtkpbdhfaobmbpaaP43a
noncomputable section
open Go.Proofs
namespace Go.Proofs.Ytkpbdhfaobmbpaa.Ideal
open Go.RowKit
set_option linter.unusedSimpArgs false
set_option linter.unusedVariables false
set_option linter.unusedSectionVars false
set_option maxRecDepth 100000
set_option maxHeartbeats 4000000
attribute [-simp] IHeap.size_set IHeap.size_push
attribute [local simp ↓] Hid.ap_mk
attribute [local simp] scopeQ_normal scopeQ_ret scopeQ_exit WP_skip WP_label WP_exit WP_goto WP_ret WP_region WP_seq WP_cond WP_block WP_scope WP_loop WP_range thenQ_normal thenQ_ret thenQ_exit thenQ_goto loopQ_normal loopQ_ret loopQ_exit invQ_normal invQ_ret invQ_exit outOf_normal outOf_ret outOf_goto outOf_exit ev_tmp ev_const ev_func
  wops_nil wops_cons wantedE_none wantedE_some jgd_some wnx_eq niC_false wdo_move wdo_assign wdo_pick wdo_load wdo_store wdo_alloc wdo_box wdo_fieldAddr wdo_indexAddr wdo_field wdo_extract wdo_build wdo_buildSlice wdo_makeSlice wdo_binOp wdo_unOp wdo_makeFunc wdo_nilCheck wdo_callV wdo_len wdo_append wdo_copy wdo_delete wdo_max wdo_min wdo_convert jcvt_int
  xput_get put_n put_none put_dfr ibin finQ_n finQ_r finD_nil splice_one ires_nil ires_one ires_two ires_three ires1_tmp ires1_cell jcell_ptr rowLoad_row wrap64 wrapU64 wrapU8 wrapU16 wrapU32 callV_fn buildOf Instr.fill Value.cells Value.oneCell' kindOf slots_all splice_all IHeap.size_set' IHeap.size_push' IHeap.get_set_same IHeap.get_set_ne IHeap.get_pushed IHeap.get_push_ne IHeap.set_set IHeap.set_push IHeap.set_pushed IHeap.set_set3 getU_nil getU_same getU_ne jif_true jif_false pushH_eq setH_eq forceL_eq forceV_eq ibuildSlice
attribute [local simp] wdo_index jopt_some
attribute [-simp] Value.oneCell'
attribute [local simp] one_int' one_slc'
/-- Shots' cells. -/
def shc (S : List SH) : List Value := S.flatMap SH.cells
theorem shc_nil : shc [] = [] := rfl
theorem shc_cons (s : SH) (S : List SH) : shc (s :: S) = s.cells ++ shc S := rfl
theorem shc_app (S T : List SH) : shc (S ++ T) = shc S ++ shc T := by simp [shc]
theorem shc_len (S : List SH) : (shc S).length = S.length * 4 := by
  induction S with
  | nil => rfl
  | cons s S ih => rw [shc_cons, List.length_append, ih, List.length_cons, show s.cells.length = 4 from rfl]; omega
theorem shc_at : ∀ (S : List SH) (i : Nat) (hi : i < S.length), slots (shc S) (i * 4) 4 = some S[i].cells := by
  intro S
  induction S with
  | nil => intro i hi; simp at hi
  | cons s S ih =>
    intro i hi
    cases i with
    | zero =>
      rw [shc_cons]
      unfold slots
      rw [if_pos (by rw [List.length_append, show s.cells.length = 4 from rfl]; omega)]
      rfl
    | succ i =>
      have := ih i (by simpa using hi)
      rw [shc_cons]
      unfold slots at this ⊢
      rw [shc_len] at this
      rw [List.length_append, shc_len, show s.cells.length = 4 from rfl]
      have hi' : i < S.length := by simpa using hi
      rw [if_pos (by omega)] at this ⊢
      refine Eq.trans ?_ this
      show some (List.take 4 (List.drop ((i + 1) * 4) (s.cells ++ shc S))) = some (List.take 4 (List.drop (i * 4) (shc S)))
      rw [show (i + 1) * 4 = s.cells.length + i * 4 by rw [show s.cells.length = 4 from rfl]; omega, ← List.drop_drop, List.drop_left]
theorem slots_of {cs vs ws : List Value} {q n i k : Nat} (h : slots cs q n = some vs) (h2 : slots vs i k = some ws) : slots cs (q + i) k = some ws := by
  unfold slots at h h2 ⊢
  split at h
  · rename_i hq
    cases h
    split at h2
    · rename_i hi
      rw [List.length_take, List.length_drop] at hi
      rw [if_pos (by omega)]
      cases h2
      rw [List.drop_take, List.take_take, List.drop_drop]
      congr 2
      omega
    · cases h2
  · cases h
/-- A slice of shots. -/
def ShS (h : IHeap) (v : Value) (S : List SH) : Prop := ∃ A c, v = .slice A S.length c ∧ (A = none → c = 0) ∧ S.length ≤ c ∧ (S ≠ [] → ∃ r q ro z cs, A = some ⟨r, q, none⟩ ∧ h.get r = some (.row ro z cs) ∧ (z = 0 ∨ z = 4) ∧ slots cs q (S.length * 4) = some (shc S)) ∧ ∀ s ∈ S, s.ok h
theorem ShS.keep {h h' : IHeap} {v : Value} {S : List SH} (x : ShS h v S) (k : Keep h h') : ShS h' v S := by
  obtain ⟨A, c, h1, h0, hc, h2, h3⟩ := x
  refine ⟨A, c, h1, h0, hc, fun hne => ?_, fun s hs => (h3 s hs).keep k⟩
  obtain ⟨r, q, ro, z, cs, h3, h4, h5, h6⟩ := h2 hne
  exact ⟨r, q, ro, z, cs, h3, k.get h4, h5, h6⟩
theorem ShS.at {h : IHeap} {A : Option Addr} {c : Nat} {S : List SH} (x : ShS h (.slice A S.length c) S) {i : Nat} (hi : i < S.length) : ∃ r q ro z cs, A = some ⟨r, q, none⟩ ∧ h.get r = some (.row ro z cs) ∧ (z = 0 ∨ z = 4) ∧ slots cs (q + i * 4) 4 = some S[i].cells ∧ S[i].ok h := by
  obtain ⟨A', c', h1, h0, hc, h2, h3⟩ := x
  cases h1
  obtain ⟨r, q, ro, z, cs, h4, h5, h6, h7⟩ := h2 (fun e => by subst e; simp at hi)
  exact ⟨r, q, ro, z, cs, h4, h5, h6, slots_of h7 (shc_at S i hi), h3 _ (List.getElem_mem hi)⟩
theorem ShS.tail {h : IHeap} {r q c : Nat} {s : SH} {S : List SH} (x : ShS h (.slice (some ⟨r, q, none⟩) (S.length + 1) c) (s :: S)) : ShS h (.slice (some ⟨r, q + 4, none⟩) S.length (c - 1)) S := by
  obtain ⟨A', c', h1, h0, hc, h2, h3⟩ := x
  simp only [List.length_cons, Value.slice.injEq] at h1 hc
  obtain ⟨rfl, _, rfl⟩ := h1
  refine ⟨_, _, rfl, fun h => (by cases h), by omega, fun hne => ?_, fun t ht => h3 t (by simp [ht])⟩
  obtain ⟨r', q', ro, z, cs, h4, h5, h6, h7⟩ := h2 (by simp)
  cases h4
  refine ⟨r, q + 4, ro, z, cs, rfl, h5, h6, ?_⟩
  refine slots_of h7 ?_
  rw [shc_cons]
  unfold slots
  rw [List.length_append, shc_len, show s.cells.length = 4 from rfl, if_pos (by omega)]
  rw [show (4 : Nat) = s.cells.length from rfl, List.drop_left]
  rw [List.take_of_length_le (by rw [shc_len]; exact Nat.le_refl _)]
theorem great_c {h : IHeap} {v : Value} {S : List SH} (x : ShS h v S) (hS : S.length ≤ 9223372036854775807) : FN Try.prog 7 #[v] h (Q := ⟨fun v h' => ∃ b, v = .bool b ∧ (b = false → S.length ≤ 60 ∧ ∀ s ∈ S, s.xs.length ≤ 400) ∧ Keep h h'⟩) := by
  obtain ⟨A, c, rfl, _⟩ := id x
  refine FN.enter mixed (fn := Try.f7) (by kernel_rfl) rfl (by kernel_rfl) fun e hn hg hd => ?_
  simp [Try.f7] at hn
  have a0 : e.get 0 = .slice A S.length c := hg 0 (by omega)
  clear hg
  simp (maxSteps := 1000000) (disch := first | (simp; done) | (simp only [IHeap.size_push', IHeap.size_set']; omega) | omega) [a0, hn, hd]
  refine WPL.by_inv mixed (by kernel_rfl) (fun k e h' => ∃ j, j + k = S.length ∧ e.n = 19 ∧ e.dfr = [] ∧ e.get 0 = .slice A S.length c ∧ e.get 2 = .bool false ∧ e.get 5 = .slice A S.length c ∧ e.get 6 = .int .i64 S.length ∧ e.get 7 = .int .i64 j ∧ (∀ (i : Nat) (hi : i < S.length), i < j → S[i].xs.length ≤ 400) ∧ Keep h h') S.length ?_ ?_
  · refine ⟨0, ?_⟩
    simp (maxSteps := 1000000) (disch := first | (simp; done) | (simp only [IHeap.size_push', IHeap.size_set']; omega) | omega) [a0, hn, hd]
    exact Keep.refl h
  clear hn hd a0 e
  rintro k e h1 ⟨j, hj, hn, hd, a0, a2, a5, a6, a7, hb, kp⟩
  cases k with
  | zero =>
    obtain rfl : j = S.length := by omega
    simp (maxSteps := 1000000) (disch := first | (simp; done) | (simp only [IHeap.size_push', IHeap.size_set']; omega) | omega) [a0, a2, a5, a6, a7, hn, hd]
    by_cases c6 : S.length ≤ 60
    · refine .inl ⟨by omega, ⟨c6, fun s hs => ?_⟩, kp⟩
      obtain ⟨i, hi, rfl⟩ := List.mem_iff_getElem.1 hs
      exact hb i hi hi
    · exact .inr ⟨by omega, kp⟩
  | succ k =>
    have j2 : j < S.length := by omega
    have j1 : (j : Int) < S.length := by omega
    obtain ⟨r, q, ro, z, cs, rfl, hg, hz, hs, hok⟩ := (x.keep kp).at j2
    obtain ⟨s, es⟩ : ∃ s, S[j] = s := ⟨_, rfl⟩
    rw [es] at hs hok
    obtain ⟨B, d, eb, _⟩ := hok.b
    have oc : s.cells.all (·.oneCell') = true := by simp (maxSteps := 1000000) (disch := first | (simp; done) | (simp only [IHeap.size_push', IHeap.size_set']; omega) | omega) [SH.cells, eb]
    by_cases c4 : (400 : Int) < s.xs.length
    · simp (maxSteps := 1000000) (disch := first | (simp; done) | (simp only [IHeap.size_push', IHeap.size_set']; omega) | omega) [a0, a2, a5, a6, a7, hn, hd, j1, j2, hg, hs, SH.cells, eb, c4]
      exact kp.push' _
    · simp (maxSteps := 1000000) (disch := first | (simp; done) | (simp only [IHeap.size_push', IHeap.size_set']; omega) | omega) [a0, a2, a5, a6, a7, hn, hd, j1, j2, hg, hs, SH.cells, eb, c4]
      refine ⟨k, by omega, j + 1, by omega, by omega, fun i hi hij => ?_, kp.push' _⟩
      by_cases e1 : i = j
      · subst e1
        rw [es]
        omega
      · exact hb i hi (by omega)
/-- A slice that one's own appends made. -/
def OwnS (lo : Nat) (h : IHeap) (v : Value) (T : List SH) : Prop := ((v = .slice none 0 0 ∧ T = []) ∨ ∃ j, lo ≤ j ∧ v = .slice (some ⟨j, 0, none⟩) T.length T.length ∧ h.get j = some (.row false 4 (shc T))) ∧ ∀ t ∈ T, t.ok h ∧ t.xs.length ≤ 400
theorem OwnS.sh {lo : Nat} {h : IHeap} {v : Value} {T : List SH} (x : OwnS lo h v T) : ShS h v T := by
  obtain ⟨x, y⟩ := x
  rcases x with ⟨rfl, rfl⟩ | ⟨j, _, rfl, hg⟩
  · exact ⟨none, 0, rfl, fun _ => rfl, Nat.le_refl _, fun h => absurd rfl h, fun s hs => (by simp at hs)⟩
  · exact ⟨some ⟨j, 0, none⟩, _, rfl, fun h => (by cases h), Nat.le_refl _, fun _ => ⟨j, 0, false, 4, _, rfl, hg, .inr rfl, slots_full _ (shc_len T).symm⟩, fun t ht => (y t ht).1⟩
theorem OwnS.keep {lo : Nat} {h h' : IHeap} {v : Value} {T : List SH} (x : OwnS lo h v T) (k : Keep h h') : OwnS lo h' v T := by
  obtain ⟨x, y⟩ := x
  refine ⟨?_, fun t ht => ⟨(y t ht).1.keep k, (y t ht).2⟩⟩
  rcases x with ⟨rfl, rfl⟩ | ⟨j, hj, rfl, hg⟩
  · exact .inl ⟨rfl, rfl⟩
  · exact .inr ⟨j, hj, rfl, k.get hg⟩
theorem ni23' : notInt Try.prog 23 = true := by kernel_rfl
theorem SH.cells_one {s : SH} {h : IHeap} (ok : s.ok h) : s.cells.all (·.oneCell') = true := by
  obtain ⟨B, d, eb, _⟩ := ok.b
  simp (maxSteps := 1000000) (disch := first | (simp; done) | (simp only [IHeap.size_push', IHeap.size_set']; omega) | omega) [SH.cells, eb]
theorem shc_one {S : List SH} {h : IHeap} (ok : ∀ s ∈ S, s.ok h) : (shc S).all (·.oneCell') = true := by
  induction S with
  | nil => rfl
  | cons s S ih =>
    rw [shc_cons, List.all_append, SH.cells_one (ok s (by simp)), ih (fun t ht => ok t (by simp [ht]))]
    rfl
/-- One more shot. -/
theorem app_own {lo : Nat} {h : IHeap} {v : Value} {T : List SH} {s : SH} (x : OwnS lo h v T) (ok : s.ok h) (l4 : s.xs.length ≤ 400) (hT : T.length ≤ 1000) (hlo : lo ≤ h.size) :
    ∃ v' h', iappend Try.prog (h.push (.row false 4 s.cells)) 23 23 v (.slice (some ⟨h.size, 0, none⟩) 1 1) = some (v', h') ∧ OwnS lo h' v' (T ++ [s]) ∧ (∀ i, i < lo → h'.get i = h.get i) ∧ h.size ≤ h'.size ∧ KB h h' := by
  obtain ⟨x, y⟩ := x
  have sr : srcOf (h.push (.row false 4 s.cells)) 4 (.slice (some ⟨h.size, 0, none⟩) 1 1) = some (1, s.cells) := src_row (IHeap.get_pushed _ rfl) (by exact slots_full _ rfl) (by omega)
  rcases x with ⟨rfl, rfl⟩ | ⟨j, hj, rfl, hg⟩
  · refine ⟨_, _, iapp_nil sl23 ze31 bt31 rfl (by omega) ni23' sr (SH.cells_one ok) (by omega) (by omega), ⟨.inr ⟨(h.push (.row false 4 s.cells)).size, by rw [IHeap.size_push']; omega, rfl, ?_⟩, ?_⟩, fun i hi => ?_, ?_⟩
    · rw [IHeap.get_pushed _ rfl]
      rfl
    · intro t ht
      rw [List.nil_append, List.mem_singleton] at ht
      subst ht
      exact ⟨ok.keep ((Keep.push _ _).push' _), l4⟩
    · exact ((Keep.push _ _).push' _).eq i (by omega)
    · exact ⟨((Keep.push _ _).push' _).le, ((Keep.push _ _).push' _).kb⟩
  · have hjs := IHeap.get_lt hg
    obtain ⟨h2, k, ap, r2, k2, z2, f2⟩ := iapp_any (P := Try.prog) (h := h.push (.row false 4 s.cells)) (t := 23) (t2 := 23) (i := j) (n := T.length) (m := 1) (cs := shc T) (news := s.cells) sl23 ze31 bt31 (by rfl) (by omega) ni23' sr (SH.cells_one ok) (by rfl) (by omega) ((Keep.push _ _).get hg) (shc_len T)
    rw [IHeap.size_push'] at k2 z2 f2
    have kb : KB h h2 := fun r ro z cs hz e => by
      have hr := IHeap.get_lt e
      rw [k2 r (by omega) (fun er => by
        subst er
        rw [hg] at e
        cases e
        rcases hz with h | h
        · cases h
        · omega)]
      exact (Keep.push _ _).get e
    refine ⟨_, h2, ap, ⟨.inr ⟨k, by omega, ?_, ?_⟩, ?_⟩, fun i hi => ?_, by omega, kb⟩
    · rw [List.length_append]
      rfl
    · rw [r2, shc_app]
      rfl
    · intro t ht
      rw [List.mem_append, List.mem_singleton] at ht
      rcases ht with ht | rfl
      · exact ⟨(y t ht).1.kb kb, (y t ht).2⟩
      · exact ⟨ok.kb kb, l4⟩
    · rw [k2 i (by omega) (by omega)]
      exact (Keep.push _ _).eq i (by omega)
end Go.Proofs.Ytkpbdhfaobmbpaa.Ideal
