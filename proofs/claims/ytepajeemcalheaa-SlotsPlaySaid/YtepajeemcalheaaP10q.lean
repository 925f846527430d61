/- Lists of cells by links: what stands for them, and what pushing and removing does. No program here. -/
import Derived.Test.YtepajeemcalheaaP10p
noncomputable section
namespace Go.Proofs.Ytepajeemcalheaa.Ideal
set_option linter.unusedSimpArgs false
set_option linter.unusedVariables false
def putI (f : Nat → Int) (x : Nat) (v : Int) : Nat → Int := fun y => if y = x then v else f y
def putL (f : Nat → List Nat) (x : Nat) (v : List Nat) : Nat → List Nat := fun y => if y = x then v else f y
/-- n cells, m lists, and the links that stand for them. -/
structure SRep (n m : Nat) (L : Nat → List Nat) (b f : Nat → Nat) (t : Nat → Int) : Prop where
  ring : ∀ l, l < m → Path f b (n + l) (L l) (n + l)
  mem : ∀ l, l < m → ∀ c, c ∈ L l → c < n ∧ t c = l
  out : ∀ c, c < n → (∀ l, l < m → c ∉ L l) → t c = -1
  nd : ∀ l, l < m → (L l).Nodup
theorem SRep.nd' {n m : Nat} {L : Nat → List Nat} {b f : Nat → Nat} {t : Nat → Int} (r : SRep n m L b f t) {l : Nat} (hl : l < m) : ((n + l) :: L l).Nodup := by
  rw [List.nodup_cons]
  refine ⟨fun h => ?_, r.nd l hl⟩
  have := (r.mem l hl _ h).1
  omega
theorem SRep.own_ne {n m : Nat} {L : Nat → List Nat} {b f : Nat → Nat} {t : Nat → Int} (r : SRep n m L b f t) {l l' : Nat} (hl : l < m) (hl' : l' < m) (hne : l' ≠ l) {x : Nat} (hx : x ∈ (n + l) :: L l) : x ∉ (n + l') :: L l' := by
  intro h
  simp only [List.mem_cons] at hx h
  rcases hx with rfl | hx
  · rcases h with h | h
    · omega
    · have := (r.mem l' hl' _ h).1
      omega
  · have h1 := r.mem l hl _ hx
    rcases h with rfl | h
    · omega
    · have h2 := r.mem l' hl' _ h
      omega
/-- None's list. -/
theorem SRep.free {n m : Nat} {L : Nat → List Nat} {b f : Nat → Nat} {t : Nat → Int} (r : SRep n m L b f t) {c : Nat} (ht : t c < 0) : ∀ l, l < m → c ∉ L l := by
  intro l hl h
  have := (r.mem l hl c h).2
  omega
theorem SRep.on {n m : Nat} {L : Nat → List Nat} {b f : Nat → Nat} {t : Nat → Int} (r : SRep n m L b f t) {c : Nat} (hc : c < n) (ht : ¬ t c < 0) : ∃ l, l < m ∧ t c = l ∧ c ∈ L l := by
  apply Classical.byContradiction
  intro h
  have : t c = -1 := r.out c hc (fun l hl h2 => h ⟨l, hl, (r.mem l hl c h2).2, h2⟩)
  omega
theorem path_first {f b : Nat → Nat} {u o : Nat} : ∀ {p : List Nat}, Path f b u p o → f u = (p ++ [o]).headD 0
  | [], h => by simpa using h.1
  | x :: p, h => by simpa using h.1
theorem SRep.push {n m : Nat} {L : Nat → List Nat} {b f : Nat → Nat} {t : Nat → Int} (r : SRep n m L b f t) {l c : Nat} (hl : l < m) (hc : c < n) (ht : t c < 0) :
    SRep n m (putL L l (L l ++ [c])) (put1 (put1 b c (b (n + l))) (n + l) c) (put1 (put1 f c (n + l)) (b (n + l)) c) (putI t c l) ∧ b (n + l) ∈ (n + l) :: L l := by
  have hfr := r.free ht
  have hb : b (n + l) = lastOf (n + l) (L l) := (path_last (r.ring l hl)).2
  have hm := lastOf_mem (n + l) (L l)
  have hcn : ∀ l, l < m → c ∉ (n + l) :: L l := by
    intro l hl h
    simp only [List.mem_cons] at h
    rcases h with h | h
    · omega
    · exact hfr l hl h
  rw [hb]
  refine ⟨⟨fun l' hl' => ?_, fun l' hl' x hx => ?_, fun x hx hno => ?_, fun l' hl' => ?_⟩, hm⟩
  · by_cases e : l' = l
    · subst e
      simp only [putL, if_true]
      exact path_push (r.ring l' hl') (r.nd' hl') (hcn l' hl')
    · simp only [putL, e, if_false]
      have h1 := r.own_ne hl hl' e hm
      refine path_frame (r.ring l' hl') (fun x hx => ?_) (fun x hx => ?_)
      · rw [put1_ne _ _ (fun e2 => h1 (by rw [← e2]; exact hx)), put1_ne _ _ (fun e2 => hcn l' hl' (by rw [← e2]; exact hx))]
      · have hx' : x ∈ (n + l') :: L l' := by simp at hx ⊢; exact hx.symm
        rw [put1_ne, put1_ne _ _ (fun e2 => hcn l' hl' (by rw [← e2]; exact hx'))]
        intro e2
        subst e2
        exact r.own_ne hl hl' e (by simp) hx'
  · by_cases e : l' = l
    · subst e
      simp only [putL, if_true, List.mem_append, List.mem_singleton] at hx
      rcases hx with hx | rfl
      · have := r.mem l' hl' x hx
        refine ⟨this.1, ?_⟩
        have hne : x ≠ c := fun e => hfr l' hl' (by rw [← e]; exact hx)
        simp only [putI, hne, if_false]
        exact this.2
      · exact ⟨hc, by simp [putI]⟩
    · simp only [putL, e, if_false] at hx
      have := r.mem l' hl' x hx
      refine ⟨this.1, ?_⟩
      have hne : x ≠ c := fun e => hfr l' hl' (by rw [← e]; exact hx)
      simp only [putI, hne, if_false]
      exact this.2
  · have hne : x ≠ c := by
      intro e; subst e
      exact hno l hl (by simp [putL])
    simp only [putI, hne, if_false]
    refine r.out x hx fun l' hl' h => hno l' hl' ?_
    by_cases e : l' = l
    · subst e; simp [putL, h]
    · simp [putL, e, h]
  · by_cases e : l' = l
    · subst e
      simp only [putL, if_true]
      rw [List.nodup_append]
      refine ⟨r.nd l' hl', by simp, fun a ha b hb => ?_⟩
      simp at hb; subst hb
      exact fun e => hfr l' hl' (by rw [← e]; exact ha)
    · simp only [putL, e, if_false]
      exact r.nd l' hl'
theorem SRep.cut {n m : Nat} {L : Nat → List Nat} {b f : Nat → Nat} {t : Nat → Int} (r : SRep n m L b f t) {l c : Nat} (hl : l < m) (hc : c ∈ L l) :
    SRep n m (putL L l ((L l).erase c)) (put1 (put1 b (f c) (b c)) c 0) (put1 (put1 f (b c) (f c)) c 0) (putI t c (-1)) ∧ b c ∈ (n + l) :: L l ∧ f c ∈ (n + l) :: L l := by
  obtain ⟨p, q, hpq⟩ := List.append_of_mem hc
  have hnd := r.nd' hl
  have hring := r.ring l hl
  rw [hpq] at hnd hring
  have hcp : c ∉ p := by
    intro e
    simp only [List.nodup_cons, List.nodup_append] at hnd
    exact hnd.2.2.2 c e c (by simp) rfl
  have her : (L l).erase c = p ++ q := by
    rw [hpq, List.erase_append_right _ hcp]
    simp
  obtain ⟨key, hbc, hfc⟩ := path_cut (z := 0) (y := 0) hring hnd
  have hbm : b c ∈ (n + l) :: L l := by
    rw [hbc, hpq]
    have := lastOf_mem (n + l) p
    simp only [List.mem_cons, List.mem_append] at this ⊢
    rcases this with h | h
    · exact .inl h
    · exact .inr (.inl h)
  have hfm : f c ∈ (n + l) :: L l := by
    rw [hfc, hpq]
    cases q with
    | nil => simp
    | cons x q => simp
  rw [her]
  have hcn := r.mem l hl c hc
  refine ⟨⟨fun l' hl' => ?_, fun l' hl' x hx => ?_, fun x hx hno => ?_, fun l' hl' => ?_⟩, hbm, hfm⟩
  · by_cases e : l' = l
    · subst e
      simp only [putL, if_true]
      exact key
    · simp only [putL, e, if_false]
      have h1 := r.own_ne hl hl' e hbm
      have h2 := r.own_ne hl hl' e hfm
      have h3 := r.own_ne hl hl' e (List.mem_cons_of_mem _ hc)
      refine path_frame (r.ring l' hl') (fun x hx => ?_) (fun x hx => ?_)
      · rw [put1_ne _ _ (fun e2 => h3 (by rw [← e2]; exact hx)), put1_ne _ _ (fun e2 => h1 (by rw [← e2]; exact hx))]
      · have hx' : x ∈ (n + l') :: L l' := by simp at hx ⊢; exact hx.symm
        rw [put1_ne _ _ (fun e2 => h3 (by rw [← e2]; exact hx')), put1_ne _ _ (fun e2 => h2 (by rw [← e2]; exact hx'))]
  · have hx2 : x ∈ L l' ∧ x ≠ c := by
      by_cases e : l' = l
      · subst e
        simp only [putL, if_true] at hx
        refine ⟨by rw [hpq]; simp at hx ⊢; rcases hx with h | h <;> simp [h], ?_⟩
        rintro rfl
        rw [← her] at hx
        exact ((r.nd l' hl').mem_erase_iff.1 hx).1 rfl
      · simp only [putL, e, if_false] at hx
        refine ⟨hx, ?_⟩
        rintro rfl
        exact r.own_ne hl hl' e (List.mem_cons_of_mem _ hc) (List.mem_cons_of_mem _ hx)
    have := r.mem l' hl' x hx2.1
    refine ⟨this.1, ?_⟩
    simp only [putI, hx2.2, if_false]
    exact this.2
  · by_cases hne : x = c
    · subst hne; simp [putI]
    · simp only [putI, hne, if_false]
      refine r.out x hx fun l' hl' h => hno l' hl' ?_
      by_cases e : l' = l
      · subst e
        simp only [putL, if_true]
        rw [← her]
        exact ((r.nd l' hl').mem_erase_iff).2 ⟨hne, h⟩
      · simp [putL, e, h]
  · by_cases e : l' = l
    · subst e
      simp only [putL, if_true]
      rw [← her]
      exact (r.nd l' hl').erase c
    · simp only [putL, e, if_false]
      exact r.nd l' hl'
/-- All links, as cells. -/
def cellL (b f : Nat → Nat) (t : Nat → Int) (j : Nat) : Value := if j % 3 = 0 then .int .i64 (b (j / 3)) else if j % 3 = 1 then .int .i64 (f (j / 3)) else .int .i64 (t (j / 3))
def rowL (N : Nat) (b f : Nat → Nat) (t : Nat → Int) : List Value := (List.range (3 * N)).map (cellL b f t)
theorem rowL_len (N : Nat) (b f : Nat → Nat) (t : Nat → Int) : (rowL N b f t).length = 3 * N := by simp [rowL]
theorem rowL_get {N : Nat} {b f : Nat → Nat} {t : Nat → Int} {j : Nat} (h : j < 3 * N) : (rowL N b f t)[j]? = some (cellL b f t j) := by simp [rowL, h]
theorem rowL_b {N : Nat} {b f : Nat → Nat} {t : Nat → Int} {i : Nat} (h : i < N) : (rowL N b f t)[3 * i]? = some (.int .i64 (b i)) := by
  rw [rowL_get (by omega)]
  simp [cellL]
theorem rowL_f {N : Nat} {b f : Nat → Nat} {t : Nat → Int} {i : Nat} (h : i < N) : (rowL N b f t)[3 * i + 1]? = some (.int .i64 (f i)) := by
  rw [rowL_get (by omega)]
  simp [cellL, show (3 * i + 1) % 3 = 1 by omega, show (3 * i + 1) / 3 = i by omega]
theorem rowL_t {N : Nat} {b f : Nat → Nat} {t : Nat → Int} {i : Nat} (h : i < N) : (rowL N b f t)[3 * i + 2]? = some (.int .i64 (t i)) := by
  rw [rowL_get (by omega)]
  simp [cellL, show (3 * i + 2) % 3 = 2 by omega, show (3 * i + 2) / 3 = i by omega]
theorem rowL_set {N : Nat} {b f b' f' : Nat → Nat} {t t' : Nat → Int} {k : Nat} {v : Value} (h1 : cellL b' f' t' k = v) (h2 : ∀ j, j ≠ k → cellL b' f' t' j = cellL b f t j) : (rowL N b f t).set k v = rowL N b' f' t' := by
  apply List.ext_getElem?
  intro j
  rw [List.getElem?_set]
  by_cases e : k = j
  · subst e
    by_cases hk : k < 3 * N
    · simp [rowL, hk, h1]
    · simp [rowL, hk]
  · rw [if_neg e]
    by_cases hj : j < 3 * N
    · rw [rowL_get hj, rowL_get hj, h2 j (fun h => e h.symm)]
    · simp [rowL, hj]
theorem rowL_setb (N : Nat) (b f : Nat → Nat) (t : Nat → Int) (i v : Nat) : (rowL N b f t).set (3 * i) (.int .i64 v) = rowL N (put1 b i v) f t := by
  refine rowL_set (by simp [cellL, put1]) fun j hj => ?_
  unfold cellL
  by_cases h0 : j % 3 = 0
  · have : j / 3 ≠ i := by omega
    simp [h0, put1, this]
  · simp [h0]
theorem rowL_setf (N : Nat) (b f : Nat → Nat) (t : Nat → Int) (i v : Nat) : (rowL N b f t).set (3 * i + 1) (.int .i64 v) = rowL N b (put1 f i v) t := by
  refine rowL_set (by simp [cellL, put1, show (3 * i + 1) % 3 = 1 by omega, show (3 * i + 1) / 3 = i by omega]) fun j hj => ?_
  unfold cellL
  by_cases h0 : j % 3 = 0
  · simp [h0]
  · by_cases h1 : j % 3 = 1
    · have : j / 3 ≠ i := by omega
      simp [h1, put1, this]
    · simp [h0, h1]
theorem rowL_sett (N : Nat) (b f : Nat → Nat) (t : Nat → Int) (i : Nat) (v : Int) : (rowL N b f t).set (3 * i + 2) (.int .i64 v) = rowL N b f (putI t i v) := by
  refine rowL_set (by simp [cellL, putI, show (3 * i + 2) % 3 = 2 by omega, show (3 * i + 2) / 3 = i by omega]) fun j hj => ?_
  unfold cellL
  by_cases h0 : j % 3 = 0
  · simp [h0]
  · by_cases h1 : j % 3 = 1
    · simp [h0, h1]
    · have : j / 3 ≠ i := by omega
      simp [h0, h1, putI, this]
theorem rowL_one (N : Nat) (b f : Nat → Nat) (t : Nat → Int) : ∀ v, v ∈ rowL N b f t → v.oneCell' = true := by
  intro v hv
  obtain ⟨j, _, rfl⟩ := List.mem_map.1 hv
  unfold cellL
  split
  · rfl
  · split <;> rfl
theorem rowL_succ (N : Nat) (b f : Nat → Nat) (t : Nat → Int) : rowL (N + 1) b f t = rowL N b f t ++ [.int .i64 (b N), .int .i64 (f N), .int .i64 (t N)] := by
  unfold rowL
  rw [show 3 * (N + 1) = 3 * N + 1 + 1 + 1 by omega, List.range_succ, List.range_succ, List.range_succ]
  simp [cellL, show (3 * N + 1) % 3 = 1 by omega, show (3 * N + 1 + 1) % 3 = 2 by omega, show (3 * N + 1) / 3 = N by omega, show (3 * N + 1 + 1) / 3 = N by omega]
end Go.Proofs.Ytepajeemcalheaa.Ideal
