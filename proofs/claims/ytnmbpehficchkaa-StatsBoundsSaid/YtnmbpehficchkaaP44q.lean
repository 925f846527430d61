import Derived.Test.YtnmbpehficchkaaI29
namespace Go.Proofs.Ytnmbpehficchkaa.Ideal
set_option linter.unusedVariables false
set_option linter.unusedSimpArgs false
/-- A counter: of which key, its count, its error, its turn. -/
structure CN where
  d : Nat
  count : Nat
  err : Nat
  turn : Nat
/-- What Add does. -/
def AddR (k : Nat) (L : List CN) (d w : Nat) (L' : List CN) : Prop :=
  (∃ (i : Nat) (hi : i < L.length), L[i].d = d ∧ L' = L.set i ⟨L[i].d, L[i].count + w, L[i].err, L[i].turn⟩) ∨
  ((∀ c ∈ L, c.d ≠ d) ∧ L.length < k ∧ ∃ t, L' = L ++ [⟨d, w, 0, t⟩]) ∨
  ((∀ c ∈ L, c.d ≠ d) ∧ k ≤ L.length ∧ ∃ (i : Nat) (hi : i < L.length) (t : Nat), (∀ c ∈ L, L[i].count ≤ c.count) ∧ L' = L.set i ⟨d, L[i].count + w, L[i].count, t⟩)
structure Sv (k : Nat) (L : List CN) (car : Nat → Nat) (tot : Nat) : Prop where
  nd : (L.map CN.d).Nodup
  sm : (L.map CN.count).sum = tot
  lo : ∀ c ∈ L, car c.d ≤ c.count ∧ c.err ≤ c.count ∧ c.count ≤ car c.d + c.err
  no : ∀ d, (∀ c ∈ L, c.d ≠ d) → car d = 0 ∨ (k ≤ L.length ∧ ∀ c ∈ L, car d ≤ c.count)
  len : L.length ≤ k
theorem Sv.nil (k : Nat) : Sv k [] (fun _ => 0) 0 := ⟨List.nodup_nil, rfl, fun c hc => by simp at hc, fun _ _ => .inl rfl, by simp⟩
theorem sum_set : ∀ (L : List CN) (i : Nat) (hi : i < L.length) (c : CN), ((L.set i c).map CN.count).sum + L[i].count = (L.map CN.count).sum + c.count
  | [], i, hi, c => by simp at hi
  | a :: L, 0, hi, c => by simp; omega
  | a :: L, i + 1, hi, c => by
    have := sum_set L i (by simpa using hi) c
    simp only [List.set_cons_succ, List.map_cons, List.sum_cons, List.getElem_cons_succ]
    omega
theorem nodup_at {L : List CN} (h : (L.map CN.d).Nodup) {i j : Nat} (hi : i < L.length) (hj : j < L.length) (e : L[i].d = L[j].d) : i = j := by
  rw [List.nodup_iff_pairwise_ne, List.pairwise_map, List.pairwise_iff_getElem] at h
  rcases Nat.lt_trichotomy i j with c | c | c
  · exact absurd e (h i j hi hj c)
  · exact c
  · exact absurd e.symm (h j i hj hi c)
theorem mem_set {L : List CN} {i : Nat} {c x : CN} (h : x ∈ L.set i c) : x = c ∨ ∃ (j : Nat) (hj : j < L.length), j ≠ i ∧ x = L[j] := by
  obtain ⟨j, hj, rfl⟩ := List.mem_iff_getElem.1 h
  rw [List.length_set] at hj
  by_cases e : i = j
  · subst e
    exact .inl (List.getElem_set_self _)
  · exact .inr ⟨j, hj, fun h => e h.symm, List.getElem_set_ne e _⟩
theorem nodup_set {L : List CN} (h : (L.map CN.d).Nodup) {i : Nat} (hi : i < L.length) {c : CN} (hc : c.d = L[i].d ∨ ∀ x ∈ L, x.d ≠ c.d) : ((L.set i c).map CN.d).Nodup := by
  rw [List.nodup_iff_pairwise_ne, List.pairwise_map, List.pairwise_iff_getElem]
  intro a b ha hb hab
  simp only [List.length_set] at ha hb
  rw [List.getElem_set, List.getElem_set]
  split
  · rename_i e
    subst e
    rw [if_neg (by omega)]
    rcases hc with hc | hc
    · intro e
      rw [hc] at e
      have := nodup_at h ha hb e
      omega
    · exact fun e => hc L[b] (List.getElem_mem hb) e.symm
  · rename_i e
    split
    · rename_i e2
      subst e2
      rcases hc with hc | hc
      · intro e
        rw [hc] at e
        have := nodup_at h ha hb e
        omega
      · exact fun e => hc L[a] (List.getElem_mem ha) e
    · intro e
      have := nodup_at h ha hb e
      omega
theorem Sv.add {k : Nat} {L L' : List CN} {car : Nat → Nat} {tot d w : Nat} (x : Sv k L car tot) (hw : 1 ≤ w) (a : AddR k L d w L') : Sv k L' (fun y => if y = d then car y + w else car y) (tot + w) := by
  obtain ⟨nd, sm, lo, no, len⟩ := x
  rcases a with ⟨i, hi, hd, rfl⟩ | ⟨nm, lk, t, rfl⟩ | ⟨nm, lk, i, hi, t, mn, rfl⟩
  · have li := lo L[i] (List.getElem_mem hi)
    refine ⟨nodup_set nd hi (.inl rfl), ?_, fun c hc => ?_, fun y hy => ?_, by simpa using len⟩
    · have := sum_set L i hi ⟨L[i].d, L[i].count + w, L[i].err, L[i].turn⟩
      simp only at this
      omega
    · rcases mem_set hc with rfl | ⟨j, hj, hji, rfl⟩
      · simp only [hd, if_true]
        rw [hd] at li
        omega
      · have hne : L[j].d ≠ d := fun e => hji (nodup_at nd hj hi (e.trans hd.symm))
        simp only [hne, if_false]
        exact lo _ (List.getElem_mem hj)
    · have hyd : y ≠ d := fun e => by
        subst e
        refine hy _ (List.mem_iff_getElem.2 ⟨i, by simpa using hi, rfl⟩) ?_
        rw [List.getElem_set_self]
        exact hd
      have hy2 : ∀ c ∈ L, c.d ≠ y := fun c hc => by
        obtain ⟨j, hj, rfl⟩ := List.mem_iff_getElem.1 hc
        by_cases e : i = j
        · subst e
          rw [hd]
          exact fun h => hyd h.symm
        · have := hy L[j] (List.mem_iff_getElem.2 ⟨j, by simpa using hj, List.getElem_set_ne e _⟩)
          exact this
      simp only [hyd, if_false]
      refine (no y hy2).imp id fun ⟨h1, h2⟩ => ⟨by simpa using h1, fun c hc => ?_⟩
      rcases mem_set hc with rfl | ⟨j, hj, hji, rfl⟩
      · have := h2 _ (List.getElem_mem hi)
        show car y ≤ L[i].count + w
        omega
      · exact h2 _ (List.getElem_mem hj)
  · have cd0 : car d = 0 := (no d nm).resolve_right fun h => by omega
    refine ⟨?_, ?_, fun c hc => ?_, fun y hy => ?_, by simp; omega⟩
    · rw [List.map_append, List.nodup_append]
      refine ⟨nd, by simp, fun a ha b hb => ?_⟩
      simp at hb
      subst hb
      obtain ⟨c, hc, rfl⟩ := List.mem_map.1 ha
      exact nm c hc
    · simp
      omega
    · rcases List.mem_append.1 hc with hc | hc
      · have := nm c hc
        simp only [this, if_false]
        exact lo c hc
      · simp at hc
        subst hc
        simp
        omega
    · have hyd : y ≠ d := fun e => hy ⟨d, w, 0, t⟩ (by simp) e.symm
      simp only [hyd, if_false]
      exact .inl ((no y fun c hc => hy c (by simp [hc])).resolve_right fun h => by omega)
  · have li := lo L[i] (List.getElem_mem hi)
    have cdl : car d ≤ L[i].count := by
      rcases no d nm with h | ⟨_, h⟩
      · omega
      · exact h _ (List.getElem_mem hi)
    refine ⟨nodup_set nd hi (.inr fun x hx => nm x hx), ?_, fun c hc => ?_, fun y hy => ?_, by simpa using len⟩
    · have := sum_set L i hi ⟨d, L[i].count + w, L[i].count, t⟩
      simp only at this
      omega
    · rcases mem_set hc with rfl | ⟨j, hj, hji, rfl⟩
      · simp
        omega
      · have := nm _ (List.getElem_mem hj)
        simp only [this, if_false]
        exact lo _ (List.getElem_mem hj)
    · have hyd : y ≠ d := fun e => by
        subst e
        refine hy _ (List.mem_iff_getElem.2 ⟨i, by simpa using hi, rfl⟩) ?_
        rw [List.getElem_set_self]
      simp only [hyd, if_false]
      by_cases e : L[i].d = y
      · right
        refine ⟨by simpa using lk, fun c hc => ?_⟩
        have cy : car y ≤ L[i].count := by rw [← e]; exact li.1
        rcases mem_set hc with rfl | ⟨j, hj, hji, rfl⟩
        · show car y ≤ L[i].count + w
          omega
        · exact Nat.le_trans cy (mn _ (List.getElem_mem hj))
      · have hy2 : ∀ c ∈ L, c.d ≠ y := fun c hc => by
          obtain ⟨j, hj, rfl⟩ := List.mem_iff_getElem.1 hc
          by_cases e2 : i = j
          · subst e2
            exact e
          · exact hy L[j] (List.mem_iff_getElem.2 ⟨j, by simpa using hj, List.getElem_set_ne e2 _⟩)
        refine (no y hy2).imp id fun ⟨h1, h2⟩ => ⟨by simpa using h1, fun c hc => ?_⟩
        rcases mem_set hc with rfl | ⟨j, hj, hji, rfl⟩
        · have := h2 _ (List.getElem_mem hi)
          show car y ≤ L[i].count + w
          omega
        · exact h2 _ (List.getElem_mem hj)
theorem sum_ge : ∀ (L : List CN) (m : Nat), (∀ c ∈ L, m ≤ c.count) → L.length * m ≤ (L.map CN.count).sum
  | [], m, _ => by simp
  | a :: L, m, h => by
    have := sum_ge L m fun c hc => h c (by simp [hc])
    have ha := h a (by simp)
    simp only [List.length_cons, List.map_cons, List.sum_cons, Nat.add_mul, Nat.one_mul]
    omega
/-- A key without a counter has carried little. -/
theorem Sv.none {k : Nat} {L : List CN} {car : Nat → Nat} {tot d : Nat} (x : Sv k L car tot) (h : ∀ c ∈ L, c.d ≠ d) : car d * k ≤ tot := by
  rcases x.no d h with h0 | ⟨h1, h2⟩
  · rw [h0, Nat.zero_mul]
    exact Nat.zero_le _
  · have h3 := sum_ge L (car d) h2
    have e : L.length = k := by have := x.len; omega
    rw [e, x.sm, Nat.mul_comm] at h3
    exact h3
theorem len12 {L : List CN} (h : (L.map CN.d).Nodup) (hd : ∀ c ∈ L, c.d < 12) : L.length ≤ 12 := by
  have sub : L.map CN.d ⊆ List.range 12 := fun a ha => by
    obtain ⟨c, hc, rfl⟩ := List.mem_map.1 ha
    exact List.mem_range.2 (hd c hc)
  have := List.Nodup.length_le_of_subset h sub
  simpa using this
end Go.Proofs.Ytnmbpehficchkaa.Ideal
