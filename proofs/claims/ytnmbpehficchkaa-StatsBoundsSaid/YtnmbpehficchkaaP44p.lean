import Derived.Test.YtnmbpehficchkaaP44b
noncomputable section
namespace Go.Proofs.Ytnmbpehficchkaa.Ideal
set_option linter.unusedSimpArgs false
set_option linter.unusedVariables false
def hg0 : HG := { by' := List.replicate 65 0, sum := 0, least := 0, greatest := 0, hl := by simp }
def HG.of (l : List Nat) : HG := l.foldl HG.add hg0
theorem HG.of_snoc (l : List Nat) (n : Nat) : HG.of (l ++ [n]) = (HG.of l).add n := by simp [HG.of]
theorem take_set_sum : ∀ (l : List Int) (k i : Nat), k < l.length → ((l.set k (l.getD k 0 + 1)).take i).sum = (l.take i).sum + if k < i then 1 else 0
  | [], k, i, h => by simp at h
  | a :: l, 0, 0, h => by simp
  | a :: l, 0, i + 1, h => by simp; omega
  | a :: l, k + 1, 0, h => by simp
  | a :: l, k + 1, i + 1, h => by
    have := take_set_sum l k i (by simpa using h)
    simp only [List.set_cons_succ, List.getD_cons_succ, List.take_succ_cons, List.sum_cons, this]
    by_cases c : k < i
    · rw [if_pos c, if_pos (by omega)]; omega
    · rw [if_neg c, if_neg (by omega)]; omega
/-- How many have less than i digits. -/
def cnt (l : List Nat) (i : Nat) : Nat := l.countP fun n => decide (bl n < i)
theorem cnt_snoc (l : List Nat) (n i : Nat) : cnt (l ++ [n]) i = cnt l i + if bl n < i then 1 else 0 := by
  simp [cnt, List.countP_append, List.countP_cons]
/-- A histogram of these numbers. -/
structure HG.Is (x : HG) (l : List Nat) : Prop where
  takes : ∀ i, (x.by'.take i).sum = cnt l i
  tot : x.by'.sum = l.length
  pos : ∀ b ∈ x.by', 0 ≤ b
  ends : l ≠ [] → (∀ n ∈ l, x.least ≤ n ∧ (n : Int) ≤ x.greatest) ∧ (∃ n ∈ l, (n : Int) = x.least) ∧ ∃ n ∈ l, (n : Int) = x.greatest
theorem sum_zeros : ∀ n : Nat, (List.replicate n (0 : Int)).sum = 0
  | 0 => rfl
  | n + 1 => by simp [List.replicate_succ, sum_zeros n]
theorem hg0_is : hg0.Is [] := by
  refine ⟨fun i => ?_, ?_, ?_, fun h => absurd rfl h⟩
  · show ((List.replicate 65 (0 : Int)).take i).sum = _
    rw [List.take_replicate, sum_zeros]; rfl
  · exact sum_zeros 65
  · intro b hb
    simp [hg0] at hb
    omega
theorem HG.Is.ok {x : HG} {l : List Nat} (h : x.Is l) {N : Int} (hN : (l.length : Int) ≤ N) : x.ok N := ⟨h.pos, by rw [h.tot]; exact hN⟩
theorem HG.Is.add {x : HG} {l : List Nat} (h : x.Is l) {n : Nat} (hn : n < 2 ^ 64) : (x.add n).Is (l ++ [n]) := by
  have hb : bl n < 65 := by have := bl_le.2 hn; omega
  have key : ∀ i, ((x.add n).by'.take i).sum = cnt (l ++ [n]) i := by
    intro i
    have := take_set_sum x.by' (bl n) i (by rw [x.hl]; exact hb)
    rw [h.takes] at this
    simp only [HG.add, this, cnt_snoc]
    split <;> simp
  refine ⟨key, ?_, ?_, ?_⟩
  · have h1 := key 65
    have h2 : (x.add n).by'.take 65 = (x.add n).by' := List.take_of_length_le (by rw [(x.add n).hl]; omega)
    rw [h2] at h1
    rw [h1]
    have h3 := h.takes 65
    have h4 : x.by'.take 65 = x.by' := List.take_of_length_le (by rw [x.hl]; omega)
    rw [h4, h.tot] at h3
    rw [cnt_snoc, if_pos hb]
    simp; omega
  · intro b hbm
    simp only [HG.add] at hbm
    rcases List.mem_or_eq_of_mem_set hbm with hbm | rfl
    · exact h.pos b hbm
    · rw [List.getD_eq_getElem?_getD, List.getElem?_eq_getElem (by rw [x.hl]; exact hb)]
      have := h.pos _ (List.getElem_mem (l := x.by') (n := bl n) (by rw [x.hl]; exact hb))
      simp; omega
  · intro _
    have e1 : (x.add n).least = ((x.first n).wide n).least := rfl
    have e2 : (x.add n).greatest = ((x.first n).wide n).greatest := rfl
    rw [e1, e2]
    by_cases hl : l = []
    · subst hl
      have : x.by'.sum = 0 := by rw [h.tot]; rfl
      simp [HG.first, HG.wide, this]
    · have : ¬ x.by'.sum = 0 := by
        rw [h.tot]
        have := List.length_pos_iff.2 hl
        omega
      simp only [HG.first, HG.wide, this, if_false]
      obtain ⟨g1, ⟨a, ha, ea⟩, ⟨b, hb, eb⟩⟩ := h.ends hl
      have g2 := g1 a ha
      refine ⟨fun m hm => ?_, ?_, ?_⟩
      · rcases List.mem_append.1 hm with hm | hm
        · have := g1 m hm
          constructor <;> split <;> omega
        · simp at hm
          subst hm
          constructor <;> split <;> omega
      · split
        · exact ⟨n, by simp, rfl⟩
        · exact ⟨a, by simp [ha], ea⟩
      · split
        · exact ⟨n, by simp, rfl⟩
        · exact ⟨b, by simp [hb], eb⟩
theorem HG.of_is : ∀ (l : List Nat), (∀ n ∈ l, n < 2 ^ 64) → (HG.of l).Is l := by
  intro l
  have gen : ∀ (r : List Nat) (l : List Nat) (x : HG), x.Is l → (∀ n ∈ r, n < 2 ^ 64) → (r.foldl HG.add x).Is (l ++ r) := by
    intro r
    induction r with
    | nil => intro l x h _; simpa using h
    | cons n r ih =>
      intro l x h hr
      have := ih (l ++ [n]) (x.add n) (h.add (hr n (by simp))) (fun m hm => hr m (by simp [hm]))
      simpa using this
  intro h
  exact gen l [] hg0 hg0_is h
theorem cnt_mono {l : List Nat} {i j : Nat} (h : i ≤ j) : cnt l i ≤ cnt l j :=
  List.countP_mono_left fun n _ hn => by simp at hn ⊢; omega
theorem HG.At.mono {x : HG} {l : List Nat} (h : x.Is l) {k k' i i' : Nat} (hk : k ≤ k') (a : x.At k i) (b : x.At k' i') : i ≤ i' := by
  rcases Nat.lt_or_ge i' i with c | c
  · exfalso
    have h1 := a.lo
    have h2 := b.hi
    rw [h.takes] at h1 h2
    have := cnt_mono (l := l) (show i' + 1 ≤ i by omega)
    omega
  · exact c
theorem HG.top_mono {x : HG} {i i' : Nat} (h : i ≤ i') : x.top i ≤ x.top i' := by
  have : 2 ^ i ≤ 2 ^ i' := Nat.pow_le_pow_right (by decide) h
  unfold HG.top
  split <;> split <;> omega
/-- So many are at most as great as the quantile. -/
theorem HG.At.below {x : HG} {l : List Nat} (h : x.Is l) (hl : l ≠ []) {k i : Nat} (a : x.At k i) : k ≤ l.countP fun (n : Nat) => decide ((n : Int) ≤ x.top i) := by
  have h1 := a.hi
  rw [h.takes] at h1
  refine Nat.le_trans (Int.ofNat_le.1 h1) (List.countP_mono_left fun (n : Nat) hn hb => ?_)
  simp at hb ⊢
  have h2 : n < 2 ^ i := bl_le.1 (by omega)
  have h3 := ((h.ends hl).1 n hn).2
  unfold HG.top
  split <;> omega
theorem HG.At.last {x : HG} {l : List Nat} (h : x.Is l) (hl : l ≠ []) {i : Nat} (a : x.At l.length i) : x.top i = x.greatest := by
  have h1 := a.hi
  rw [h.takes] at h1
  have h2 : cnt l (i + 1) = l.length := Nat.le_antisymm List.countP_le_length (by omega)
  have h3 := List.countP_eq_length.1 h2
  obtain ⟨_, _, b, hb, eb⟩ := h.ends hl
  have h4 := h3 b hb
  simp at h4
  have h5 : b < 2 ^ i := bl_le.1 (by omega)
  unfold HG.top
  split <;> omega
end Go.Proofs.Ytnmbpehficchkaa.Ideal
