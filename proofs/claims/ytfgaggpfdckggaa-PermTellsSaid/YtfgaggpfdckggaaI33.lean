/- Maps as lists of keys and values: what a put leaves. -/
import Derived.Test.YtfgaggpfdckggaaI32
noncomputable section
namespace Go.Proofs.Ytfgaggpfdckggaa.Ideal
set_option linter.unusedVariables false
set_option linter.unusedSimpArgs false
set_option linter.unnecessarySimpa false
set_option linter.unusedSectionVars false
variable {α β : Type} [DecidableEq α]
theorem alGet_put (a c : α) (b : β) : ∀ M : List (α × β), alGet (alPut a b M) c = if a = c then some b else alGet M c
  | [] => by by_cases h : a = c <;> simp [alPut, alGet, h]
  | m :: M => by
    have ih := alGet_put a c b M
    unfold alGet at ih ⊢
    simp only [alPut]
    by_cases hm : m.1 = a
    · by_cases h : a = c
      · simp [hm, h]
      · have : ¬ m.1 = c := fun e => h (hm ▸ e)
        simp [hm, h, this]
    · by_cases hc : m.1 = c
      · have h1 : ¬ a = c := fun e => hm (hc.trans e.symm)
        have h2 : ¬ c = a := fun e => h1 e.symm
        simp [hm, hc, h1, h2]
      · by_cases h : a = c
        · subst h; simp [hm]; simpa using ih
        · simp [hm, hc, h]; simpa [h] using ih
theorem alPut_new {a : α} {b : β} : ∀ {M : List (α × β)}, a ∉ M.map (·.1) → alPut a b M = M ++ [(a, b)]
  | [], _ => rfl
  | m :: M, h => by
    simp only [List.map_cons, List.mem_cons, not_or] at h
    simp [alPut, Ne.symm h.1, alPut_new h.2]
theorem alPut_keys_old {a : α} {b : β} : ∀ {M : List (α × β)}, a ∈ M.map (·.1) → (alPut a b M).map (·.1) = M.map (·.1)
  | [], h => by simp at h
  | m :: M, h => by
    by_cases hm : m.1 = a
    · simp [alPut, hm]
    · have : a ∈ M.map (·.1) := by
        simp only [List.map_cons, List.mem_cons] at h
        rcases h with h | h
        · exact absurd h.symm hm
        · exact h
      simp only [alPut, hm, if_false, List.map_cons, alPut_keys_old this]
theorem alPut_all {a : α} {b : β} {p : α × β → Prop} (hp : p (a, b)) : ∀ {M : List (α × β)}, (∀ g ∈ M, p g) → ∀ g ∈ alPut a b M, p g
  | [], _, g, hg => by
    simp only [alPut, List.mem_singleton] at hg
    exact hg ▸ hp
  | m :: M, h, g, hg => by
    by_cases hm : m.1 = a
    · simp only [alPut, hm, if_true, List.mem_cons] at hg
      rcases hg with rfl | hg
      · exact hp
      · exact h g (List.mem_cons_of_mem _ hg)
    · simp only [alPut, hm, if_false, List.mem_cons] at hg
      rcases hg with rfl | hg
      · exact h _ List.mem_cons_self
      · exact alPut_all hp (fun g hg => h g (List.mem_cons_of_mem _ hg)) g hg
/-- Among the keys of a map all of whose values are true. -/
theorem alGet_true {M : List (α × Bool)} (h : ∀ g ∈ M, g.2 = true) (a : α) : alGet M a = if a ∈ M.map (·.1) then some true else none := by
  induction M with
  | nil => simp [alGet]
  | cons m M ih =>
    have ih := ih (fun g hg => h g (List.mem_cons_of_mem _ hg))
    have hm := h m List.mem_cons_self
    unfold alGet at ih ⊢
    by_cases e : m.1 = a
    · simp [e, hm]
    · have e2 : ¬ a = m.1 := fun x => e x.symm
      simp only [List.find?_cons, e, decide_false, List.map_cons, List.mem_cons, e2, false_or]
      exact ih
end Go.Proofs.Ytfgaggpfdckggaa.Ideal
