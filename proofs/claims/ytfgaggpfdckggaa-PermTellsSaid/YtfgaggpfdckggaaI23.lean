/- What the judge's row says of a slice that nobody looks into. -/
import Derived.Test.YtfgaggpfdckggaaI22
import Derived.Deep.Slices
noncomputable section
namespace Go.Proofs.Ytfgaggpfdckggaa.Ideal
open Go.RowKit
set_option linter.unusedVariables false
theorem cell_there {w : World} {x : Addr} {v : Value} (h : w.cell? x = some v) : x.spot = none ∧ x.block < w.heap.size := by
  obtain ⟨b, q, s⟩ := x
  unfold World.cell? at h
  dsimp only at h
  split at h
  · rename_i c e fr hb
    refine ⟨?_, (Array.getElem?_eq_some_iff.1 hb).1⟩
    cases s with
    | none => rfl
    | some u => simp at h
  · cases h
/-- A slice argument: nil; or there, or of no capacity. -/
def There (w : World) (A : Option Addr) (len cap : Nat) : Prop := (A = none ∧ len = 0 ∧ cap = 0) ∨ ∃ x, A = some x ∧ len ≤ cap ∧ (cap = 0 ∨ (x.spot = none ∧ x.block < w.heap.size))
theorem open_there {H : Type} {enc : TypeId × Value → H} {P : Program} {w : World} {base : Nat} {held : Bool} {t e : TypeId} {A : Option Addr} {len cap : Nat} {d : DataW H} {p : List MemPlace}
    (ht : P.underlying t = some (.slice e)) (hc : 0 < P.cellsOf e) (h : DataW.Trod enc P w base (fun _ => true) held t (.slice A len cap) d p) : There w A len cap := by
  obtain ⟨fuel, hf⟩ := h
  rcases Go.Deep.open_slice ht hf with ⟨h1, _⟩ | ⟨a, len', cap', m, n, D, Pl, h1, hb, hl, hcm, hm, _, hall⟩
  · simp [Value.cells] at h1
    exact .inl h1
  · simp [Value.cells] at h1
    obtain ⟨rfl, rfl, rfl⟩ := h1
    refine .inr ⟨a, rfl, hl, ?_⟩
    by_cases h0 : cap = 0
    · exact .inl h0
    · simp at hm
      subst hm
      obtain ⟨cs, g1, _⟩ := hall 0 (by omega)
      obtain ⟨_, g2, g3⟩ := World.cells?_some g1
      have g4 := g3 0 hc
      have hz : (a.add (0 * P.cellsOf e)).add 0 = a := by rw [Nat.zero_mul]; rfl
      rw [hz] at g4
      have : ∃ v, cs[0]? = some v := ⟨_, List.getElem?_eq_getElem (by omega)⟩
      obtain ⟨v, hv⟩ := this
      rw [hv] at g4
      exact .inr (cell_there g4)
theorem arel_nil {ρ : Rho} : ARel ρ #[] #[] := ⟨rfl, fun i hi => by simp at hi⟩
theorem arel2 {ρ : Rho} {a b a' b' : Value} (h1 : VRel ρ a a') (h2 : VRel ρ b b') : ARel ρ #[a, b] #[a', b'] := by
  refine ⟨rfl, fun i hi => ?_⟩
  have hi' : i < 2 := hi
  match i, hi' with
  | 0, _ => exact h1
  | 1, _ => exact h2
end Go.Proofs.Ytfgaggpfdckggaa.Ideal
