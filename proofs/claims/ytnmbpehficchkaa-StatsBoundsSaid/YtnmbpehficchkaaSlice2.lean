import Derived.Test.YtnmbpehficchkaaI40
import Derived.Test.YtnmbpehficchkaaSlice1
import Derived.Test.YtnmbpehficchkaaOpen
noncomputable section
open Go.Proofs
namespace Go.Proofs.Ytnmbpehficchkaa.Ideal
open Go.RowKit
set_option linter.unusedSimpArgs false
set_option linter.unusedVariables false
/-- A slice argument as the ideal heap has it: nil, or block k. -/
def SlArg (k : Nat) (A' : Option Addr) (len cap : Nat) : Prop := (A' = none ∧ len = 0 ∧ cap = 0) ∨ A' = some ⟨k, 0, none⟩
theorem slice_place {W : World} (k : Nat) {A : Option Addr} {len cap : Nat} {cs : List Value} (hpl : ∀ v ∈ cs, plainV v = true)
    (hnil : A = none → len = 0 ∧ cap = 0) (hcells : Cells W A cs) (t0 : ∀ x, A = some x → cap ≠ 0 → ∃ v, W.cell? x = some v) (h0 : cap = 0 → len = 0 ∧ cs = []) :
    ∃ (A' : Option Addr) (pl : Option RoPl), SlArg k A' len cap ∧ (∀ p, pl = some p → p.Bears W cs) ∧ ∀ ρ : Rho, ρ k = pl.map (fun p => ⟨p.b, p.q, p.room, 0⟩) → VRel ρ (.slice A' len cap) (.slice A len cap) := by
  cases A with
  | none =>
    obtain ⟨rfl, rfl⟩ := hnil rfl
    exact ⟨none, none, .inl ⟨rfl, rfl, rfl⟩, (fun p h => by cases h), fun ρ _ => .base rfl⟩
  | some x =>
    by_cases hc0 : cap = 0
    · subst hc0
      obtain ⟨rfl, rfl⟩ := h0 rfl
      exact ⟨some ⟨k, 0, none⟩, none, .inr rfl, (fun p h => by cases h), fun ρ _ => .slc0⟩
    · obtain ⟨v, hv⟩ := t0 x rfl hc0
      obtain ⟨hs, c, e, fr, hb, hcv⟩ := cell_cells hv
      obtain ⟨b, q, s⟩ := x
      dsimp only at hs hb hcv
      subst hs
      have hq : q < c.size := (Array.getElem?_eq_some_iff.1 hcv).1
      have hc : ∀ (i : Nat) (u : Value), cs[i]? = some u → c[q + i]? = some u := by
        intro i u hu
        have hp : 0 < cs.length := by have := (List.getElem?_eq_some_iff.1 hu).1; omega
        obtain ⟨b', q', e1, e2⟩ := hcells hp
        cases e1
        obtain ⟨_, c', e', fr', hb', hcv'⟩ := cell_cells (e2 i u hu)
        dsimp only at hb' hcv'
        rw [hb] at hb'
        cases hb'
        exact hcv'
      have hsz : q + cs.length ≤ c.size := by
        by_cases hp : cs.length = 0
        · omega
        · have hl : cs.length - 1 < cs.length := by omega
          have := hc (cs.length - 1) _ (List.getElem?_eq_getElem hl)
          have := (Array.getElem?_eq_some_iff.1 this).1
          omega
      refine ⟨some ⟨k, 0, none⟩, some ⟨b, q, c.size⟩, .inr rfl, ?_, fun ρ hρ => ?_⟩
      · intro p hp
        cases hp
        exact ⟨c, e, fr, hb, rfl, hsz, fun i u hu => ⟨hc i u hu, hpl u (List.mem_of_getElem? hu)⟩⟩
      · have := VRel.slc (ρ := ρ) (R := ⟨b, q, c.size, 0⟩) (o := 0) (n := len) (c := cap) (by simpa using hρ) (.inl rfl)
        simpa using this
theorem lrel_one {ρ : Rho} {s s' : Value} (hs : VRel ρ s s') : LRel ρ [s] [s'] := ⟨rfl, fun i v hv => by
  match i, hv with
  | 0, hv => simp at hv; subst hv; exact ⟨s', rfl, hs⟩
  | i + 1, hv => simp at hv⟩
/-- Two slices among arguments that hold no address. -/
theorem calls_slice2 {P : Program} {f : FuncId} {pre mid post : List Value} (p1 : pre.all plainV = true) (p2 : mid.all plainV = true) (p3 : post.all plainV = true)
    {A : Option Addr} {len cap : Nat} {cs : List Value} {B : Option Addr} {len2 cap2 : Nat} {ds : List Value} {W : World} (hpl : ∀ v ∈ cs, plainV v = true) (hpl2 : ∀ v ∈ ds, plainV v = true)
    (hnil : A = none → len = 0 ∧ cap = 0) (hcells : Cells W A cs) (t0 : ∀ x, A = some x → cap ≠ 0 → ∃ v, W.cell? x = some v) (h0 : cap = 0 → len = 0 ∧ cs = [])
    (hnil2 : B = none → len2 = 0 ∧ cap2 = 0) (hcells2 : Cells W B ds) (t2 : ∀ x, B = some x → cap2 ≠ 0 → ∃ v, W.cell? x = some v) (h02 : cap2 = 0 → len2 = 0 ∧ ds = [])
    (c : ∀ A' B', SlArg 0 A' len cap → SlArg 1 B' len2 cap2 → ∃ h', ICall P f (pre ++ [Value.slice A' len cap] ++ mid ++ [Value.slice B' len2 cap2] ++ post).toArray (ro2 cs ds) (.bool true) h') :
    Calls P f (pre ++ [Value.slice A len cap] ++ mid ++ [Value.slice B len2 cap2] ++ post).toArray W fun e W' => e = .returned (.bool true) ∧ Below W.heap.size W W' := by
  obtain ⟨A', x, a1, a2, a3⟩ := slice_place (W := W) 0 hpl hnil hcells t0 h0
  obtain ⟨B', y, b1, b2, b3⟩ := slice_place (W := W) 1 hpl2 hnil2 hcells2 t2 h02
  obtain ⟨h', cc⟩ := c A' B' a1 b1
  refine calls_init cc (ρ := rhoR2 x y) ?_ (ro2_models a2 b2) (fun i hi => ?_) ro2_only
  · exact ARel.of_list (((((plain_arel pre p1).append (lrel_one (a3 _ rfl))).append (plain_arel mid p2)).append (lrel_one (b3 _ rfl))).append (plain_arel post p3))
  · have : 2 ≤ i := by rw [ro2_size] at hi; exact hi
    unfold rhoR2
    rw [if_neg (by omega), if_neg (by omega)]
end Go.Proofs.Ytnmbpehficchkaa.Ideal
