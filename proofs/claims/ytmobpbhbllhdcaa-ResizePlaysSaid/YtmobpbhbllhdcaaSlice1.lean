import Derived.Test.YtmobpbhbllhdcaaI29
import Derived.Test.YtmobpbhbllhdcaaOpen
noncomputable section
open Go.Proofs
namespace Go.Proofs.Ytmobpbhbllhdcaa.Ideal
open Go.RowKit
set_option linter.unusedSimpArgs false
set_option linter.unusedVariables false
/-- One slice among arguments that hold no address. -/
theorem plain_arel {ρ : Rho} : ∀ (l : List Value), l.all plainV = true → LRel ρ l l
  | l, h => ⟨rfl, fun i v hv => ⟨v, hv, plain_rel (by rw [List.all_eq_true] at h; exact h v (List.mem_of_getElem? hv))⟩⟩
theorem arel_mid {ρ : Rho} {pre post : List Value} {s s' : Value} (h1 : pre.all plainV = true) (h2 : post.all plainV = true) (hs : VRel ρ s s') : ARel ρ (pre ++ [s] ++ post).toArray (pre ++ [s'] ++ post).toArray := by
  have hmid : LRel ρ [s] [s'] := ⟨rfl, fun i v hv => ?_⟩
  · exact ARel.of_list (((plain_arel pre h1).append hmid).append (plain_arel post h2))
  match i, hv with
  | 0, hv => simp at hv; subst hv; exact ⟨s', rfl, hs⟩
  | i + 1, hv => simp at hv
/-- Arguments that hold no address. -/
theorem calls_plainL {P : Program} {f : FuncId} (l : List Value) (p1 : l.all plainV = true) {W : World} (c : FN P f l.toArray noHeap (Q := ⟨fun v _ => v = .bool true⟩)) :
    Calls P f l.toArray W fun e W' => e = .returned (.bool true) ∧ Below W.heap.size W W' := by
  obtain ⟨v, h', c, rfl⟩ := c
  exact calls_init c (ρ := fun _ => none) (ARel.of_list (plain_arel l p1)) (noHeap_models W) (fun _ _ => rfl) (fun i o hg => by rw [noHeap_get] at hg; cases hg)
theorem cell_cells {w : World} {x : Addr} {v : Value} (h : w.cell? x = some v) : x.spot = none ∧ ∃ c e fr, w.heap[x.block]? = some (.cells c e fr) ∧ c[x.off]? = some v := by
  obtain ⟨b, q, s⟩ := x
  unfold World.cell? at h
  dsimp only at h
  split at h
  · rename_i c e fr hb
    cases s with
    | none => exact ⟨rfl, c, e, fr, hb, by simpa using h⟩
    | some u => simp at h
  · cases h
theorem ro1_only {cs : List Value} : ∀ i o, (ro1 cs).get i = some o → o.isRo = true ∨ o = .dead := fun i o hg => by
  have := (ro1_get hg).2
  subst this
  exact .inl rfl
theorem calls_slice1 {P : Program} {f : FuncId} {pre post : List Value} (p1 : pre.all plainV = true) (p2 : post.all plainV = true) {A : Option Addr} {len cap : Nat} {cs : List Value} {W : World} (hpl : ∀ v ∈ cs, plainV v = true)
    (hnil : A = none → len = 0 ∧ cap = 0) (hcells : Cells W A cs) (t0 : ∀ x, A = some x → cap ≠ 0 → ∃ v, W.cell? x = some v) (h0 : cap = 0 → len = 0 ∧ cs = [])
    (c1 : ∃ h', ICall P f (pre ++ [Value.slice none 0 0] ++ post).toArray noHeap (.bool true) h') (c2 : ∃ h', ICall P f (pre ++ [Value.slice (some ⟨0, 0, none⟩) len cap] ++ post).toArray (ro1 cs) (.bool true) h') :
    Calls P f (pre ++ [Value.slice A len cap] ++ post).toArray W fun e W' => e = .returned (.bool true) ∧ Below W.heap.size W W' := by
  obtain ⟨h1, c1⟩ := c1
  obtain ⟨h2, c2⟩ := c2
  cases A with
  | none =>
    obtain ⟨rfl, rfl⟩ := hnil rfl
    exact calls_init c1 (ρ := fun _ => none) (arel_mid p1 p2 (.base rfl)) (noHeap_models W) (fun _ _ => rfl) (fun i o hg => by rw [noHeap_get] at hg; cases hg)
  | some x =>
    by_cases hc0 : cap = 0
    · subst hc0
      obtain ⟨rfl, rfl⟩ := h0 rfl
      exact calls_init c2 (ρ := fun _ => none) (arel_mid p1 p2 .slc0) ⟨(fun i R o _ h => by cases h), (fun i j R R' h => by cases h), (fun i R h => by cases h)⟩ (fun _ _ => rfl) ro1_only
    · obtain ⟨v, hv⟩ := t0 x rfl hc0
      obtain ⟨hs, c, e, fr, hb, hcv⟩ := cell_cells hv
      obtain ⟨b, q, s⟩ := x
      dsimp only at hs hb hcv
      subst hs
      have hq : q < c.size := (Array.getElem?_eq_some_iff.1 hcv).1
      have hc : ∀ (i : Nat) (u : Value), cs[i]? = some u → c[q + i]? = some u := by
        intro i u hu
        have hp : 0 < cs.length := by have := (List.getElem?_eq_some_iff.1 hu).1; omega
        obtain ⟨b', q', e1, e2⟩ := hcells hp
        cases e1
        obtain ⟨_, c', e', fr', hb', hcv'⟩ := cell_cells (e2 i u hu)
        dsimp only at hb' hcv'
        rw [hb] at hb'
        cases hb'
        exact hcv'
      have hsz : q + cs.length ≤ c.size := by
        by_cases hp : cs.length = 0
        · omega
        · have hl : cs.length - 1 < cs.length := by omega
          have := hc (cs.length - 1) _ (List.getElem?_eq_getElem hl)
          have := (Array.getElem?_eq_some_iff.1 this).1
          omega
      have hm := ro1_models (W := W) (cs := cs) hb hsz (fun i u hu => ⟨hc i u hu, hpl u (List.mem_of_getElem? hu)⟩)
      refine calls_init c2 (ρ := rhoR b q c.size) (arel_mid p1 p2 ?_) hm (fun i hi => ?_) ro1_only
      · have h : rhoR b q c.size 0 = some ⟨b, q, c.size, 0⟩ := rfl
        have := VRel.slc (o := 0) (n := len) (c := cap) h (.inl rfl)
        simpa using this
      · unfold rhoR
        rw [if_neg (by have : 1 ≤ i := hi; omega)]
/-- Rows of one bool. -/
theorem bool_rows {W : World} : ∀ {rows : List (List Value)}, (∀ r ∈ rows, Leaves W [.bool] r) → ∃ bs : List Bool, bs.length = rows.length ∧ rows.flatten = bs.map .bool
  | [], _ => ⟨[], rfl, rfl⟩
  | r :: rows, h => by
    obtain ⟨bs, h1, h2⟩ := bool_rows (rows := rows) fun r hr => h r (by simp [hr])
    obtain ⟨_, t1, rfl, ⟨b, rfl⟩, l1⟩ := (h r (by simp)).cons_inv
    obtain rfl := List.eq_nil_of_length_eq_zero l1.1
    exact ⟨b :: bs, by simp [h1], by simp [h2]⟩
theorem FN.icall {P : Program} {g : FuncId} {args : Array Value} {h : IHeap} {v : Value} (x : FN P g args h (Q := ⟨fun v' _ => v' = v⟩)) : ∃ h', ICall P g args h v h' := by
  obtain ⟨v', h', hc, rfl⟩ := x
  exact ⟨h', hc⟩
theorem ro1_get0 (cs : List Value) : (ro1 cs).get 0 = some (.row true 0 cs) := rfl
end Go.Proofs.Ytmobpbhbllhdcaa.Ideal
