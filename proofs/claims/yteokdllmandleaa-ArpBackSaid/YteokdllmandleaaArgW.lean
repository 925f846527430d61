import Derived.Test.YteokdllmandleaaP34j
import Derived.Test.YteokdllmandleaaSlice1
import Derived.Test.YteokdllmandleaaSlice2
import Derived.Test.YteokdllmandleaaOpen
noncomputable section
open Go.Proofs
namespace Go.Proofs.Yteokdllmandleaa.Ideal
open Go.RowKit
set_option linter.unusedSimpArgs false
set_option linter.unusedVariables false
theorem wf_u8 {k : Int} (h : (Lit.int .u8 k).wf = true) : 0 ≤ k ∧ k < 256 := by
  simp [Lit.wf, IntKind.min, IntKind.max, IntKind.signed, IntKind.bits] at h
  omega
theorem wf_u16 {k : Int} (h : (Lit.int .u16 k).wf = true) : 0 ≤ k ∧ k < 65536 := by
  simp [Lit.wf, IntKind.min, IntKind.max, IntKind.signed, IntKind.bits] at h
  omega
/-- Rows of one byte. -/
theorem byte_rows {W : World} : ∀ {rows : List (List Value)}, (∀ r ∈ rows, Leaves W [.int .u8] r) → ∃ bs : List Nat, bs.length = rows.length ∧ rows.flatten = bys bs ∧ ∀ b ∈ bs, b < 256
  | [], _ => ⟨[], rfl, rfl, by simp⟩
  | r :: rows, h => by
    obtain ⟨bs, h1, h2, h3⟩ := byte_rows (rows := rows) fun r hr => h r (by simp [hr])
    obtain ⟨_, t1, rfl, ⟨a, rfl, hw⟩, l1⟩ := (h r (by simp)).cons_inv
    obtain rfl := List.eq_nil_of_length_eq_zero l1.1
    have hw := wf_u8 hw
    refine ⟨a.toNat :: bs, by simp [h1], ?_, fun x hx => ?_⟩
    · have : ((a.toNat : Nat) : Int) = a := by omega
      simp [h2, bys, this]
    · rcases List.mem_cons.1 hx with rfl | hx
      · omega
      · exact h3 x hx
theorem leaves_bys {W : World} : ∀ {n : Nat} {cs : List Value}, Leaves W (List.replicate n (.int .u8)) cs → ∃ l : List Nat, cs = bys l ∧ l.length = n
  | 0, cs, h => ⟨[], List.eq_nil_of_length_eq_zero h.1, rfl⟩
  | n + 1, cs, h => by
    obtain ⟨_, t1, rfl, ⟨a, rfl, hw⟩, l1⟩ := Leaves.cons_inv h
    obtain ⟨l, rfl, hl⟩ := leaves_bys l1
    have hw := wf_u8 hw
    refine ⟨a.toNat :: l, ?_, by simp [hl]⟩
    have : ((a.toNat : Nat) : Int) = a := by omega
    simp [bys, this]
theorem sub_join (l : List Nat) (h : l.length = 20) : sub l 0 6 ++ (sub l 6 6 ++ (sub l 12 4 ++ sub l 16 4)) = l := by
  unfold sub
  have e1 : (l.drop 16).take 4 = l.drop 16 := List.take_of_length_le (by rw [List.length_drop]; omega)
  have j1 : ∀ a b : Nat, (l.drop a).take b ++ l.drop (a + b) = l.drop a := fun a b => by rw [← List.drop_drop]; exact List.take_append_drop _ _
  rw [e1, j1 12 4, j1 6 6, List.drop_zero]
  exact List.take_append_drop 6 l
theorem leaves_ar {W : World} {cs : List Value} (h : Leaves W [.int .u16, .int .u8, .int .u8, .int .u8, .int .u8, .int .u8, .int .u8, .int .u8, .int .u8, .int .u8, .int .u8, .int .u8, .int .u8, .int .u8, .int .u8, .int .u8, .int .u8, .int .u8, .int .u8, .int .u8, .int .u8] cs) : ∃ a : AR, cs = a.row ∧ a.op < 65536 := by
  obtain ⟨_, t1, rfl, ⟨x, rfl, hw⟩, l1⟩ := h.cons_inv
  obtain ⟨l, rfl, hl⟩ := leaves_bys (n := 20) l1
  have hw := wf_u16 hw
  refine ⟨⟨x.toNat, sub l 0 6, sub l 6 6, sub l 12 4, sub l 16 4, sub_len (by omega), sub_len (by omega), sub_len (by omega), sub_len (by omega)⟩, ?_, by show x.toNat < 65536; omega⟩
  have : ((x.toNat : Nat) : Int) = x := by omega
  simp only [AR.row, this, sub_join l hl]
theorem plain_ar (a : AR) : plainV (.agg a.row.toArray) = true := by
  simp only [plainV, AR.row, bys]
  simp [scal]
theorem plain_bys (l : List Nat) : ∀ v ∈ bys l, plainV v = true := by
  intro v hv
  obtain ⟨b, _, rfl⟩ := List.mem_map.1 hv
  rfl
theorem calls_slice1b {P : Program} {f : FuncId} {pre post : List Value} (p1 : pre.all plainV = true) (p2 : post.all plainV = true)
    {A : Option Addr} {len cap : Nat} {cs : List Value} {W : World} (hpl : ∀ v ∈ cs, plainV v = true)
    (hnil : A = none → len = 0 ∧ cap = 0) (hcells : Cells W A cs) (t0 : ∀ x, A = some x → cap ≠ 0 → ∃ v, W.cell? x = some v) (h0 : cap = 0 → len = 0 ∧ cs = [])
    (c : ∀ A', SlArg 0 A' len cap → ∃ h', ICall P f (pre ++ [Value.slice A' len cap] ++ post).toArray (ro2 cs []) (.bool true) h') :
    Calls P f (pre ++ [Value.slice A len cap] ++ post).toArray W fun e W' => e = .returned (.bool true) ∧ Below W.heap.size W W' := by
  obtain ⟨A', x, a1, a2, a3⟩ := slice_place (W := W) 0 hpl hnil hcells t0 h0
  obtain ⟨h', cc⟩ := c A' a1
  refine calls_init cc (ρ := rhoR2 x none) ?_ (ro2_models a2 (fun p h => by cases h)) (fun i hi => ?_) ro2_only
  · exact ARel.of_list (((plain_arel pre p1).append (lrel_one (a3 _ rfl))).append (plain_arel post p2))
  · have : 2 ≤ i := by rw [ro2_size] at hi; exact hi
    unfold rhoR2
    rw [if_neg (by omega), if_neg (by omega)]
end Go.Proofs.Yteokdllmandleaa.Ideal
