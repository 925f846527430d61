import Derived.Test.YtepajeemcalheaaP10n
import Derived.Test.YtepajeemcalheaaSlice1
import Derived.Test.YtepajeemcalheaaOpen
noncomputable section
open Go.Proofs
namespace Go.Proofs.Ytepajeemcalheaa.Ideal
open Go.RowKit
set_option linter.unusedSimpArgs false
set_option linter.unusedVariables false
def opV (c : OP) : List Value := [.int .i64 c.1, .int .i64 c.2.1, .int .i64 c.2.2]
/-- Rows of three numbers. -/
theorem op_rows {W : World} : ∀ {rows : List (List Value)}, (∀ r ∈ rows, Leaves W [.int .i64, .int .i64, .int .i64] r) → ∃ bs : List OP, bs.length = rows.length ∧ rows.flatten = bs.flatMap opV
  | [], _ => ⟨[], rfl, rfl⟩
  | r :: rows, h => by
    obtain ⟨bs, h1, h2⟩ := op_rows (rows := rows) fun r hr => h r (by simp [hr])
    obtain ⟨_, t1, rfl, ⟨a, rfl, _⟩, l1⟩ := (h r (by simp)).cons_inv
    obtain ⟨_, t2, rfl, ⟨b, rfl, _⟩, l2⟩ := l1.cons_inv
    obtain ⟨_, t3, rfl, ⟨c, rfl, _⟩, l3⟩ := l2.cons_inv
    obtain rfl := List.eq_nil_of_length_eq_zero l3.1
    exact ⟨(a, b, c) :: bs, by simp [h1], by simp [h2, opV]⟩
theorem op_slots : ∀ {bs : List OP} {j : Nat} {c : OP}, bs[j]? = some c → slots (bs.flatMap opV) (0 + j * 3) 3 = some [.int .i64 c.1, .int .i64 c.2.1, .int .i64 c.2.2]
  | [], j, c, h => by simp at h
  | b :: bs, 0, c, h => by
    simp at h; subst h
    simp [slots, opV]
  | b :: bs, j + 1, c, h => by
    have := op_slots (bs := bs) (j := j) (c := c) (by simpa using h)
    unfold slots at this ⊢
    rw [show 0 + (j + 1) * 3 = (0 + j * 3) + 3 by omega]
    simp only [List.flatMap_cons, List.length_append, opV, List.length_cons, List.length_nil] at this ⊢
    split at this
    · rename_i h1
      rw [if_pos (by omega)]
      simpa using this
    · cases this
theorem walkPlays (a0 a1 : Int) (A : Option Addr) (len cap : Nat) (rows : List (List Value)) (W : World) (w0 : (Lit.int .i64 a0).wf = true) (w1 : (Lit.int .i64 a1).wf = true)
    (w5 : rows.length = len ∧ len ≤ cap ∧ (A = none → len = 0 ∧ cap = 0) ∧ cap ≤ maxLen ∧ (∀ r ∈ rows, Leaves W [.int .i64, .int .i64, .int .i64] r) ∧ Cells W A rows.flatten) (t5 : ∀ x, A = some x → cap ≠ 0 → ∃ v, W.cell? x = some v) :
    Calls Try.prog 4 #[.int .i64 a0, .int .i64 a1, .slice A len cap] W fun e W' => e = .returned (.bool true) ∧ Below W.heap.size W W' := by
  obtain ⟨hlen, hlc, hnil, hmax, hlv, hcells⟩ := w5
  obtain ⟨bs, hbl, hfl⟩ := op_rows hlv
  obtain rfl : bs.length = len := by omega
  rw [hfl] at hcells
  refine calls_slice1 (pre := [.int .i64 a0, .int .i64 a1]) (post := []) rfl rfl (cs := bs.flatMap opV) ?_ hnil hcells t5 ?_ ?_ ?_
  · intro v hv
    obtain ⟨b, _, hb⟩ := List.mem_flatMap.1 hv
    simp only [opV, List.mem_cons, List.not_mem_nil, or_false] at hb
    rcases hb with rfl | rfl | rfl <;> rfl
  · intro h0
    have : bs = [] := List.eq_nil_of_length_eq_zero (by omega)
    subst this
    exact ⟨rfl, rfl⟩
  · exact (plays_c (h := noHeap) (A := none) (ops := []) (cap := 0) (fun h => absurd rfl h)).icall
  · exact (plays_c (h := ro1 (bs.flatMap opV)) (A := some ⟨0, 0, none⟩) (ops := bs) (cap := cap) (fun _ => ⟨0, 0, true, 0, _, rfl, ro1_get0 _, fun j c hc => op_slots hc⟩)).icall
end Go.Proofs.Ytepajeemcalheaa.Ideal
