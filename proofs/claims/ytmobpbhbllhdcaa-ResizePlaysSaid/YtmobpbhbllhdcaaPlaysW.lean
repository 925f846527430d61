import Derived.Test.YtmobpbhbllhdcaaP14z
import Derived.Test.YtmobpbhbllhdcaaSlice1
import Derived.Test.YtmobpbhbllhdcaaOpen
noncomputable section
open Go.Proofs
namespace Go.Proofs.Ytmobpbhbllhdcaa.Ideal
open Go.RowKit
set_option linter.unusedSimpArgs false
set_option linter.unusedVariables false
theorem wf_u64 {k : Int} (h : (Lit.int .u64 k).wf = true) : 0 ≤ k ∧ k < 18446744073709551616 := by
  simp [Lit.wf, IntKind.min, IntKind.max, IntKind.signed, IntKind.bits] at h
  omega
theorem wf_u8 {k : Int} (h : (Lit.int .u8 k).wf = true) : 0 ≤ k ∧ k < 256 := by
  simp [Lit.wf, IntKind.min, IntKind.max, IntKind.signed, IntKind.bits] at h
  omega
def opV (c : OP) : List Value := [.int .i64 c.1, .int .u8 c.2.1, .int .u64 c.2.2.1, .int .u32 c.2.2.2]
/-- Rows of four numbers. -/
theorem op_rows {W : World} : ∀ {rows : List (List Value)}, (∀ r ∈ rows, Leaves W [.int .i64, .int .u8, .int .u64, .int .u32] r) → ∃ bs : List OP, bs.length = rows.length ∧ rows.flatten = bs.flatMap opV ∧ ∀ b ∈ bs, (0 ≤ b.2.2.1 ∧ b.2.2.1 < 18446744073709551616) ∧ 0 ≤ b.2.1 ∧ b.2.1 < 256
  | [], _ => ⟨[], rfl, rfl, by simp⟩
  | r :: rows, h => by
    obtain ⟨bs, h1, h2, h3⟩ := op_rows (rows := rows) fun r hr => h r (by simp [hr])
    obtain ⟨_, t1, rfl, ⟨a, rfl, _⟩, l1⟩ := (h r (by simp)).cons_inv
    obtain ⟨_, t2, rfl, ⟨b, rfl, hb⟩, l2⟩ := l1.cons_inv
    obtain ⟨_, t3, rfl, ⟨c, rfl, hw⟩, l3⟩ := l2.cons_inv
    obtain ⟨_, t4, rfl, ⟨d, rfl, _⟩, l4⟩ := l3.cons_inv
    obtain rfl := List.eq_nil_of_length_eq_zero l4.1
    refine ⟨(a, b, c, d) :: bs, by simp [h1], by simp [h2, opV], fun x hx => ?_⟩
    rcases List.mem_cons.1 hx with rfl | hx
    · exact ⟨wf_u64 hw, wf_u8 hb⟩
    · exact h3 x hx
theorem op_slots : ∀ {bs : List OP} {j : Nat} {c : OP}, bs[j]? = some c → slots (bs.flatMap opV) (0 + j * 4) 4 = some [.int .i64 c.1, .int .u8 c.2.1, .int .u64 c.2.2.1, .int .u32 c.2.2.2]
  | [], j, c, h => by simp at h
  | b :: bs, 0, c, h => by
    simp at h; subst h
    simp [slots, opV]
  | b :: bs, j + 1, c, h => by
    have := op_slots (bs := bs) (j := j) (c := c) (by simpa using h)
    unfold slots at this ⊢
    rw [show 0 + (j + 1) * 4 = (0 + j * 4) + 4 by omega]
    simp only [List.flatMap_cons, List.length_append, opV, List.length_cons, List.length_nil] at this ⊢
    split at this
    · rename_i h1
      rw [if_pos (by omega)]
      simpa using this
    · cases this
theorem walkPlays (a0 : Int) (A : Option Addr) (len cap : Nat) (rows : List (List Value)) (W : World) (w0 : (Lit.int .i64 a0).wf = true)
    (w5 : rows.length = len ∧ len ≤ cap ∧ (A = none → len = 0 ∧ cap = 0) ∧ cap ≤ maxLen ∧ (∀ r ∈ rows, Leaves W [.int .i64, .int .u8, .int .u64, .int .u32] r) ∧ Cells W A rows.flatten) (t5 : ∀ x, A = some x → cap ≠ 0 → ∃ v, W.cell? x = some v) :
    Calls Try.prog 4 #[.int .i64 a0, .slice A len cap] W fun e W' => e = .returned (.bool true) ∧ Below W.heap.size W W' := by
  obtain ⟨hlen, hlc, hnil, hmax, hlv, hcells⟩ := w5
  obtain ⟨bs, hbl, hfl, hbb⟩ := op_rows hlv
  obtain rfl : bs.length = len := by omega
  rw [hfl] at hcells
  refine calls_slice1 (pre := [.int .i64 a0]) (post := []) rfl rfl (cs := bs.flatMap opV) ?_ hnil hcells t5 ?_ ?_ ?_
  · intro v hv
    obtain ⟨b, _, hb⟩ := List.mem_flatMap.1 hv
    simp only [opV, List.mem_cons, List.not_mem_nil, or_false] at hb
    rcases hb with rfl | rfl | rfl | rfl <;> rfl
  · intro h0
    have : bs = [] := List.eq_nil_of_length_eq_zero (by omega)
    subst this
    exact ⟨rfl, rfl⟩
  · exact (plays_c (h := noHeap) (A := none) (ops := []) (cap := 0) (by simp) (fun h => absurd rfl h)).icall
  · exact (plays_c (h := ro1 (bs.flatMap opV)) (A := some ⟨0, 0, none⟩) (ops := bs) (cap := cap) hbb (fun _ => ⟨0, 0, true, 0, _, rfl, ro1_get0 _, fun j c hc => op_slots hc⟩)).icall
end Go.Proofs.Ytmobpbhbllhdcaa.Ideal
