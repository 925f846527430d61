import Derived.Test.YtepajeemcalheaaP10g
import Derived.Test.YtepajeemcalheaaSlice1
import Derived.Test.YtepajeemcalheaaOpen
noncomputable section
open Go.Proofs
namespace Go.Proofs.Ytepajeemcalheaa.Ideal
open Go.RowKit
set_option linter.unusedSimpArgs false
set_option linter.unusedVariables false
theorem wf_u8 {k : Int} (h : (Lit.int .u8 k).wf = true) : 0 ≤ k ∧ k < 256 := by
  simp [Lit.wf, IntKind.min, IntKind.max, IntKind.signed, IntKind.bits] at h
  omega
/-- Rows of one byte. -/
theorem byte_rows {W : World} : ∀ {rows : List (List Value)}, (∀ r ∈ rows, Leaves W [.int .u8] r) → ∃ bs : List Nat, bs.length = rows.length ∧ rows.flatten = bs.map (fun n => .int .u8 (n : Nat)) ∧ ∀ b ∈ bs, b < 256
  | [], _ => ⟨[], rfl, rfl, by simp⟩
  | r :: rows, h => by
    obtain ⟨bs, h1, h2, h3⟩ := byte_rows (rows := rows) fun r hr => h r (by simp [hr])
    obtain ⟨_, t1, rfl, ⟨a, rfl, hw⟩, l1⟩ := (h r (by simp)).cons_inv
    obtain rfl := List.eq_nil_of_length_eq_zero l1.1
    have hw := wf_u8 hw
    refine ⟨a.toNat :: bs, by simp [h1], ?_, fun x hx => ?_⟩
    · have : ((a.toNat : Nat) : Int) = a := by omega
      simp [h2, this]
    · rcases List.mem_cons.1 hx with rfl | hx
      · omega
      · exact h3 x hx
theorem walkOrder (A : Option Addr) (len cap : Nat) (rows : List (List Value)) (a0 a1 : Int) (W : World)
    (w5 : rows.length = len ∧ len ≤ cap ∧ (A = none → len = 0 ∧ cap = 0) ∧ cap ≤ maxLen ∧ (∀ r ∈ rows, Leaves W [.int .u8] r) ∧ Cells W A rows.flatten) (t5 : ∀ x, A = some x → cap ≠ 0 → ∃ v, W.cell? x = some v) (w0 : (Lit.int .u64 a0).wf = true) (w1 : (Lit.int .i64 a1).wf = true) :
    Calls Try.prog 3 #[.slice A len cap, .int .u64 a0, .int .i64 a1] W fun e W' => e = .returned (.bool true) ∧ Below W.heap.size W W' := by
  obtain ⟨hlen, hlc, hnil, hmax, hlv, hcells⟩ := w5
  obtain ⟨bs, hbl, hfl, hbb⟩ := byte_rows hlv
  obtain rfl : bs.length = len := by omega
  rw [hfl] at hcells
  refine calls_slice1 (pre := []) (post := [.int .u64 a0, .int .i64 a1]) rfl rfl (cs := bs.map (fun n => .int .u8 (n : Nat))) ?_ hnil hcells t5 ?_ ?_ ?_
  · intro v hv
    obtain ⟨b, _, rfl⟩ := List.mem_map.1 hv
    rfl
  · intro h0
    have : bs = [] := List.eq_nil_of_length_eq_zero (by omega)
    subst this
    exact ⟨rfl, rfl⟩
  · exact (order_c (h := noHeap) (A := none) (bs := []) (cap := 0) (rem := a0) (lv := a1) (fun h => absurd rfl h) (by simp)).icall
  · exact (order_c (h := ro1 (bs.map (fun n => .int .u8 (n : Nat)))) (A := some ⟨0, 0, none⟩) (bs := bs) (cap := cap) (rem := a0) (lv := a1) (fun _ => ⟨0, 0, true, 0, _, rfl, ro1_get0 _, fun j c hc => by simpa using hc⟩) hbb).icall
end Go.Proofs.Ytepajeemcalheaa.Ideal
