import Derived.Test.YtnmbpehficchkaaP44c
import Derived.Test.YtnmbpehficchkaaSlice1
import Derived.Test.YtnmbpehficchkaaOpen
noncomputable section
open Go.Proofs
namespace Go.Proofs.Ytnmbpehficchkaa.Ideal
open Go.RowKit
set_option linter.unusedSimpArgs false
set_option linter.unusedVariables false
theorem wf_u64 {k : Int} (h : (Lit.int .u64 k).wf = true) : 0 ≤ k ∧ k < 18446744073709551616 := by
  simp [Lit.wf, IntKind.min, IntKind.max, IntKind.signed, IntKind.bits] at h
  omega
/-- Rows of one number. -/
theorem u64_rows {W : World} : ∀ {rows : List (List Value)}, (∀ r ∈ rows, Leaves W [.int .u64] r) → ∃ bs : List Nat, bs.length = rows.length ∧ rows.flatten = bs.map (fun n => .int .u64 (n : Nat)) ∧ ∀ b ∈ bs, b < 2 ^ 64
  | [], _ => ⟨[], rfl, rfl, by simp⟩
  | r :: rows, h => by
    obtain ⟨bs, h1, h2, h3⟩ := u64_rows (rows := rows) fun r hr => h r (by simp [hr])
    obtain ⟨_, t1, rfl, ⟨a, rfl, hw⟩, l1⟩ := (h r (by simp)).cons_inv
    obtain rfl := List.eq_nil_of_length_eq_zero l1.1
    have hw := wf_u64 hw
    refine ⟨a.toNat :: bs, by simp [h1], ?_, fun x hx => ?_⟩
    · have : ((a.toNat : Nat) : Int) = a := by omega
      simp [h2, this]
    · rcases List.mem_cons.1 hx with rfl | hx
      · omega
      · exact h3 x hx
theorem walkQuantiles (A : Option Addr) (len cap : Nat) (rows : List (List Value)) (W : World)
    (w5 : rows.length = len ∧ len ≤ cap ∧ (A = none → len = 0 ∧ cap = 0) ∧ cap ≤ maxLen ∧ (∀ r ∈ rows, Leaves W [.int .u64] r) ∧ Cells W A rows.flatten) (t5 : ∀ x, A = some x → cap ≠ 0 → ∃ v, W.cell? x = some v) :
    Calls Try.prog 3 #[.slice A len cap] W fun e W' => e = .returned (.bool true) ∧ Below W.heap.size W W' := by
  obtain ⟨hlen, hlc, hnil, hmax, hlv, hcells⟩ := w5
  obtain ⟨bs, hbl, hfl, hbb⟩ := u64_rows hlv
  obtain rfl : bs.length = len := by omega
  rw [hfl] at hcells
  refine calls_slice1 (pre := []) (post := []) rfl rfl (cs := bs.map (fun n => .int .u64 (n : Nat))) ?_ hnil hcells t5 ?_ ?_ ?_
  · intro v hv
    obtain ⟨b, _, rfl⟩ := List.mem_map.1 hv
    rfl
  · intro h0
    have : bs = [] := List.eq_nil_of_length_eq_zero (by omega)
    subst this
    exact ⟨rfl, rfl⟩
  · exact (quantiles_c (h := noHeap) (A := none) (l := []) (cap := 0) (fun h => absurd rfl h) (by simp)).icall
  · exact (quantiles_c (h := ro1 (bs.map (fun n => .int .u64 (n : Nat)))) (A := some ⟨0, 0, none⟩) (l := bs) (cap := cap) (fun _ => ⟨0, 0, true, 0, _, rfl, ro1_get0 _, fun j c hc => by simpa using hc⟩) hbb).icall
end Go.Proofs.Ytnmbpehficchkaa.Ideal
