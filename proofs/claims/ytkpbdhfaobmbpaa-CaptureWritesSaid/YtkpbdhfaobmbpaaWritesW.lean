import Derived.Test.YtkpbdhfaobmbpaaShotsV
noncomputable section
open Go.Proofs
namespace Go.Proofs.Ytkpbdhfaobmbpaa.Ideal
open Go.RowKit
set_option linter.unusedSimpArgs false
set_option linter.unusedVariables false
theorem wf_u64 {k : Int} (h : (Lit.int .u64 k).wf = true) : 0 ≤ k ∧ k < 18446744073709551616 := by
  simp [Lit.wf, IntKind.min, IntKind.max, IntKind.signed, IntKind.bits] at h
  omega
theorem walkWrites (a0 : Int) (b : Bool) (A : Option Addr) (len cap : Nat) (rows : List (List Value)) (B : Option Addr) (len2 cap2 : Nat) (rows2 : List (List Value)) (a4 a5 : Int) (W : World) (w0 : (Lit.int .u32 a0).wf = true)
    (w5 : rows.length = len ∧ len ≤ cap ∧ (A = none → len = 0 ∧ cap = 0) ∧ cap ≤ maxLen ∧ (∀ r ∈ rows, Leaves W [.int .u32, .int .u32, .int .u32, .bytes] r) ∧ Cells W A rows.flatten) (t5 : ∀ x, A = some x → cap ≠ 0 → ∃ v, W.cell? x = some v)
    (w6 : rows2.length = len2 ∧ len2 ≤ cap2 ∧ (B = none → len2 = 0 ∧ cap2 = 0) ∧ cap2 ≤ maxLen ∧ (∀ r ∈ rows2, Leaves W [.int .u32, .int .u32, .int .u32, .bytes] r) ∧ Cells W B rows2.flatten) (t6 : ∀ x, B = some x → cap2 ≠ 0 → ∃ v, W.cell? x = some v) (w2 : (Lit.int .u64 a4).wf = true) (w3 : (Lit.int .u64 a5).wf = true) :
    Calls Try.prog 5 #[.int .u32 a0, .bool b, .slice A len cap, .slice B len2 cap2, .int .u64 a4, .int .u64 a5] W fun e W' => e = .returned (.bool true) ∧ Below W.heap.size W W' := by
  have w2 := wf_u64 w2
  have w3 := wf_u64 w3
  have w0 := wf_u32 w0
  refine calls_shots2 (pre := [.int .u32 a0, .bool b]) (post := [.int .u64 a4, .int .u64 a5]) rfl rfl w5 t5 w6 t6 fun h va vb S T x y hS hT hh => ?_
  have e0 : ((a4.toNat : Nat) : Int) = a4 := by omega
  have e1 : ((a5.toNat : Nat) : Int) = a5 := by omega
  have e2 : ((a0.toNat : Nat) : Int) = a0 := by omega
  obtain ⟨v, h', cc, hv⟩ := writes_c (lo := a4.toNat) (hi := a5.toNat) (most := a0.toNat) (high := b) x y hS hT (fun s hs => (hh s hs).1) (by omega) (by omega) (by omega)
  rw [e0, e1, e2] at cc
  obtain rfl : v = .bool true := hv
  exact ⟨h', cc⟩
end Go.Proofs.Ytkpbdhfaobmbpaa.Ideal
