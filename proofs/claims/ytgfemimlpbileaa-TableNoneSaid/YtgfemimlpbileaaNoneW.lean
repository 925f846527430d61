import Derived.Test.YtgfemimlpbileaaP13n
import Derived.Test.YtgfemimlpbileaaSlice1
import Derived.Test.YtgfemimlpbileaaOpen
noncomputable section
open Go.Proofs
namespace Go.Proofs.Ytgfemimlpbileaa.Ideal
open Go.RowKit
set_option linter.unusedSimpArgs false
set_option linter.unusedVariables false
theorem wf_u64 {k : Int} (h : (Lit.int .u64 k).wf = true) : 0 ≤ k ∧ k < 18446744073709551616 := by
  simp [Lit.wf, IntKind.min, IntKind.max, IntKind.signed, IntKind.bits] at h
  omega
theorem walkNone (c0 : List Value) (a1 : Int) (W : World) (l0 : Leaves W [.int .u64, .int .u32] c0) (w1 : (Lit.int .i64 a1).wf = true) :
    Calls Try.prog 5 #[.agg c0.toArray, .int .i64 a1] W fun e W' => e = .returned (.bool true) ∧ Below W.heap.size W W' := by
  obtain ⟨_, t0, rfl, ⟨x0, rfl, hw⟩, m0⟩ := l0.cons_inv
  obtain ⟨_, t1, rfl, ⟨x1, rfl, _⟩, m1⟩ := m0.cons_inv
  obtain rfl : t1 = [] := List.eq_nil_of_length_eq_zero m1.1
  exact calls_plainL [.agg #[.int .u64 x0, .int .u32 x1], .int .i64 a1] (by simp [plainV, scal]) (none_law x0 x1 (wf_u64 hw) a1)
end Go.Proofs.Ytgfemimlpbileaa.Ideal
