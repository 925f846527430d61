import Derived.Test.YtfgaggpfdckggaaP18e
import Derived.Test.YtfgaggpfdckggaaSlice1
import Derived.Test.YtfgaggpfdckggaaOpen
noncomputable section
open Go.Proofs
namespace Go.Proofs.Ytfgaggpfdckggaa.Ideal
open Go.RowKit
set_option linter.unusedSimpArgs false
set_option linter.unusedVariables false
theorem walkTells (a0 : ByteArray) (a1 : Int) (c2 : List Value) (a3 a4 : Int) (W : World) (w0 : a0.size ≤ 140737488351232) (w1 : (Lit.int .i64 a1).wf = true) (l2 : Leaves W [.int .i64, .int .i64, .int .i64] c2) (w3 : (Lit.int .i64 a3).wf = true) (w4 : (Lit.int .i64 a4).wf = true) :
    Calls Try.prog 3 #[.string a0, .int .i64 a1, .agg c2.toArray, .int .i64 a3, .int .i64 a4] W fun e W' => e = .returned (.bool true) ∧ Below W.heap.size W W' := by
  obtain ⟨_, t0, rfl, ⟨x0, rfl, _⟩, m0⟩ := l2.cons_inv
  obtain ⟨_, t1, rfl, ⟨x1, rfl, _⟩, m1⟩ := m0.cons_inv
  obtain ⟨_, t2, rfl, ⟨x2, rfl, _⟩, m2⟩ := m1.cons_inv
  obtain rfl : t2 = [] := List.eq_nil_of_length_eq_zero m2.1
  exact calls_plainL [.string a0, .int .i64 a1, pmV x0 x1 x2, .int .i64 a3, .int .i64 a4] (by simp [pmV, plainV, scal]) (tells_c a0 a1 x0 x1 x2 a3 a4)
end Go.Proofs.Ytfgaggpfdckggaa.Ideal
