import Derived.Test.YtfgaggpfdckggaaP18f
import Derived.Test.YtfgaggpfdckggaaSlice1
import Derived.Test.YtfgaggpfdckggaaOpen
noncomputable section
open Go.Proofs
namespace Go.Proofs.Ytfgaggpfdckggaa.Ideal
open Go.RowKit
set_option linter.unusedSimpArgs false
set_option linter.unusedVariables false
theorem walkOnce (a0 : ByteArray) (a1 a2 : Int) (W : World) (w0 : a0.size ≤ 140737488351232) (w1 : (Lit.int .i64 a1).wf = true) (w2 : (Lit.int .i64 a2).wf = true) :
    Calls Try.prog 4 #[.string a0, .int .i64 a1, .int .i64 a2] W fun e W' => e = .returned (.bool true) ∧ Below W.heap.size W W' :=
  calls_plainL [.string a0, .int .i64 a1, .int .i64 a2] rfl (once_c a0 a1 a2)
end Go.Proofs.Ytfgaggpfdckggaa.Ideal
