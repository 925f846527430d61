import Derived.Test.YtnmbpehficchkaaP44p
noncomputable section
open Go.Proofs
namespace Go.Proofs.Ytnmbpehficchkaa.Ideal
open Go.RowKit
set_option linter.unusedSimpArgs false
set_option linter.unusedVariables false
set_option maxRecDepth 100000
set_option maxHeartbeats 4000000
def kfns : List Nat := [8, 9, 10, 11, 12, 13, 14, 15, 16, 18, 20, 24, 25, 26, 27, 28, 30, 31, 32, 33, 34, 35, 36, 37, 44, 46, 47, 48, 49, 50, 51, 52, 53, 54, 55, 56, 57, 61, 62, 63, 64, 65, 66, 67, 68, 69, 70, 71, 73, 74, 75, 76, 77, 78, 79]
theorem kfns_ok : ∀ g ∈ kfns, fnB Try.prog g = true := by
  have : kfns.all (fnB Try.prog) = true := by kernel_rfl
  rwa [List.all_eq_true] at this
theorem known_c {h : IHeap} : ICall Try.prog 8 #[] h (.bool true) h := by
  refine ICall.of_below rfl fun ρ w args' ha hm => ?_
  obtain rfl : args' = #[] := Array.eq_empty_of_size_eq_zero ha.1.symm
  exact calls_run kfns_ok mixed (m := 100000) (n := 200) (by kernel_rfl) (by kernel_rfl) w
theorem fb_known : fnB Try.prog 8 = true := by kernel_rfl
theorem ze_hist : zeroOf Try.prog 28 = some hg0.row.toArray := by kernel_rfl
end Go.Proofs.Ytnmbpehficchkaa.Ideal
