/- ArenaNone: the law's call on the ideal heap, run in the kernel. -/
import Derived.Test.YtkecaobcchnilaaOpen
import Derived.Test.YtkecaobcchnilaaI21
namespace Go.Proofs.Ytkecaobcchnilaa.ArenaNoneK
open Go.RowKit Go.Proofs.Ytkecaobcchnilaa.Ideal
set_option linter.unusedVariables false

noncomputable def fns : List Nat := [5, 6, 7, 8, 9, 10, 11, 15, 16, 19, 20, 21, 22, 25, 27]
theorem ok5 : fnB Try.prog 5 = true := by kernel_rfl
theorem ok6 : fnB Try.prog 6 = true := by kernel_rfl
theorem ok7 : fnB Try.prog 7 = true := by kernel_rfl
theorem ok8 : fnB Try.prog 8 = true := by kernel_rfl
theorem ok9 : fnB Try.prog 9 = true := by kernel_rfl
theorem ok10 : fnB Try.prog 10 = true := by kernel_rfl
theorem ok11 : fnB Try.prog 11 = true := by kernel_rfl
theorem ok15 : fnB Try.prog 15 = true := by kernel_rfl
theorem ok16 : fnB Try.prog 16 = true := by kernel_rfl
theorem ok19 : fnB Try.prog 19 = true := by kernel_rfl
theorem ok20 : fnB Try.prog 20 = true := by kernel_rfl
theorem ok21 : fnB Try.prog 21 = true := by kernel_rfl
theorem ok22 : fnB Try.prog 22 = true := by kernel_rfl
theorem ok25 : fnB Try.prog 25 = true := by kernel_rfl
theorem ok27 : fnB Try.prog 27 = true := by kernel_rfl
theorem oks : ∀ g ∈ fns, fnB Try.prog g = true := by
  intro g hg
  simp only [fns, List.mem_cons, List.not_mem_nil, or_false] at hg
  rcases hg with rfl | rfl | rfl | rfl | rfl | rfl | rfl | rfl | rfl | rfl | rfl | rfl | rfl | rfl | rfl
  · exact ok5
  · exact ok6
  · exact ok7
  · exact ok8
  · exact ok9
  · exact ok10
  · exact ok11
  · exact ok15
  · exact ok16
  · exact ok19
  · exact ok20
  · exact ok21
  · exact ok22
  · exact ok25
  · exact ok27
theorem walk (c0 : List Value) (a1 : Int) (W : World) (l0 : Leaves W [.int .i64, .int .u64] c0) (w1 : (Lit.int .i64 a1).wf = true) : Calls Try.prog 5 #[.agg c0.toArray, .int .i64 a1] W fun e W' => e = .returned (.bool true) ∧ Below W.heap.size W W' := by
  obtain ⟨_, tx0_0, rfl, ⟨x0_0, rfl, _⟩, l0_0⟩ := l0.cons_inv
  obtain ⟨_, tx0_1, rfl, ⟨x0_1, rfl, _⟩, l0_1⟩ := l0_0.cons_inv
  obtain rfl := List.eq_nil_of_length_eq_zero l0_1.1
  exact calls_run oks (by kernel_rfl) (m := 100000) (n := 200) (by kernel_rfl) (by kernel_rfl) W
end Go.Proofs.Ytkecaobcchnilaa.ArenaNoneK
