/- PairNone: the law's call on the ideal heap, run in the kernel. -/
import Derived.Test.YthaegngkkannjaaOpen
import Derived.Test.YthaegngkkannjaaI21
namespace Go.Proofs.Ythaegngkkannjaa.PairNoneK
open Go.RowKit Go.Proofs.Ythaegngkkannjaa.Ideal
set_option linter.unusedVariables false

noncomputable def fns : List Nat := [5, 6, 10, 12, 13, 14, 15, 16, 17, 18, 19, 20, 21, 22, 23, 24, 25, 26, 27, 28, 29, 30]
theorem ok5 : fnB Try.prog 5 = true := by kernel_rfl
theorem ok6 : fnB Try.prog 6 = true := by kernel_rfl
theorem ok10 : fnB Try.prog 10 = true := by kernel_rfl
theorem ok12 : fnB Try.prog 12 = true := by kernel_rfl
theorem ok13 : fnB Try.prog 13 = true := by kernel_rfl
theorem ok14 : fnB Try.prog 14 = true := by kernel_rfl
theorem ok15 : fnB Try.prog 15 = true := by kernel_rfl
theorem ok16 : fnB Try.prog 16 = true := by kernel_rfl
theorem ok17 : fnB Try.prog 17 = true := by kernel_rfl
theorem ok18 : fnB Try.prog 18 = true := by kernel_rfl
theorem ok19 : fnB Try.prog 19 = true := by kernel_rfl
theorem ok20 : fnB Try.prog 20 = true := by kernel_rfl
theorem ok21 : fnB Try.prog 21 = true := by kernel_rfl
theorem ok22 : fnB Try.prog 22 = true := by kernel_rfl
theorem ok23 : fnB Try.prog 23 = true := by kernel_rfl
theorem ok24 : fnB Try.prog 24 = true := by kernel_rfl
theorem ok25 : fnB Try.prog 25 = true := by kernel_rfl
theorem ok26 : fnB Try.prog 26 = true := by kernel_rfl
theorem ok27 : fnB Try.prog 27 = true := by kernel_rfl
theorem ok28 : fnB Try.prog 28 = true := by kernel_rfl
theorem ok29 : fnB Try.prog 29 = true := by kernel_rfl
theorem ok30 : fnB Try.prog 30 = true := by kernel_rfl
theorem oks : ∀ g ∈ fns, fnB Try.prog g = true := by
  intro g hg
  simp only [fns, List.mem_cons, List.not_mem_nil, or_false] at hg
  rcases hg with rfl | rfl | rfl | rfl | rfl | rfl | rfl | rfl | rfl | rfl | rfl | rfl | rfl | rfl | rfl | rfl | rfl | rfl | rfl | rfl | rfl | rfl
  · exact ok5
  · exact ok6
  · exact ok10
  · exact ok12
  · exact ok13
  · exact ok14
  · exact ok15
  · exact ok16
  · exact ok17
  · exact ok18
  · exact ok19
  · exact ok20
  · exact ok21
  · exact ok22
  · exact ok23
  · exact ok24
  · exact ok25
  · exact ok26
  · exact ok27
  · exact ok28
  · exact ok29
  · exact ok30
theorem walk (c0 : List Value) (W : World) (l0 : Leaves W [.int .i64, .int .i64, .int .u64] c0) : Calls Try.prog 5 #[.agg c0.toArray] W fun e W' => e = .returned (.bool true) ∧ Below W.heap.size W W' := by
  obtain ⟨_, tx0_0, rfl, ⟨x0_0, rfl, _⟩, l0_0⟩ := l0.cons_inv
  obtain ⟨_, tx0_1, rfl, ⟨x0_1, rfl, _⟩, l0_1⟩ := l0_0.cons_inv
  obtain ⟨_, tx0_2, rfl, ⟨x0_2, rfl, _⟩, l0_2⟩ := l0_1.cons_inv
  obtain rfl := List.eq_nil_of_length_eq_zero l0_2.1
  exact calls_run oks (by kernel_rfl) (m := 100000) (n := 200) (by kernel_rfl) (by kernel_rfl) W
end Go.Proofs.Ythaegngkkannjaa.PairNoneK
