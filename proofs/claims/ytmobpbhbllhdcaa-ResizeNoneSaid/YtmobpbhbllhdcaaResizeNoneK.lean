/- ResizeNone: the law's call on the ideal heap, run in the kernel. -/
import Derived.Test.YtmobpbhbllhdcaaOpen
import Derived.Test.YtmobpbhbllhdcaaI21
namespace Go.Proofs.Ytmobpbhbllhdcaa.ResizeNoneK
open Go.RowKit Go.Proofs.Ytmobpbhbllhdcaa.Ideal
set_option linter.unusedVariables false

noncomputable def fns : List Nat := [5, 6, 7, 8, 9, 10, 11, 12, 13, 19, 22, 23, 24, 25, 26, 27, 28, 29, 30, 31, 32, 33, 34, 35, 36, 37, 38, 48, 54, 55, 56, 57, 58, 63, 64, 65]
theorem ok5 : fnB Try.prog 5 = true := by kernel_rfl
theorem ok6 : fnB Try.prog 6 = true := by kernel_rfl
theorem ok7 : fnB Try.prog 7 = true := by kernel_rfl
theorem ok8 : fnB Try.prog 8 = true := by kernel_rfl
theorem ok9 : fnB Try.prog 9 = true := by kernel_rfl
theorem ok10 : fnB Try.prog 10 = true := by kernel_rfl
theorem ok11 : fnB Try.prog 11 = true := by kernel_rfl
theorem ok12 : fnB Try.prog 12 = true := by kernel_rfl
theorem ok13 : fnB Try.prog 13 = true := by kernel_rfl
theorem ok19 : fnB Try.prog 19 = true := by kernel_rfl
theorem ok22 : fnB Try.prog 22 = true := by kernel_rfl
theorem ok23 : fnB Try.prog 23 = true := by kernel_rfl
theorem ok24 : fnB Try.prog 24 = true := by kernel_rfl
theorem ok25 : fnB Try.prog 25 = true := by kernel_rfl
theorem ok26 : fnB Try.prog 26 = true := by kernel_rfl
theorem ok27 : fnB Try.prog 27 = true := by kernel_rfl
theorem ok28 : fnB Try.prog 28 = true := by kernel_rfl
theorem ok29 : fnB Try.prog 29 = true := by kernel_rfl
theorem ok30 : fnB Try.prog 30 = true := by kernel_rfl
theorem ok31 : fnB Try.prog 31 = true := by kernel_rfl
theorem ok32 : fnB Try.prog 32 = true := by kernel_rfl
theorem ok33 : fnB Try.prog 33 = true := by kernel_rfl
theorem ok34 : fnB Try.prog 34 = true := by kernel_rfl
theorem ok35 : fnB Try.prog 35 = true := by kernel_rfl
theorem ok36 : fnB Try.prog 36 = true := by kernel_rfl
theorem ok37 : fnB Try.prog 37 = true := by kernel_rfl
theorem ok38 : fnB Try.prog 38 = true := by kernel_rfl
theorem ok48 : fnB Try.prog 48 = true := by kernel_rfl
theorem ok54 : fnB Try.prog 54 = true := by kernel_rfl
theorem ok55 : fnB Try.prog 55 = true := by kernel_rfl
theorem ok56 : fnB Try.prog 56 = true := by kernel_rfl
theorem ok57 : fnB Try.prog 57 = true := by kernel_rfl
theorem ok58 : fnB Try.prog 58 = true := by kernel_rfl
theorem ok63 : fnB Try.prog 63 = true := by kernel_rfl
theorem ok64 : fnB Try.prog 64 = true := by kernel_rfl
theorem ok65 : fnB Try.prog 65 = true := by kernel_rfl
theorem oks : ∀ g ∈ fns, fnB Try.prog g = true := by
  intro g hg
  simp only [fns, List.mem_cons, List.not_mem_nil, or_false] at hg
  rcases hg with rfl | rfl | rfl | rfl | rfl | rfl | rfl | rfl | rfl | rfl | rfl | rfl | rfl | rfl | rfl | rfl | rfl | rfl | rfl | rfl | rfl | rfl | rfl | rfl | rfl | rfl | rfl | rfl | rfl | rfl | rfl | rfl | rfl | rfl | rfl | rfl
  · exact ok5
  · exact ok6
  · exact ok7
  · exact ok8
  · exact ok9
  · exact ok10
  · exact ok11
  · exact ok12
  · exact ok13
  · exact ok19
  · exact ok22
  · exact ok23
  · exact ok24
  · exact ok25
  · exact ok26
  · exact ok27
  · exact ok28
  · exact ok29
  · exact ok30
  · exact ok31
  · exact ok32
  · exact ok33
  · exact ok34
  · exact ok35
  · exact ok36
  · exact ok37
  · exact ok38
  · exact ok48
  · exact ok54
  · exact ok55
  · exact ok56
  · exact ok57
  · exact ok58
  · exact ok63
  · exact ok64
  · exact ok65
theorem walk (c0 : List Value) (W : World) (l0 : Leaves W [.int .u64, .int .u32] c0) : Calls Try.prog 5 #[.agg c0.toArray] W fun e W' => e = .returned (.bool true) ∧ Below W.heap.size W W' := by
  obtain ⟨_, tx0_0, rfl, ⟨x0_0, rfl, _⟩, l0_0⟩ := l0.cons_inv
  obtain ⟨_, tx0_1, rfl, ⟨x0_1, rfl, _⟩, l0_1⟩ := l0_0.cons_inv
  obtain rfl := List.eq_nil_of_length_eq_zero l0_1.1
  exact calls_run oks (by kernel_rfl) (m := 100000) (n := 200) (by kernel_rfl) (by kernel_rfl) W
end Go.Proofs.Ytmobpbhbllhdcaa.ResizeNoneK
