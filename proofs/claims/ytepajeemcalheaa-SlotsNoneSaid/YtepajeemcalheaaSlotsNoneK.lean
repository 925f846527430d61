/- SlotsNone: the law's call on the ideal heap, run in the kernel. -/
import Derived.Test.YtepajeemcalheaaOpen
import Derived.Test.YtepajeemcalheaaI21
namespace Go.Proofs.Ytepajeemcalheaa.SlotsNoneK
open Go.RowKit Go.Proofs.Ytepajeemcalheaa.Ideal
set_option linter.unusedVariables false

noncomputable def fns : List Nat := [5, 6, 7, 8, 9, 10, 11, 12, 18, 21, 22, 23, 24, 25, 26, 27, 31, 32, 33, 34, 35]
theorem ok5 : fnB Try.prog 5 = true := by kernel_rfl
theorem ok6 : fnB Try.prog 6 = true := by kernel_rfl
theorem ok7 : fnB Try.prog 7 = true := by kernel_rfl
theorem ok8 : fnB Try.prog 8 = true := by kernel_rfl
theorem ok9 : fnB Try.prog 9 = true := by kernel_rfl
theorem ok10 : fnB Try.prog 10 = true := by kernel_rfl
theorem ok11 : fnB Try.prog 11 = true := by kernel_rfl
theorem ok12 : fnB Try.prog 12 = true := by kernel_rfl
theorem ok18 : fnB Try.prog 18 = true := by kernel_rfl
theorem ok21 : fnB Try.prog 21 = true := by kernel_rfl
theorem ok22 : fnB Try.prog 22 = true := by kernel_rfl
theorem ok23 : fnB Try.prog 23 = true := by kernel_rfl
theorem ok24 : fnB Try.prog 24 = true := by kernel_rfl
theorem ok25 : fnB Try.prog 25 = true := by kernel_rfl
theorem ok26 : fnB Try.prog 26 = true := by kernel_rfl
theorem ok27 : fnB Try.prog 27 = true := by kernel_rfl
theorem ok31 : fnB Try.prog 31 = true := by kernel_rfl
theorem ok32 : fnB Try.prog 32 = true := by kernel_rfl
theorem ok33 : fnB Try.prog 33 = true := by kernel_rfl
theorem ok34 : fnB Try.prog 34 = true := by kernel_rfl
theorem ok35 : fnB Try.prog 35 = true := by kernel_rfl
theorem oks : ∀ g ∈ fns, fnB Try.prog g = true := by
  intro g hg
  simp only [fns, List.mem_cons, List.not_mem_nil, or_false] at hg
  rcases hg with rfl | rfl | rfl | rfl | rfl | rfl | rfl | rfl | rfl | rfl | rfl | rfl | rfl | rfl | rfl | rfl | rfl | rfl | rfl | rfl | rfl
  · exact ok5
  · exact ok6
  · exact ok7
  · exact ok8
  · exact ok9
  · exact ok10
  · exact ok11
  · exact ok12
  · exact ok18
  · exact ok21
  · exact ok22
  · exact ok23
  · exact ok24
  · exact ok25
  · exact ok26
  · exact ok27
  · exact ok31
  · exact ok32
  · exact ok33
  · exact ok34
  · exact ok35
theorem walk (a0 : Int) (a1 : Int) (W : World) (w0 : (Lit.int .i64 a0).wf = true) (w1 : (Lit.int .i64 a1).wf = true) : Calls Try.prog 5 #[.int .i64 a0, .int .i64 a1] W fun e W' => e = .returned (.bool true) ∧ Below W.heap.size W W' := by
  rcases a0 with a0 | a0 <;> rcases a1 with a1 | a1 <;>
  exact calls_run oks (by kernel_rfl) (m := 100000) (n := 200) (by kernel_rfl) (by kernel_rfl) W
end Go.Proofs.Ytepajeemcalheaa.SlotsNoneK
