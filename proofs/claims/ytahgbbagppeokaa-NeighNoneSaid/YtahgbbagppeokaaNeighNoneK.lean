/- NeighNone: the law's call on the ideal heap, run in the kernel. -/
import Derived.Test.YtahgbbagppeokaaOpen
import Derived.Test.YtahgbbagppeokaaI21
namespace Go.Proofs.Ytahgbbagppeokaa.NeighNoneK
open Go.RowKit Go.Proofs.Ytahgbbagppeokaa.Ideal
set_option linter.unusedVariables false

noncomputable def fns : List Nat := [4, 5, 6, 7, 8, 9, 10, 11, 12, 13, 14, 15, 16, 17, 18, 19, 20, 22, 23, 24, 25, 26, 27, 28, 30, 31, 32, 33, 34, 35, 36, 37, 38, 39, 40, 41, 42, 43, 44, 45, 46, 47, 48]
theorem ok4 : fnB Try.prog 4 = true := by kernel_rfl
theorem ok5 : fnB Try.prog 5 = true := by kernel_rfl
theorem ok6 : fnB Try.prog 6 = true := by kernel_rfl
theorem ok7 : fnB Try.prog 7 = true := by kernel_rfl
theorem ok8 : fnB Try.prog 8 = true := by kernel_rfl
theorem ok9 : fnB Try.prog 9 = true := by kernel_rfl
theorem ok10 : fnB Try.prog 10 = true := by kernel_rfl
theorem ok11 : fnB Try.prog 11 = true := by kernel_rfl
theorem ok12 : fnB Try.prog 12 = true := by kernel_rfl
theorem ok13 : fnB Try.prog 13 = true := by kernel_rfl
theorem ok14 : fnB Try.prog 14 = true := by kernel_rfl
theorem ok15 : fnB Try.prog 15 = true := by kernel_rfl
theorem ok16 : fnB Try.prog 16 = true := by kernel_rfl
theorem ok17 : fnB Try.prog 17 = true := by kernel_rfl
theorem ok18 : fnB Try.prog 18 = true := by kernel_rfl
theorem ok19 : fnB Try.prog 19 = true := by kernel_rfl
theorem ok20 : fnB Try.prog 20 = true := by kernel_rfl
theorem ok22 : fnB Try.prog 22 = true := by kernel_rfl
theorem ok23 : fnB Try.prog 23 = true := by kernel_rfl
theorem ok24 : fnB Try.prog 24 = true := by kernel_rfl
theorem ok25 : fnB Try.prog 25 = true := by kernel_rfl
theorem ok26 : fnB Try.prog 26 = true := by kernel_rfl
theorem ok27 : fnB Try.prog 27 = true := by kernel_rfl
theorem ok28 : fnB Try.prog 28 = true := by kernel_rfl
theorem ok30 : fnB Try.prog 30 = true := by kernel_rfl
theorem ok31 : fnB Try.prog 31 = true := by kernel_rfl
theorem ok32 : fnB Try.prog 32 = true := by kernel_rfl
theorem ok33 : fnB Try.prog 33 = true := by kernel_rfl
theorem ok34 : fnB Try.prog 34 = true := by kernel_rfl
theorem ok35 : fnB Try.prog 35 = true := by kernel_rfl
theorem ok36 : fnB Try.prog 36 = true := by kernel_rfl
theorem ok37 : fnB Try.prog 37 = true := by kernel_rfl
theorem ok38 : fnB Try.prog 38 = true := by kernel_rfl
theorem ok39 : fnB Try.prog 39 = true := by kernel_rfl
theorem ok40 : fnB Try.prog 40 = true := by kernel_rfl
theorem ok41 : fnB Try.prog 41 = true := by kernel_rfl
theorem ok42 : fnB Try.prog 42 = true := by kernel_rfl
theorem ok43 : fnB Try.prog 43 = true := by kernel_rfl
theorem ok44 : fnB Try.prog 44 = true := by kernel_rfl
theorem ok45 : fnB Try.prog 45 = true := by kernel_rfl
theorem ok46 : fnB Try.prog 46 = true := by kernel_rfl
theorem ok47 : fnB Try.prog 47 = true := by kernel_rfl
theorem ok48 : fnB Try.prog 48 = true := by kernel_rfl
theorem oks : ∀ g ∈ fns, fnB Try.prog g = true := by
  intro g hg
  simp only [fns, List.mem_cons, List.not_mem_nil, or_false] at hg
  rcases hg with rfl | rfl | rfl | rfl | rfl | rfl | rfl | rfl | rfl | rfl | rfl | rfl | rfl | rfl | rfl | rfl | rfl | rfl | rfl | rfl | rfl | rfl | rfl | rfl | rfl | rfl | rfl | rfl | rfl | rfl | rfl | rfl | rfl | rfl | rfl | rfl | rfl | rfl | rfl | rfl | rfl | rfl | rfl
  · exact ok4
  · exact ok5
  · exact ok6
  · exact ok7
  · exact ok8
  · exact ok9
  · exact ok10
  · exact ok11
  · exact ok12
  · exact ok13
  · exact ok14
  · exact ok15
  · exact ok16
  · exact ok17
  · exact ok18
  · exact ok19
  · exact ok20
  · exact ok22
  · exact ok23
  · exact ok24
  · exact ok25
  · exact ok26
  · exact ok27
  · exact ok28
  · exact ok30
  · exact ok31
  · exact ok32
  · exact ok33
  · exact ok34
  · exact ok35
  · exact ok36
  · exact ok37
  · exact ok38
  · exact ok39
  · exact ok40
  · exact ok41
  · exact ok42
  · exact ok43
  · exact ok44
  · exact ok45
  · exact ok46
  · exact ok47
  · exact ok48
theorem walk (c0 : List Value) (c1 : List Value) (W : World) (l0 : Leaves W [.bool, .int .u8, .int .u8, .int .u8, .int .u8, .int .u8, .int .u8, .int .u8, .int .u8, .int .u8, .int .u8, .int .u8, .int .u8, .int .u8, .int .u8, .int .u8, .int .u8] c0) (l1 : Leaves W [.int .u8, .int .u8, .int .u8, .int .u8, .int .u8, .int .u8] c1) : Calls Try.prog 4 #[.agg c0.toArray, .agg c1.toArray] W fun e W' => e = .returned (.bool true) ∧ Below W.heap.size W W' := by
  obtain ⟨_, tx0_0, rfl, ⟨x0_0, rfl⟩, l0_0⟩ := l0.cons_inv
  obtain ⟨_, tx0_1, rfl, ⟨x0_1, rfl, _⟩, l0_1⟩ := l0_0.cons_inv
  obtain ⟨_, tx0_2, rfl, ⟨x0_2, rfl, _⟩, l0_2⟩ := l0_1.cons_inv
  obtain ⟨_, tx0_3, rfl, ⟨x0_3, rfl, _⟩, l0_3⟩ := l0_2.cons_inv
  obtain ⟨_, tx0_4, rfl, ⟨x0_4, rfl, _⟩, l0_4⟩ := l0_3.cons_inv
  obtain ⟨_, tx0_5, rfl, ⟨x0_5, rfl, _⟩, l0_5⟩ := l0_4.cons_inv
  obtain ⟨_, tx0_6, rfl, ⟨x0_6, rfl, _⟩, l0_6⟩ := l0_5.cons_inv
  obtain ⟨_, tx0_7, rfl, ⟨x0_7, rfl, _⟩, l0_7⟩ := l0_6.cons_inv
  obtain ⟨_, tx0_8, rfl, ⟨x0_8, rfl, _⟩, l0_8⟩ := l0_7.cons_inv
  obtain ⟨_, tx0_9, rfl, ⟨x0_9, rfl, _⟩, l0_9⟩ := l0_8.cons_inv
  obtain ⟨_, tx0_10, rfl, ⟨x0_10, rfl, _⟩, l0_10⟩ := l0_9.cons_inv
  obtain ⟨_, tx0_11, rfl, ⟨x0_11, rfl, _⟩, l0_11⟩ := l0_10.cons_inv
  obtain ⟨_, tx0_12, rfl, ⟨x0_12, rfl, _⟩, l0_12⟩ := l0_11.cons_inv
  obtain ⟨_, tx0_13, rfl, ⟨x0_13, rfl, _⟩, l0_13⟩ := l0_12.cons_inv
  obtain ⟨_, tx0_14, rfl, ⟨x0_14, rfl, _⟩, l0_14⟩ := l0_13.cons_inv
  obtain ⟨_, tx0_15, rfl, ⟨x0_15, rfl, _⟩, l0_15⟩ := l0_14.cons_inv
  obtain ⟨_, tx0_16, rfl, ⟨x0_16, rfl, _⟩, l0_16⟩ := l0_15.cons_inv
  obtain rfl := List.eq_nil_of_length_eq_zero l0_16.1
  obtain ⟨_, tx1_0, rfl, ⟨x1_0, rfl, _⟩, l1_0⟩ := l1.cons_inv
  obtain ⟨_, tx1_1, rfl, ⟨x1_1, rfl, _⟩, l1_1⟩ := l1_0.cons_inv
  obtain ⟨_, tx1_2, rfl, ⟨x1_2, rfl, _⟩, l1_2⟩ := l1_1.cons_inv
  obtain ⟨_, tx1_3, rfl, ⟨x1_3, rfl, _⟩, l1_3⟩ := l1_2.cons_inv
  obtain ⟨_, tx1_4, rfl, ⟨x1_4, rfl, _⟩, l1_4⟩ := l1_3.cons_inv
  obtain ⟨_, tx1_5, rfl, ⟨x1_5, rfl, _⟩, l1_5⟩ := l1_4.cons_inv
  obtain rfl := List.eq_nil_of_length_eq_zero l1_5.1
  exact calls_run oks (by kernel_rfl) (m := 100000) (n := 200) (by kernel_rfl) (by kernel_rfl) W
end Go.Proofs.Ytahgbbagppeokaa.NeighNoneK
