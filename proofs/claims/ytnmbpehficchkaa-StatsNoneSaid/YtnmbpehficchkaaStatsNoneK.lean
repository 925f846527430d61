/- StatsNone: the law's call on the ideal heap, run in the kernel. -/
import Derived.Test.YtnmbpehficchkaaOpen
import Derived.Test.YtnmbpehficchkaaI21
namespace Go.Proofs.Ytnmbpehficchkaa.StatsNoneK
open Go.RowKit Go.Proofs.Ytnmbpehficchkaa.Ideal
set_option linter.unusedVariables false

noncomputable def fns : List Nat := [7, 8, 9, 10, 11, 12, 13, 14, 15, 16, 18, 20, 24, 25, 26, 27, 28, 30, 31, 32, 33, 34, 35, 36, 37, 44, 46, 47, 48, 49, 50, 51, 52, 53, 54, 55, 56, 57, 61, 62, 63, 64, 65, 66, 67, 68, 69, 70, 71, 73, 74, 75, 76, 77, 78, 79]
theorem ok7 : fnB Try.prog 7 = true := by kernel_rfl
theorem ok8 : fnB Try.prog 8 = true := by kernel_rfl
theorem ok9 : fnB Try.prog 9 = true := by kernel_rfl
theorem ok10 : fnB Try.prog 10 = true := by kernel_rfl
theorem ok11 : fnB Try.prog 11 = true := by kernel_rfl
theorem ok12 : fnB Try.prog 12 = true := by kernel_rfl
theorem ok13 : fnB Try.prog 13 = true := by kernel_rfl
theorem ok14 : fnB Try.prog 14 = true := by kernel_rfl
theorem ok15 : fnB Try.prog 15 = true := by kernel_rfl
theorem ok16 : fnB Try.prog 16 = true := by kernel_rfl
theorem ok18 : fnB Try.prog 18 = true := by kernel_rfl
theorem ok20 : fnB Try.prog 20 = true := by kernel_rfl
theorem ok24 : fnB Try.prog 24 = true := by kernel_rfl
theorem ok25 : fnB Try.prog 25 = true := by kernel_rfl
theorem ok26 : fnB Try.prog 26 = true := by kernel_rfl
theorem ok27 : fnB Try.prog 27 = true := by kernel_rfl
theorem ok28 : fnB Try.prog 28 = true := by kernel_rfl
theorem ok30 : fnB Try.prog 30 = true := by kernel_rfl
theorem ok31 : fnB Try.prog 31 = true := by kernel_rfl
theorem ok32 : fnB Try.prog 32 = true := by kernel_rfl
theorem ok33 : fnB Try.prog 33 = true := by kernel_rfl
theorem ok34 : fnB Try.prog 34 = true := by kernel_rfl
theorem ok35 : fnB Try.prog 35 = true := by kernel_rfl
theorem ok36 : fnB Try.prog 36 = true := by kernel_rfl
theorem ok37 : fnB Try.prog 37 = true := by kernel_rfl
theorem ok44 : fnB Try.prog 44 = true := by kernel_rfl
theorem ok46 : fnB Try.prog 46 = true := by kernel_rfl
theorem ok47 : fnB Try.prog 47 = true := by kernel_rfl
theorem ok48 : fnB Try.prog 48 = true := by kernel_rfl
theorem ok49 : fnB Try.prog 49 = true := by kernel_rfl
theorem ok50 : fnB Try.prog 50 = true := by kernel_rfl
theorem ok51 : fnB Try.prog 51 = true := by kernel_rfl
theorem ok52 : fnB Try.prog 52 = true := by kernel_rfl
theorem ok53 : fnB Try.prog 53 = true := by kernel_rfl
theorem ok54 : fnB Try.prog 54 = true := by kernel_rfl
theorem ok55 : fnB Try.prog 55 = true := by kernel_rfl
theorem ok56 : fnB Try.prog 56 = true := by kernel_rfl
theorem ok57 : fnB Try.prog 57 = true := by kernel_rfl
theorem ok61 : fnB Try.prog 61 = true := by kernel_rfl
theorem ok62 : fnB Try.prog 62 = true := by kernel_rfl
theorem ok63 : fnB Try.prog 63 = true := by kernel_rfl
theorem ok64 : fnB Try.prog 64 = true := by kernel_rfl
theorem ok65 : fnB Try.prog 65 = true := by kernel_rfl
theorem ok66 : fnB Try.prog 66 = true := by kernel_rfl
theorem ok67 : fnB Try.prog 67 = true := by kernel_rfl
theorem ok68 : fnB Try.prog 68 = true := by kernel_rfl
theorem ok69 : fnB Try.prog 69 = true := by kernel_rfl
theorem ok70 : fnB Try.prog 70 = true := by kernel_rfl
theorem ok71 : fnB Try.prog 71 = true := by kernel_rfl
theorem ok73 : fnB Try.prog 73 = true := by kernel_rfl
theorem ok74 : fnB Try.prog 74 = true := by kernel_rfl
theorem ok75 : fnB Try.prog 75 = true := by kernel_rfl
theorem ok76 : fnB Try.prog 76 = true := by kernel_rfl
theorem ok77 : fnB Try.prog 77 = true := by kernel_rfl
theorem ok78 : fnB Try.prog 78 = true := by kernel_rfl
theorem ok79 : fnB Try.prog 79 = true := by kernel_rfl
theorem oks : ∀ g ∈ fns, fnB Try.prog g = true := by
  intro g hg
  simp only [fns, List.mem_cons, List.not_mem_nil, or_false] at hg
  rcases hg with rfl | rfl | rfl | rfl | rfl | rfl | rfl | rfl | rfl | rfl | rfl | rfl | rfl | rfl | rfl | rfl | rfl | rfl | rfl | rfl | rfl | rfl | rfl | rfl | rfl | rfl | rfl | rfl | rfl | rfl | rfl | rfl | rfl | rfl | rfl | rfl | rfl | rfl | rfl | rfl | rfl | rfl | rfl | rfl | rfl | rfl | rfl | rfl | rfl | rfl | rfl | rfl | rfl | rfl | rfl | rfl
  · exact ok7
  · exact ok8
  · exact ok9
  · exact ok10
  · exact ok11
  · exact ok12
  · exact ok13
  · exact ok14
  · exact ok15
  · exact ok16
  · exact ok18
  · exact ok20
  · exact ok24
  · exact ok25
  · exact ok26
  · exact ok27
  · exact ok28
  · exact ok30
  · exact ok31
  · exact ok32
  · exact ok33
  · exact ok34
  · exact ok35
  · exact ok36
  · exact ok37
  · exact ok44
  · exact ok46
  · exact ok47
  · exact ok48
  · exact ok49
  · exact ok50
  · exact ok51
  · exact ok52
  · exact ok53
  · exact ok54
  · exact ok55
  · exact ok56
  · exact ok57
  · exact ok61
  · exact ok62
  · exact ok63
  · exact ok64
  · exact ok65
  · exact ok66
  · exact ok67
  · exact ok68
  · exact ok69
  · exact ok70
  · exact ok71
  · exact ok73
  · exact ok74
  · exact ok75
  · exact ok76
  · exact ok77
  · exact ok78
  · exact ok79
theorem walk (a0 : Int) (c1 : List Value) (W : World) (w0 : (Lit.int .u64 a0).wf = true) (l1 : Leaves W [.bool, .int .u8, .int .u8, .int .u8, .int .u8, .int .u8, .int .u8, .int .u8, .int .u8, .int .u8, .int .u8, .int .u8, .int .u8, .int .u8, .int .u8, .int .u8, .int .u8, .int .u8, .int .u8, .int .u8, .int .u8, .int .u8, .int .u8, .int .u8, .int .u8, .int .u8, .int .u8, .int .u8, .int .u8, .int .u8, .int .u8, .int .u8, .int .u8, .int .u8, .int .u16, .int .u16] c1) : Calls Try.prog 7 #[.int .u64 a0, .agg c1.toArray] W fun e W' => e = .returned (.bool true) ∧ Below W.heap.size W W' := by
  obtain ⟨_, tx1_0, rfl, ⟨x1_0, rfl⟩, l1_0⟩ := l1.cons_inv
  obtain ⟨_, tx1_1, rfl, ⟨x1_1, rfl, _⟩, l1_1⟩ := l1_0.cons_inv
  obtain ⟨_, tx1_2, rfl, ⟨x1_2, rfl, _⟩, l1_2⟩ := l1_1.cons_inv
  obtain ⟨_, tx1_3, rfl, ⟨x1_3, rfl, _⟩, l1_3⟩ := l1_2.cons_inv
  obtain ⟨_, tx1_4, rfl, ⟨x1_4, rfl, _⟩, l1_4⟩ := l1_3.cons_inv
  obtain ⟨_, tx1_5, rfl, ⟨x1_5, rfl, _⟩, l1_5⟩ := l1_4.cons_inv
  obtain ⟨_, tx1_6, rfl, ⟨x1_6, rfl, _⟩, l1_6⟩ := l1_5.cons_inv
  obtain ⟨_, tx1_7, rfl, ⟨x1_7, rfl, _⟩, l1_7⟩ := l1_6.cons_inv
  obtain ⟨_, tx1_8, rfl, ⟨x1_8, rfl, _⟩, l1_8⟩ := l1_7.cons_inv
  obtain ⟨_, tx1_9, rfl, ⟨x1_9, rfl, _⟩, l1_9⟩ := l1_8.cons_inv
  obtain ⟨_, tx1_10, rfl, ⟨x1_10, rfl, _⟩, l1_10⟩ := l1_9.cons_inv
  obtain ⟨_, tx1_11, rfl, ⟨x1_11, rfl, _⟩, l1_11⟩ := l1_10.cons_inv
  obtain ⟨_, tx1_12, rfl, ⟨x1_12, rfl, _⟩, l1_12⟩ := l1_11.cons_inv
  obtain ⟨_, tx1_13, rfl, ⟨x1_13, rfl, _⟩, l1_13⟩ := l1_12.cons_inv
  obtain ⟨_, tx1_14, rfl, ⟨x1_14, rfl, _⟩, l1_14⟩ := l1_13.cons_inv
  obtain ⟨_, tx1_15, rfl, ⟨x1_15, rfl, _⟩, l1_15⟩ := l1_14.cons_inv
  obtain ⟨_, tx1_16, rfl, ⟨x1_16, rfl, _⟩, l1_16⟩ := l1_15.cons_inv
  obtain ⟨_, tx1_17, rfl, ⟨x1_17, rfl, _⟩, l1_17⟩ := l1_16.cons_inv
  obtain ⟨_, tx1_18, rfl, ⟨x1_18, rfl, _⟩, l1_18⟩ := l1_17.cons_inv
  obtain ⟨_, tx1_19, rfl, ⟨x1_19, rfl, _⟩, l1_19⟩ := l1_18.cons_inv
  obtain ⟨_, tx1_20, rfl, ⟨x1_20, rfl, _⟩, l1_20⟩ := l1_19.cons_inv
  obtain ⟨_, tx1_21, rfl, ⟨x1_21, rfl, _⟩, l1_21⟩ := l1_20.cons_inv
  obtain ⟨_, tx1_22, rfl, ⟨x1_22, rfl, _⟩, l1_22⟩ := l1_21.cons_inv
  obtain ⟨_, tx1_23, rfl, ⟨x1_23, rfl, _⟩, l1_23⟩ := l1_22.cons_inv
  obtain ⟨_, tx1_24, rfl, ⟨x1_24, rfl, _⟩, l1_24⟩ := l1_23.cons_inv
  obtain ⟨_, tx1_25, rfl, ⟨x1_25, rfl, _⟩, l1_25⟩ := l1_24.cons_inv
  obtain ⟨_, tx1_26, rfl, ⟨x1_26, rfl, _⟩, l1_26⟩ := l1_25.cons_inv
  obtain ⟨_, tx1_27, rfl, ⟨x1_27, rfl, _⟩, l1_27⟩ := l1_26.cons_inv
  obtain ⟨_, tx1_28, rfl, ⟨x1_28, rfl, _⟩, l1_28⟩ := l1_27.cons_inv
  obtain ⟨_, tx1_29, rfl, ⟨x1_29, rfl, _⟩, l1_29⟩ := l1_28.cons_inv
  obtain ⟨_, tx1_30, rfl, ⟨x1_30, rfl, _⟩, l1_30⟩ := l1_29.cons_inv
  obtain ⟨_, tx1_31, rfl, ⟨x1_31, rfl, _⟩, l1_31⟩ := l1_30.cons_inv
  obtain ⟨_, tx1_32, rfl, ⟨x1_32, rfl, _⟩, l1_32⟩ := l1_31.cons_inv
  obtain ⟨_, tx1_33, rfl, ⟨x1_33, rfl, _⟩, l1_33⟩ := l1_32.cons_inv
  obtain ⟨_, tx1_34, rfl, ⟨x1_34, rfl, _⟩, l1_34⟩ := l1_33.cons_inv
  obtain ⟨_, tx1_35, rfl, ⟨x1_35, rfl, _⟩, l1_35⟩ := l1_34.cons_inv
  obtain rfl := List.eq_nil_of_length_eq_zero l1_35.1
  exact calls_run oks (by kernel_rfl) (m := 100000) (n := 200) (by kernel_rfl) (by kernel_rfl) W
end Go.Proofs.Ytnmbpehficchkaa.StatsNoneK
