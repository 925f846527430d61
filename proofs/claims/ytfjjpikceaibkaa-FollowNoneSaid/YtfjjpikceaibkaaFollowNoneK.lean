/- FollowNone: the law's call on the ideal heap, run in the kernel. -/
import Derived.Test.YtfjjpikceaibkaaOpen
import Derived.Test.YtfjjpikceaibkaaI23
namespace Go.Proofs.Ytfjjpikceaibkaa.FollowNoneK
open Go.RowKit Go.Proofs.Ytfjjpikceaibkaa.Ideal
set_option linter.unusedVariables false
set_option maxRecDepth 100000

noncomputable def fns : List Nat := [7, 8, 9, 11, 12, 15, 16, 19, 21, 23, 24, 26, 33, 34, 35, 36, 37, 38, 42, 43, 44, 57, 59, 60, 61, 65, 66, 67, 68, 69, 70, 71, 72, 73, 75, 76, 77, 78, 79, 81, 82, 83, 84, 85, 86, 87, 88, 89, 90, 91, 92, 93, 94, 95, 96, 97]
theorem ok7 : fnB Try.prog 7 = true := by kernel_rfl
theorem ok8 : fnB Try.prog 8 = true := by kernel_rfl
theorem ok9 : fnB Try.prog 9 = true := by kernel_rfl
theorem ok11 : fnB Try.prog 11 = true := by kernel_rfl
theorem ok12 : fnB Try.prog 12 = true := by kernel_rfl
theorem ok15 : fnB Try.prog 15 = true := by kernel_rfl
theorem ok16 : fnB Try.prog 16 = true := by kernel_rfl
theorem ok19 : fnB Try.prog 19 = true := by kernel_rfl
theorem ok21 : fnB Try.prog 21 = true := by kernel_rfl
theorem ok23 : fnB Try.prog 23 = true := by kernel_rfl
theorem ok24 : fnB Try.prog 24 = true := by kernel_rfl
theorem ok26 : fnB Try.prog 26 = true := by kernel_rfl
theorem ok33 : fnB Try.prog 33 = true := by kernel_rfl
theorem ok34 : fnB Try.prog 34 = true := by kernel_rfl
theorem ok35 : fnB Try.prog 35 = true := by kernel_rfl
theorem ok36 : fnB Try.prog 36 = true := by kernel_rfl
theorem ok37 : fnB Try.prog 37 = true := by kernel_rfl
theorem ok38 : fnB Try.prog 38 = true := by kernel_rfl
theorem ok42 : fnB Try.prog 42 = true := by kernel_rfl
theorem ok43 : fnB Try.prog 43 = true := by kernel_rfl
theorem ok44 : fnB Try.prog 44 = true := by kernel_rfl
theorem ok57 : fnB Try.prog 57 = true := by kernel_rfl
theorem ok59 : fnB Try.prog 59 = true := by kernel_rfl
theorem ok60 : fnB Try.prog 60 = true := by kernel_rfl
theorem ok61 : fnB Try.prog 61 = true := by kernel_rfl
theorem ok65 : fnB Try.prog 65 = true := by kernel_rfl
theorem ok66 : fnB Try.prog 66 = true := by kernel_rfl
theorem ok67 : fnB Try.prog 67 = true := by kernel_rfl
theorem ok68 : fnB Try.prog 68 = true := by kernel_rfl
theorem ok69 : fnB Try.prog 69 = true := by kernel_rfl
theorem ok70 : fnB Try.prog 70 = true := by kernel_rfl
theorem ok71 : fnB Try.prog 71 = true := by kernel_rfl
theorem ok72 : fnB Try.prog 72 = true := by kernel_rfl
theorem ok73 : fnB Try.prog 73 = true := by kernel_rfl
theorem ok75 : fnB Try.prog 75 = true := by kernel_rfl
theorem ok76 : fnB Try.prog 76 = true := by kernel_rfl
theorem ok77 : fnB Try.prog 77 = true := by kernel_rfl
theorem ok78 : fnB Try.prog 78 = true := by kernel_rfl
theorem ok79 : fnB Try.prog 79 = true := by kernel_rfl
theorem ok81 : fnB Try.prog 81 = true := by kernel_rfl
theorem ok82 : fnB Try.prog 82 = true := by kernel_rfl
theorem ok83 : fnB Try.prog 83 = true := by kernel_rfl
theorem ok84 : fnB Try.prog 84 = true := by kernel_rfl
theorem ok85 : fnB Try.prog 85 = true := by kernel_rfl
theorem ok86 : fnB Try.prog 86 = true := by kernel_rfl
theorem ok87 : fnB Try.prog 87 = true := by kernel_rfl
theorem ok88 : fnB Try.prog 88 = true := by kernel_rfl
theorem ok89 : fnB Try.prog 89 = true := by kernel_rfl
theorem ok90 : fnB Try.prog 90 = true := by kernel_rfl
theorem ok91 : fnB Try.prog 91 = true := by kernel_rfl
theorem ok92 : fnB Try.prog 92 = true := by kernel_rfl
theorem ok93 : fnB Try.prog 93 = true := by kernel_rfl
theorem ok94 : fnB Try.prog 94 = true := by kernel_rfl
theorem ok95 : fnB Try.prog 95 = true := by kernel_rfl
theorem ok96 : fnB Try.prog 96 = true := by kernel_rfl
theorem ok97 : fnB Try.prog 97 = true := by kernel_rfl
theorem oks : ∀ g ∈ fns, fnB Try.prog g = true := by
  intro g hg
  simp only [fns, List.mem_cons, List.not_mem_nil, or_false] at hg
  rcases hg with rfl | rfl | rfl | rfl | rfl | rfl | rfl | rfl | rfl | rfl | rfl | rfl | rfl | rfl | rfl | rfl | rfl | rfl | rfl | rfl | rfl | rfl | rfl | rfl | rfl | rfl | rfl | rfl | rfl | rfl | rfl | rfl | rfl | rfl | rfl | rfl | rfl | rfl | rfl | rfl | rfl | rfl | rfl | rfl | rfl | rfl | rfl | rfl | rfl | rfl | rfl | rfl | rfl | rfl | rfl | rfl
  · exact ok7
  · exact ok8
  · exact ok9
  · exact ok11
  · exact ok12
  · exact ok15
  · exact ok16
  · exact ok19
  · exact ok21
  · exact ok23
  · exact ok24
  · exact ok26
  · exact ok33
  · exact ok34
  · exact ok35
  · exact ok36
  · exact ok37
  · exact ok38
  · exact ok42
  · exact ok43
  · exact ok44
  · exact ok57
  · exact ok59
  · exact ok60
  · exact ok61
  · exact ok65
  · exact ok66
  · exact ok67
  · exact ok68
  · exact ok69
  · exact ok70
  · exact ok71
  · exact ok72
  · exact ok73
  · exact ok75
  · exact ok76
  · exact ok77
  · exact ok78
  · exact ok79
  · exact ok81
  · exact ok82
  · exact ok83
  · exact ok84
  · exact ok85
  · exact ok86
  · exact ok87
  · exact ok88
  · exact ok89
  · exact ok90
  · exact ok91
  · exact ok92
  · exact ok93
  · exact ok94
  · exact ok95
  · exact ok96
  · exact ok97
noncomputable def C : Code := (Try.f7.body).getD .skip
noncomputable def R : Code := sqR (sqR C)
noncomputable def B : Code := sqL (sqR C)
noncomputable def D : Code := sqR B
theorem body : Try.f7.body = some C := by kernel_rfl
theorem shape : C = .seq (sqL C) (.seq (.seq (sqL B) (.cond (cdO D) (cdT D) (cdF D))) R) := by kernel_rfl
theorem run1 (x0 : Int) (x1 : Int) (x2 : Int) (x3 : Int) (x4 : Bool) (x5 : Int) (x6 : Int) (x7 : Int) (x8 : Int) (x9 : Int) (x10 : Int) (x11 : Int) (x12 : Int) (x13 : Int) (x14 : Int) (x15 : Int) (x16 : Int) (x17 : Int) (x18 : Int) (x19 : Int) (x20 : Int) (x21 : Int) (x22 : Int) (x23 : Int) (x24 : Int) (x25 : Int) (x26 : Int) (x27 : Int) (x28 : Int) (x29 : Int) (x30 : Int) (x31 : Int) (x32 : Int) (x33 : Int) (x34 : Int) (x35 : Int) (x36 : Int) (x37 : Int) (x38 : Int) (x39 : Int) (x40 : ByteArray) (x41 : ByteArray) (x42 : Int) (x43 : Int) (x44 : Int) (len cap : Nat) : isT (xcall Try.prog (inL fns) 100000 (199 + 1) 7 #[.agg #[.int .u64 x0, .int .u64 x1, .int .u8 x2, .int .i64 x3, .bool x4, .int .u8 x5, .int .u8 x6, .int .u8 x7, .int .u8 x8, .int .u8 x9, .int .u8 x10, .int .u8 x11, .int .u8 x12, .int .u8 x13, .int .u8 x14, .int .u8 x15, .int .u8 x16, .int .u8 x17, .int .u8 x18, .int .u8 x19, .int .u8 x20, .int .u8 x21, .int .u8 x22, .int .u8 x23, .int .u8 x24, .int .u8 x25, .int .u8 x26, .int .u8 x27, .int .u8 x28, .int .u8 x29, .int .u8 x30, .int .u8 x31, .int .u8 x32, .int .u8 x33, .int .u8 x34, .int .u8 x35, .int .u8 x36, .int .u8 x37, .int .u16 x38, .int .u16 x39, .string x40, .string x41, .int .u64 x42, .int .u8 x43, .int .u64 x44], .slice (some ⟨0, 0, none⟩) len cap] dead1) = true := by
  rw [xcall_body (fn := Try.f7) (c := C) (by kernel_rfl) Try.func7 body]
  rw [shape, xcode_seq (by kernel_rfl), xcode_assoc, xcode_seq (by kernel_rfl), xcode_cond (b := decide ((len : Int) > 40)) (by kernel_rfl)]
  cases decide ((len : Int) > 40)
  · kernel_rfl
  · kernel_rfl
theorem run0 (x0 : Int) (x1 : Int) (x2 : Int) (x3 : Int) (x4 : Bool) (x5 : Int) (x6 : Int) (x7 : Int) (x8 : Int) (x9 : Int) (x10 : Int) (x11 : Int) (x12 : Int) (x13 : Int) (x14 : Int) (x15 : Int) (x16 : Int) (x17 : Int) (x18 : Int) (x19 : Int) (x20 : Int) (x21 : Int) (x22 : Int) (x23 : Int) (x24 : Int) (x25 : Int) (x26 : Int) (x27 : Int) (x28 : Int) (x29 : Int) (x30 : Int) (x31 : Int) (x32 : Int) (x33 : Int) (x34 : Int) (x35 : Int) (x36 : Int) (x37 : Int) (x38 : Int) (x39 : Int) (x40 : ByteArray) (x41 : ByteArray) (x42 : Int) (x43 : Int) (x44 : Int) : isT (xcall Try.prog (inL fns) 100000 (199 + 1) 7 #[.agg #[.int .u64 x0, .int .u64 x1, .int .u8 x2, .int .i64 x3, .bool x4, .int .u8 x5, .int .u8 x6, .int .u8 x7, .int .u8 x8, .int .u8 x9, .int .u8 x10, .int .u8 x11, .int .u8 x12, .int .u8 x13, .int .u8 x14, .int .u8 x15, .int .u8 x16, .int .u8 x17, .int .u8 x18, .int .u8 x19, .int .u8 x20, .int .u8 x21, .int .u8 x22, .int .u8 x23, .int .u8 x24, .int .u8 x25, .int .u8 x26, .int .u8 x27, .int .u8 x28, .int .u8 x29, .int .u8 x30, .int .u8 x31, .int .u8 x32, .int .u8 x33, .int .u8 x34, .int .u8 x35, .int .u8 x36, .int .u8 x37, .int .u16 x38, .int .u16 x39, .string x40, .string x41, .int .u64 x42, .int .u8 x43, .int .u64 x44], .slice (some ⟨0, 0, none⟩) 0 0] noHeap) = true := by kernel_rfl
theorem runN (x0 : Int) (x1 : Int) (x2 : Int) (x3 : Int) (x4 : Bool) (x5 : Int) (x6 : Int) (x7 : Int) (x8 : Int) (x9 : Int) (x10 : Int) (x11 : Int) (x12 : Int) (x13 : Int) (x14 : Int) (x15 : Int) (x16 : Int) (x17 : Int) (x18 : Int) (x19 : Int) (x20 : Int) (x21 : Int) (x22 : Int) (x23 : Int) (x24 : Int) (x25 : Int) (x26 : Int) (x27 : Int) (x28 : Int) (x29 : Int) (x30 : Int) (x31 : Int) (x32 : Int) (x33 : Int) (x34 : Int) (x35 : Int) (x36 : Int) (x37 : Int) (x38 : Int) (x39 : Int) (x40 : ByteArray) (x41 : ByteArray) (x42 : Int) (x43 : Int) (x44 : Int) : isT (xcall Try.prog (inL fns) 100000 (199 + 1) 7 #[.agg #[.int .u64 x0, .int .u64 x1, .int .u8 x2, .int .i64 x3, .bool x4, .int .u8 x5, .int .u8 x6, .int .u8 x7, .int .u8 x8, .int .u8 x9, .int .u8 x10, .int .u8 x11, .int .u8 x12, .int .u8 x13, .int .u8 x14, .int .u8 x15, .int .u8 x16, .int .u8 x17, .int .u8 x18, .int .u8 x19, .int .u8 x20, .int .u8 x21, .int .u8 x22, .int .u8 x23, .int .u8 x24, .int .u8 x25, .int .u8 x26, .int .u8 x27, .int .u8 x28, .int .u8 x29, .int .u8 x30, .int .u8 x31, .int .u8 x32, .int .u8 x33, .int .u8 x34, .int .u8 x35, .int .u8 x36, .int .u8 x37, .int .u16 x38, .int .u16 x39, .string x40, .string x41, .int .u64 x42, .int .u8 x43, .int .u64 x44], .slice none 0 0] noHeap) = true := by kernel_rfl
theorem plain0 (x0 : Int) (x1 : Int) (x2 : Int) (x3 : Int) (x4 : Bool) (x5 : Int) (x6 : Int) (x7 : Int) (x8 : Int) (x9 : Int) (x10 : Int) (x11 : Int) (x12 : Int) (x13 : Int) (x14 : Int) (x15 : Int) (x16 : Int) (x17 : Int) (x18 : Int) (x19 : Int) (x20 : Int) (x21 : Int) (x22 : Int) (x23 : Int) (x24 : Int) (x25 : Int) (x26 : Int) (x27 : Int) (x28 : Int) (x29 : Int) (x30 : Int) (x31 : Int) (x32 : Int) (x33 : Int) (x34 : Int) (x35 : Int) (x36 : Int) (x37 : Int) (x38 : Int) (x39 : Int) (x40 : ByteArray) (x41 : ByteArray) (x42 : Int) (x43 : Int) (x44 : Int) : plainV (.agg #[.int .u64 x0, .int .u64 x1, .int .u8 x2, .int .i64 x3, .bool x4, .int .u8 x5, .int .u8 x6, .int .u8 x7, .int .u8 x8, .int .u8 x9, .int .u8 x10, .int .u8 x11, .int .u8 x12, .int .u8 x13, .int .u8 x14, .int .u8 x15, .int .u8 x16, .int .u8 x17, .int .u8 x18, .int .u8 x19, .int .u8 x20, .int .u8 x21, .int .u8 x22, .int .u8 x23, .int .u8 x24, .int .u8 x25, .int .u8 x26, .int .u8 x27, .int .u8 x28, .int .u8 x29, .int .u8 x30, .int .u8 x31, .int .u8 x32, .int .u8 x33, .int .u8 x34, .int .u8 x35, .int .u8 x36, .int .u8 x37, .int .u16 x38, .int .u16 x39, .string x40, .string x41, .int .u64 x42, .int .u8 x43, .int .u64 x44]) = true := by kernel_rfl
theorem walk (c0 : List Value) (A : Option Addr) (len cap : Nat) (W : World) (l0 : Leaves W [.int .u64, .int .u64, .int .u8, .int .i64, .bool, .int .u8, .int .u8, .int .u8, .int .u8, .int .u8, .int .u8, .int .u8, .int .u8, .int .u8, .int .u8, .int .u8, .int .u8, .int .u8, .int .u8, .int .u8, .int .u8, .int .u8, .int .u8, .int .u8, .int .u8, .int .u8, .int .u8, .int .u8, .int .u8, .int .u8, .int .u8, .int .u8, .int .u8, .int .u8, .int .u8, .int .u8, .int .u8, .int .u8, .int .u16, .int .u16, .str, .str, .int .u64, .int .u8, .int .u64] c0) (w1 : There W A len cap) : Calls Try.prog 7 #[.agg c0.toArray, .slice A len cap] W fun e W' => e = .returned (.bool true) ∧ Below W.heap.size W W' := by
  obtain ⟨_, t0, rfl, ⟨x0, rfl, _⟩, l0_0⟩ := l0.cons_inv
  obtain ⟨_, t1, rfl, ⟨x1, rfl, _⟩, l0_1⟩ := l0_0.cons_inv
  obtain ⟨_, t2, rfl, ⟨x2, rfl, _⟩, l0_2⟩ := l0_1.cons_inv
  obtain ⟨_, t3, rfl, ⟨x3, rfl, _⟩, l0_3⟩ := l0_2.cons_inv
  obtain ⟨_, t4, rfl, ⟨x4, rfl⟩, l0_4⟩ := l0_3.cons_inv
  obtain ⟨_, t5, rfl, ⟨x5, rfl, _⟩, l0_5⟩ := l0_4.cons_inv
  obtain ⟨_, t6, rfl, ⟨x6, rfl, _⟩, l0_6⟩ := l0_5.cons_inv
  obtain ⟨_, t7, rfl, ⟨x7, rfl, _⟩, l0_7⟩ := l0_6.cons_inv
  obtain ⟨_, t8, rfl, ⟨x8, rfl, _⟩, l0_8⟩ := l0_7.cons_inv
  obtain ⟨_, t9, rfl, ⟨x9, rfl, _⟩, l0_9⟩ := l0_8.cons_inv
  obtain ⟨_, t10, rfl, ⟨x10, rfl, _⟩, l0_10⟩ := l0_9.cons_inv
  obtain ⟨_, t11, rfl, ⟨x11, rfl, _⟩, l0_11⟩ := l0_10.cons_inv
  obtain ⟨_, t12, rfl, ⟨x12, rfl, _⟩, l0_12⟩ := l0_11.cons_inv
  obtain ⟨_, t13, rfl, ⟨x13, rfl, _⟩, l0_13⟩ := l0_12.cons_inv
  obtain ⟨_, t14, rfl, ⟨x14, rfl, _⟩, l0_14⟩ := l0_13.cons_inv
  obtain ⟨_, t15, rfl, ⟨x15, rfl, _⟩, l0_15⟩ := l0_14.cons_inv
  obtain ⟨_, t16, rfl, ⟨x16, rfl, _⟩, l0_16⟩ := l0_15.cons_inv
  obtain ⟨_, t17, rfl, ⟨x17, rfl, _⟩, l0_17⟩ := l0_16.cons_inv
  obtain ⟨_, t18, rfl, ⟨x18, rfl, _⟩, l0_18⟩ := l0_17.cons_inv
  obtain ⟨_, t19, rfl, ⟨x19, rfl, _⟩, l0_19⟩ := l0_18.cons_inv
  obtain ⟨_, t20, rfl, ⟨x20, rfl, _⟩, l0_20⟩ := l0_19.cons_inv
  obtain ⟨_, t21, rfl, ⟨x21, rfl, _⟩, l0_21⟩ := l0_20.cons_inv
  obtain ⟨_, t22, rfl, ⟨x22, rfl, _⟩, l0_22⟩ := l0_21.cons_inv
  obtain ⟨_, t23, rfl, ⟨x23, rfl, _⟩, l0_23⟩ := l0_22.cons_inv
  obtain ⟨_, t24, rfl, ⟨x24, rfl, _⟩, l0_24⟩ := l0_23.cons_inv
  obtain ⟨_, t25, rfl, ⟨x25, rfl, _⟩, l0_25⟩ := l0_24.cons_inv
  obtain ⟨_, t26, rfl, ⟨x26, rfl, _⟩, l0_26⟩ := l0_25.cons_inv
  obtain ⟨_, t27, rfl, ⟨x27, rfl, _⟩, l0_27⟩ := l0_26.cons_inv
  obtain ⟨_, t28, rfl, ⟨x28, rfl, _⟩, l0_28⟩ := l0_27.cons_inv
  obtain ⟨_, t29, rfl, ⟨x29, rfl, _⟩, l0_29⟩ := l0_28.cons_inv
  obtain ⟨_, t30, rfl, ⟨x30, rfl, _⟩, l0_30⟩ := l0_29.cons_inv
  obtain ⟨_, t31, rfl, ⟨x31, rfl, _⟩, l0_31⟩ := l0_30.cons_inv
  obtain ⟨_, t32, rfl, ⟨x32, rfl, _⟩, l0_32⟩ := l0_31.cons_inv
  obtain ⟨_, t33, rfl, ⟨x33, rfl, _⟩, l0_33⟩ := l0_32.cons_inv
  obtain ⟨_, t34, rfl, ⟨x34, rfl, _⟩, l0_34⟩ := l0_33.cons_inv
  obtain ⟨_, t35, rfl, ⟨x35, rfl, _⟩, l0_35⟩ := l0_34.cons_inv
  obtain ⟨_, t36, rfl, ⟨x36, rfl, _⟩, l0_36⟩ := l0_35.cons_inv
  obtain ⟨_, t37, rfl, ⟨x37, rfl, _⟩, l0_37⟩ := l0_36.cons_inv
  obtain ⟨_, t38, rfl, ⟨x38, rfl, _⟩, l0_38⟩ := l0_37.cons_inv
  obtain ⟨_, t39, rfl, ⟨x39, rfl, _⟩, l0_39⟩ := l0_38.cons_inv
  obtain ⟨_, t40, rfl, ⟨x40, rfl, _⟩, l0_40⟩ := l0_39.cons_inv
  obtain ⟨_, t41, rfl, ⟨x41, rfl, _⟩, l0_41⟩ := l0_40.cons_inv
  obtain ⟨_, t42, rfl, ⟨x42, rfl, _⟩, l0_42⟩ := l0_41.cons_inv
  obtain ⟨_, t43, rfl, ⟨x43, rfl, _⟩, l0_43⟩ := l0_42.cons_inv
  obtain ⟨_, t44, rfl, ⟨x44, rfl, _⟩, l0_44⟩ := l0_43.cons_inv
  obtain rfl := List.eq_nil_of_length_eq_zero l0_44.1
  rcases w1 with ⟨rfl, rfl, rfl⟩ | ⟨x, rfl, hl, hx⟩
  · exact calls_dead0 oks (by kernel_rfl) (runN x0 x1 x2 x3 x4 x5 x6 x7 x8 x9 x10 x11 x12 x13 x14 x15 x16 x17 x18 x19 x20 x21 x22 x23 x24 x25 x26 x27 x28 x29 x30 x31 x32 x33 x34 x35 x36 x37 x38 x39 x40 x41 x42 x43 x44) (arel2 (plain_rel (plain0 x0 x1 x2 x3 x4 x5 x6 x7 x8 x9 x10 x11 x12 x13 x14 x15 x16 x17 x18 x19 x20 x21 x22 x23 x24 x25 x26 x27 x28 x29 x30 x31 x32 x33 x34 x35 x36 x37 x38 x39 x40 x41 x42 x43 x44)) (.base rfl))
  · by_cases h0 : cap = 0
    · subst h0
      obtain rfl : len = 0 := by omega
      exact calls_dead0 oks (by kernel_rfl) (run0 x0 x1 x2 x3 x4 x5 x6 x7 x8 x9 x10 x11 x12 x13 x14 x15 x16 x17 x18 x19 x20 x21 x22 x23 x24 x25 x26 x27 x28 x29 x30 x31 x32 x33 x34 x35 x36 x37 x38 x39 x40 x41 x42 x43 x44) (arel2 (plain_rel (plain0 x0 x1 x2 x3 x4 x5 x6 x7 x8 x9 x10 x11 x12 x13 x14 x15 x16 x17 x18 x19 x20 x21 x22 x23 x24 x25 x26 x27 x28 x29 x30 x31 x32 x33 x34 x35 x36 x37 x38 x39 x40 x41 x42 x43 x44)) .slc0)
    · obtain ⟨hs, hb⟩ := hx.resolve_left h0
      exact calls_dead1 oks (by kernel_rfl) (run1 x0 x1 x2 x3 x4 x5 x6 x7 x8 x9 x10 x11 x12 x13 x14 x15 x16 x17 x18 x19 x20 x21 x22 x23 x24 x25 x26 x27 x28 x29 x30 x31 x32 x33 x34 x35 x36 x37 x38 x39 x40 x41 x42 x43 x44 len cap) hb (arel2 (plain_rel (plain0 x0 x1 x2 x3 x4 x5 x6 x7 x8 x9 x10 x11 x12 x13 x14 x15 x16 x17 x18 x19 x20 x21 x22 x23 x24 x25 x26 x27 x28 x29 x30 x31 x32 x33 x34 x35 x36 x37 x38 x39 x40 x41 x42 x43 x44)) (rho1_slice hs len cap))
end Go.Proofs.Ytfjjpikceaibkaa.FollowNoneK
