import Derived.Test.YtmeonhnaadjamaaP12e
import Derived.Test.YtmeonhnaadjamaaOpen
noncomputable section
open Go.Proofs
namespace Go.Proofs.Ytmeonhnaadjamaa.Ideal
open Go.RowKit
set_option linter.unusedSimpArgs false
set_option linter.unusedVariables false
set_option linter.unusedSectionVars false
set_option maxRecDepth 100000
theorem wf8 {n : Int} (h : (Lit.int .u8 n).wf = true) : 0 ≤ n ∧ n < 256 := by
  simp [Lit.wf, IntKind.min, IntKind.max, IntKind.signed, IntKind.bits] at h
  omega
theorem wf16 {n : Int} (h : (Lit.int .u16 n).wf = true) : 0 ≤ n ∧ n < 65536 := by
  simp [Lit.wf, IntKind.min, IntKind.max, IntKind.signed, IntKind.bits] at h
  omega
theorem plain2 {f : FuncId} {a b : Value} {W : World} (h1 : plainV a = true) (h2 : plainV b = true) (hc : FN Try.prog f #[a, b] noHeap (Q := ⟨fun v h' => v = .bool true⟩)) :
    Calls Try.prog f #[a, b] W fun e W' => e = .returned (.bool true) ∧ Below W.heap.size W W' := by
  obtain ⟨v, h', c, rfl⟩ := hc
  exact calls_init c (ρ := fun _ => none) (arel2 (plain_rel h1) (plain_rel h2)) (noHeap_models W) (fun _ _ => rfl) (fun i o hg => by rw [noHeap_get] at hg; cases hg)
theorem walk (c0 : List Value) (a1 : Int) (W : World) (l0 : Leaves W [.bool, .int .u8, .int .u8, .int .u8, .int .u8, .int .u8, .int .u8, .int .u8, .int .u8, .int .u8, .int .u8, .int .u8, .int .u8, .int .u8, .int .u8, .int .u8, .int .u8, .int .u8, .int .u8, .int .u8, .int .u8, .int .u8, .int .u8, .int .u8, .int .u8, .int .u8, .int .u8, .int .u8, .int .u8, .int .u8, .int .u8, .int .u8, .int .u8, .int .u8, .int .u16, .int .u16] c0) (w1 : (Lit.int .u8 a1).wf = true) : Calls Try.prog 5 #[.agg c0.toArray, .int .u8 a1] W fun e W' => e = .returned (.bool true) ∧ Below W.heap.size W W' := by
  obtain ⟨_, t0, rfl, ⟨x0, rfl⟩, m0⟩ := l0.cons_inv
  obtain ⟨_, t1, rfl, ⟨x1, rfl, w0_1⟩, m1⟩ := m0.cons_inv
  obtain ⟨_, t2, rfl, ⟨x2, rfl, w0_2⟩, m2⟩ := m1.cons_inv
  obtain ⟨_, t3, rfl, ⟨x3, rfl, w0_3⟩, m3⟩ := m2.cons_inv
  obtain ⟨_, t4, rfl, ⟨x4, rfl, w0_4⟩, m4⟩ := m3.cons_inv
  obtain ⟨_, t5, rfl, ⟨x5, rfl, w0_5⟩, m5⟩ := m4.cons_inv
  obtain ⟨_, t6, rfl, ⟨x6, rfl, w0_6⟩, m6⟩ := m5.cons_inv
  obtain ⟨_, t7, rfl, ⟨x7, rfl, w0_7⟩, m7⟩ := m6.cons_inv
  obtain ⟨_, t8, rfl, ⟨x8, rfl, w0_8⟩, m8⟩ := m7.cons_inv
  obtain ⟨_, t9, rfl, ⟨x9, rfl, w0_9⟩, m9⟩ := m8.cons_inv
  obtain ⟨_, t10, rfl, ⟨x10, rfl, w0_10⟩, m10⟩ := m9.cons_inv
  obtain ⟨_, t11, rfl, ⟨x11, rfl, w0_11⟩, m11⟩ := m10.cons_inv
  obtain ⟨_, t12, rfl, ⟨x12, rfl, w0_12⟩, m12⟩ := m11.cons_inv
  obtain ⟨_, t13, rfl, ⟨x13, rfl, w0_13⟩, m13⟩ := m12.cons_inv
  obtain ⟨_, t14, rfl, ⟨x14, rfl, w0_14⟩, m14⟩ := m13.cons_inv
  obtain ⟨_, t15, rfl, ⟨x15, rfl, w0_15⟩, m15⟩ := m14.cons_inv
  obtain ⟨_, t16, rfl, ⟨x16, rfl, w0_16⟩, m16⟩ := m15.cons_inv
  obtain ⟨_, t17, rfl, ⟨x17, rfl, w0_17⟩, m17⟩ := m16.cons_inv
  obtain ⟨_, t18, rfl, ⟨x18, rfl, w0_18⟩, m18⟩ := m17.cons_inv
  obtain ⟨_, t19, rfl, ⟨x19, rfl, w0_19⟩, m19⟩ := m18.cons_inv
  obtain ⟨_, t20, rfl, ⟨x20, rfl, w0_20⟩, m20⟩ := m19.cons_inv
  obtain ⟨_, t21, rfl, ⟨x21, rfl, w0_21⟩, m21⟩ := m20.cons_inv
  obtain ⟨_, t22, rfl, ⟨x22, rfl, w0_22⟩, m22⟩ := m21.cons_inv
  obtain ⟨_, t23, rfl, ⟨x23, rfl, w0_23⟩, m23⟩ := m22.cons_inv
  obtain ⟨_, t24, rfl, ⟨x24, rfl, w0_24⟩, m24⟩ := m23.cons_inv
  obtain ⟨_, t25, rfl, ⟨x25, rfl, w0_25⟩, m25⟩ := m24.cons_inv
  obtain ⟨_, t26, rfl, ⟨x26, rfl, w0_26⟩, m26⟩ := m25.cons_inv
  obtain ⟨_, t27, rfl, ⟨x27, rfl, w0_27⟩, m27⟩ := m26.cons_inv
  obtain ⟨_, t28, rfl, ⟨x28, rfl, w0_28⟩, m28⟩ := m27.cons_inv
  obtain ⟨_, t29, rfl, ⟨x29, rfl, w0_29⟩, m29⟩ := m28.cons_inv
  obtain ⟨_, t30, rfl, ⟨x30, rfl, w0_30⟩, m30⟩ := m29.cons_inv
  obtain ⟨_, t31, rfl, ⟨x31, rfl, w0_31⟩, m31⟩ := m30.cons_inv
  obtain ⟨_, t32, rfl, ⟨x32, rfl, w0_32⟩, m32⟩ := m31.cons_inv
  obtain ⟨_, t33, rfl, ⟨x33, rfl, w0_33⟩, m33⟩ := m32.cons_inv
  obtain ⟨_, t34, rfl, ⟨x34, rfl, w0_34⟩, m34⟩ := m33.cons_inv
  obtain ⟨_, t35, rfl, ⟨x35, rfl, w0_35⟩, m35⟩ := m34.cons_inv
  obtain rfl : t35 = [] := List.eq_nil_of_length_eq_zero m35.1
  have ok : TU.okb ⟨x0, x1, [x2, x3, x4, x5, x6, x7, x8, x9, x10, x11, x12, x13, x14, x15, x16, x17], [x18, x19, x20, x21, x22, x23, x24, x25, x26, x27, x28, x29, x30, x31, x32, x33], x34, x35⟩ := by
    refine ⟨⟨by rfl, by rfl, wf16 w0_34, wf16 w0_35⟩, wf8 w0_1, fun n hn => ?_, fun n hn => ?_⟩ <;> simp only [List.mem_cons, List.not_mem_nil, or_false] at hn <;> rcases hn with rfl | rfl | rfl | rfl | rfl | rfl | rfl | rfl | rfl | rfl | rfl | rfl | rfl | rfl | rfl | rfl
    · exact wf8 w0_2
    · exact wf8 w0_3
    · exact wf8 w0_4
    · exact wf8 w0_5
    · exact wf8 w0_6
    · exact wf8 w0_7
    · exact wf8 w0_8
    · exact wf8 w0_9
    · exact wf8 w0_10
    · exact wf8 w0_11
    · exact wf8 w0_12
    · exact wf8 w0_13
    · exact wf8 w0_14
    · exact wf8 w0_15
    · exact wf8 w0_16
    · exact wf8 w0_17
    · exact wf8 w0_18
    · exact wf8 w0_19
    · exact wf8 w0_20
    · exact wf8 w0_21
    · exact wf8 w0_22
    · exact wf8 w0_23
    · exact wf8 w0_24
    · exact wf8 w0_25
    · exact wf8 w0_26
    · exact wf8 w0_27
    · exact wf8 w0_28
    · exact wf8 w0_29
    · exact wf8 w0_30
    · exact wf8 w0_31
    · exact wf8 w0_32
    · exact wf8 w0_33
  have hc := law_c (h := noHeap) (o := a1) ok (wf8 w1)
  refine plain2 ?_ rfl hc
  simp [TU.val, TU.row, nums, plainV, scal]
end Go.Proofs.Ytmeonhnaadjamaa.Ideal
