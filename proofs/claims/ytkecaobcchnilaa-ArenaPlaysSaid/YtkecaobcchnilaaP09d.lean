import Derived.Test.YtkecaobcchnilaaI35
import Derived.Test.YtkecaobcchnilaaP09c
noncomputable section
open Go.Proofs
namespace Go.Proofs.Ytkecaobcchnilaa.Ideal
open Go.RowKit
set_option linter.unusedSimpArgs false
set_option linter.unusedVariables false
set_option linter.unusedSectionVars false
set_option linter.unnecessarySimpa false
set_option maxRecDepth 100000
set_option maxHeartbeats 2000000
/-- A handle. -/
def hv (c : Int × Int) : Value := .agg #[.int .i64 c.1, .int .u64 c.2]
def fieldsS : Option TypeDesc → Option (Field × Field)
  | some (.struct ⟨[a, b]⟩) => some (a, b)
  | _ => none
theorem fieldsS_inv {d : Option TypeDesc} {p : Field × Field} (h : fieldsS d = some p) : d = some (.struct #[p.1, p.2]) := by
  unfold fieldsS at h
  split at h
  · cases h; rfl
  · cases h
theorem f32 : (fieldsS (Try.prog.underlying 32)).map (fun p => (p.1.name != "_" && p.2.name != "_", p.1.type, p.1.offset, p.2.type, p.2.offset)) = some (true, 3, 0, 30, 1) := by kernel_rfl
theorem hv_eq (a b : Int × Int) : pureVal Try.prog (Op.equal 32 (hv a) (hv b)) = some (decide (b = a)) := by
  obtain ⟨p, h1, h2⟩ := Option.map_eq_some_iff.mp f32
  simp only [Prod.mk.injEq, Bool.and_eq_true, bne_iff_ne] at h2
  obtain ⟨⟨n0, n1⟩, t0, o0, t1, o1⟩ := h2
  have hu := fieldsS_inv h1
  have g3 : pureVal Try.prog (isAgg 3) = some false := by kernel_rfl
  have g30 : pureVal Try.prog (isAgg 30) = some false := by kernel_rfl
  have u3 : Try.prog.underlying 3 = some (.int .i64) := by kernel_rfl
  have u30 : Try.prog.underlying 30 = some (.int .u64) := by kernel_rfl
  have := pv_eqStruct2 (P := Try.prog) 9999 32 p.1 p.2 #[.int .i64 a.1, .int .u64 a.2] #[.int .i64 b.1, .int .u64 b.2] (.int .i64 a.1) (.int .u64 a.2) (.int .i64 b.1) (.int .u64 b.2) (a.1 == b.1) (a.2 == b.2) hu (by kernel_rfl) n0 n1
    (by rw [t0, o0]; exact pv_isAgg u3 _ g3 rfl _ _ _ rfl) (by rw [t1, o1]; exact pv_isAgg u30 _ g30 rfl _ _ _ rfl) (by rw [t0, o0]; exact pv_isAgg u3 _ g3 rfl _ _ _ rfl) (by rw [t1, o1]; exact pv_isAgg u30 _ g30 rfl _ _ _ rfl)
    (by rw [t0]; exact pv_eqInt 9998 3 .i64 .i64 _ _ u3) (by rw [t1]; exact pv_eqInt 9998 30 .u64 .u64 _ _ u30)
  show pureVal Try.prog (Op.equalIn 10000 32 (.agg #[.int .i64 a.1, .int .u64 a.2]) (.agg #[.int .i64 b.1, .int .u64 b.2])) = _
  rw [this]
  congr 1
  rw [Bool.eq_iff_iff]
  simp only [Bool.and_eq_true, beq_iff_eq, decide_eq_true_eq, Prod.ext_iff]
  constructor <;> intro h <;> exact ⟨h.1.symm, h.2.symm⟩
theorem kh : KeyT Try.prog 32 hv := by
  obtain ⟨p, h1, _⟩ := Option.map_eq_some_iff.mp f32
  refine KeyT.of_struct (fieldsS_inv h1) (fun a b => rfl) hv_eq (fun a => by simp [hv, plainV, scal]) (fun b a => ?_) (fun a => by simp [hv, Instr.sameBits])
  cases b <;> (unfold hv; generalize a.1 = x; generalize a.2 = y; kernel_rfl)
theorem ki : KeyT Try.prog 3 (fun n : Int => Value.int .i64 n) := KeyT.of_int (d := .i64) (by kernel_rfl) (fun b a => by cases b <;> kernel_rfl)
theorem mp29 : mapOf Try.prog 29 = some (32, 4) := by kernel_rfl
theorem mp37 : mapOf Try.prog 37 = some (3, 4) := by kernel_rfl
theorem zv4 : zeroV Try.prog 4 = some (.bool false) := by kernel_rfl
end Go.Proofs.Ytkecaobcchnilaa.Ideal
