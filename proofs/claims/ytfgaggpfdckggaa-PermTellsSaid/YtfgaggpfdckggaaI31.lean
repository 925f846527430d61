/- Maps as lists of keys and values: where a key is, by a test of equality that the kernel need not see. -/
import Derived.Test.YtfgaggpfdckggaaI30
noncomputable section
namespace Go.Proofs.Ytfgaggpfdckggaa.Ideal
open Go.RowKit
set_option linter.unusedVariables false
set_option linter.unusedSimpArgs false
set_option linter.unnecessarySimpa false
set_option linter.unusedSectionVars false
section
variable {P : Program}
theorem pv_under {t : TypeId} {d : TypeDesc} (h : P.underlying t = some d) : pureVal P (underlying t) = some d := by
  simp [underlying, program, pureVal, h, bind, Sem.bind, pure]
theorem pv_program : pureVal P program = some P := by simp [program, pureVal, pure]
theorem pv_pure {α : Type} (a : α) : pureVal P (pure a) = some a := by simp [pureVal, pure]
theorem pv_eqInt (d : Nat) (t : TypeId) (k k' : IntKind) (a b : Int) (h : P.underlying t = some (.int k')) : pureVal P (Op.equalIn (d + 1) t (.int k a) (.int k b)) = some (a == b) := by
  unfold Op.equalIn
  rw [pureVal_bind, pv_under h]
  simp [pureVal, pure]
theorem pv_eqStruct2 (d : Nat) (t : TypeId) (f0 f1 : Field) (xs ys : Array Value) (x0 x1 y0 y1 : Value) (b0 b1 : Bool) (h : P.underlying t = some (.struct #[f0, f1])) (hp : P.stoodInHeld t = false) (n0 : f0.name ≠ "_") (n1 : f1.name ≠ "_")
    (p0 : pureVal P (part f0.type xs f0.offset) = some x0) (p1 : pureVal P (part f1.type xs f1.offset) = some x1) (q0 : pureVal P (part f0.type ys f0.offset) = some y0) (q1 : pureVal P (part f1.type ys f1.offset) = some y1)
    (e0 : pureVal P (Op.equalIn d f0.type x0 y0) = some b0) (e1 : pureVal P (Op.equalIn d f1.type x1 y1) = some b1) : pureVal P (Op.equalIn (d + 1) t (.agg xs) (.agg ys)) = some (b0 && b1) := by
  simp only [Op.equalIn]
  rw [pureVal_bind, pv_under h]
  simp only [Option.bind_some]
  rw [pureVal_bind, pv_program]
  simp only [Option.bind_some, hp, Bool.false_eq_true, if_false]
  rw [← Array.forIn_toList]
  simp only [List.forIn_cons, List.forIn_nil, n0, n1, ne_eq, not_false_eq_true, if_true, pureVal_bind, p0, q0, e0, Option.bind_some]
  cases b0 <;> simp [pureVal_bind, pv_pure, p1, q1, e1, n0, n1]
  cases b1 <;> simp [pureVal_bind, pv_pure, p1, q1, e1, n0, n1]
theorem pv_isAgg {t : TypeId} {d : TypeDesc} (h : P.underlying t = some d) (b : Bool) (hb : pureVal P (isAgg t) = some b) (hf : b = false) (cs : Array Value) (q : Nat) (v : Value) (hv : cs[q]? = some v) : pureVal P (part t cs q) = some v := by
  subst hf
  unfold part
  rw [pureVal_bind, hb]
  simp [hv, pv_pure]
end
/-! Keys and values. -/
section
variable {P : Program} {α β : Type} [DecidableEq α] (kv : α → Value) (uv : β → Value)
/-- A map's entries are these. -/
def MapIs (M : List (α × β)) (es : List MapEntry) : Prop := es.map (fun e => (e.key, e.val)) = M.map fun m => (kv m.1, uv m.2)
def alGet (M : List (α × β)) (a : α) : Option β := (M.find? fun m => decide (m.1 = a)).map (·.2)
def alPut (a : α) (b : β) : List (α × β) → List (α × β)
  | [] => [(a, b)]
  | m :: M => if m.1 = a then (a, b) :: M else m :: alPut a b M
variable {kv uv}
theorem MapIs.nil_inv {es : List MapEntry} (h : MapIs kv uv ([] : List (α × β)) es) : es = [] := by
  cases es with
  | nil => rfl
  | cons e es => simp [MapIs] at h
theorem MapIs.cons_inv {m : α × β} {M : List (α × β)} {es : List MapEntry} (h : MapIs kv uv (m :: M) es) : ∃ e fs, es = e :: fs ∧ e.key = kv m.1 ∧ e.val = uv m.2 ∧ MapIs kv uv M fs := by
  cases es with
  | nil => simp [MapIs] at h
  | cons e fs =>
    simp only [MapIs, List.map_cons, List.cons.injEq, Prod.mk.injEq] at h
    exact ⟨e, fs, rfl, h.1.1, h.1.2, h.2⟩
theorem MapIs.cons {m : α × β} {M : List (α × β)} {e : MapEntry} {fs : List MapEntry} (h1 : e.key = kv m.1) (h2 : e.val = uv m.2) (h : MapIs kv uv M fs) : MapIs kv uv (m :: M) (e :: fs) := by
  simp only [MapIs, List.map_cons, List.cons.injEq, Prod.mk.injEq]
  exact ⟨⟨h1, h2⟩, h⟩
theorem MapIs.len {M : List (α × β)} {es : List MapEntry} (h : MapIs kv uv M es) : es.length = M.length := by
  have := congrArg List.length h
  simpa using this
/-- Where a key is asked for. -/
theorem ask_find {kt : TypeId} (heq : ∀ a b, pureVal P (Op.equal kt (kv a) (kv b)) = some (decide (b = a))) (a : α) : ∀ {M : List (α × β)} {es : List MapEntry} (i : Nat), MapIs kv uv M es → 
    (pureVal P (Instr.findAsking kt (kv a) (es.map bareE) i)).map (fun r => r.map (·.1)) = some ((M.findIdx? fun m => decide (m.1 = a)).map (· + i))
  | [], es, i, h => by
    rw [h.nil_inv]
    simp [Instr.findAsking, pv_pure]
  | m :: M, es, i, h => by
    obtain ⟨e, fs, rfl, h1, h2, h3⟩ := h.cons_inv
    have hb : (bareE e).key = kv m.1 := by rw [← h1]; rfl
    simp only [List.map_cons, Instr.findAsking, pureVal_bind, hb, heq, Option.bind_some, List.findIdx?_cons]
    by_cases hm : m.1 = a
    · simp [hm, pv_pure]
    · have := ask_find heq a (i + 1) h3
      simp only [hm, decide_false, Bool.false_eq_true, if_false, this]
      simp [Option.map_map, Function.comp_def, Nat.add_assoc, Nat.add_comm 1 i]
end
end Go.Proofs.Ytfgaggpfdckggaa.Ideal
