/- The ideal heap: I30, I31, I32, I33, I34, I35. Equations for simp: maps. -/
import Derived.Test.YtmobpbhbllhdcaaI29
noncomputable section
namespace Go.Proofs.Ytmobpbhbllhdcaa.Ideal
open Go.RowKit
set_option linter.unusedVariables false
set_option linter.unusedSimpArgs false
set_option linter.unnecessarySimpa false
variable {P : Program} {rd : Option Nat} {draw : Bool} {all : Array Oper} {os : List Oper} {e : XEnv} {h : IHeap}
variable (d : Option Tmp) (ty : TypeId) (p : String) (af : Array Edge) (g : Option (Nat × Bool))
variable [Q : Hid (XEnv → IHeap → Prop)] [E : Hid (List Ent)]
theorem wdo_lookup (t : TypeId) (x k : Operand) (ok : Bool) : wdo P draw all ⟨d, .lookup t x k ok, ty, p, af, g⟩ os e h = atSome (ilookup P h t (e.ev x) (e.ev k) ok) (K := ⟨fun r => wnx P draw all os e d h r.1 h (match r.2 with | some i => .read i | none => .pure)⟩) := by
  have e1 : wdo P draw all ⟨d, .lookup t x k ok, ty, p, af, g⟩ os e h = jgen P e ⟨d, .lookup t x k ok, ty, p, af, g⟩ h (K := ⟨fun v h' k => wnx P draw all os e d h v h' k⟩) := byEq rfl
  rw [e1]
  cases hl : ilookup P h t (e.ev x) (e.ev k) ok with
  | none => simp [jgen, iop, hl, atSome]
  | some r =>
    obtain ⟨v, r⟩ := r
    cases r <;> simp [jgen, iop, hl, atSome, kindOf, Hid.ap_mk]
theorem wdo_mapUpdate (t : TypeId) (x k u : Operand) : wdo P draw all ⟨d, .mapUpdate t x k u, ty, p, af, g⟩ os e h = atSome (iupdate P h t (e.ev x) (e.ev k) (e.ev u)) (K := ⟨fun h' => wnx P draw all os e d h undef h' .heavy⟩) := by
  have e1 : wdo P draw all ⟨d, .mapUpdate t x k u, ty, p, af, g⟩ os e h = jgen P e ⟨d, .mapUpdate t x k u, ty, p, af, g⟩ h (K := ⟨fun v h' k => wnx P draw all os e d h v h' k⟩) := byEq rfl
  rw [e1]
  cases hl : iupdate P h t (e.ev x) (e.ev k) (e.ev u) <;> simp [jgen, iop, hl, atSome, kindOf, Hid.ap_mk]
theorem wdo_makeMap (t : TypeId) : wdo P draw all ⟨d, .makeMap t none, ty, p, af, g⟩ os e h = wnx P draw all os e d h (.map (some h.size)) (h.push (.map [] 0)) .alloc := by
  have e1 : wdo P draw all ⟨d, .makeMap t none, ty, p, af, g⟩ os e h = jgen P e ⟨d, .makeMap t none, ty, p, af, g⟩ h (K := ⟨fun v h' k => wnx P draw all os e d h v h' k⟩) := byEq rfl
  rw [e1]
  simp [jgen, iop, pushH_eq, kindOf, Hid.ap_mk]
end Go.Proofs.Ytmobpbhbllhdcaa.Ideal
end
noncomputable section
namespace Go.Proofs.Ytmobpbhbllhdcaa.Ideal
open Go.RowKit
set_option linter.unusedVariables false
set_option linter.unusedSimpArgs false
set_option linter.unnecessarySimpa false
set_option linter.unusedSectionVars false
section
variable {P : Program}
theorem pv_under {t : TypeId} {d : TypeDesc} (h : P.underlying t = some d) : pureVal P (underlying t) = some d := by
  simp [underlying, program, pureVal, h, bind, Sem.bind, pure]
theorem pv_program : pureVal P program = some P := by simp [program, pureVal, pure]
theorem pv_pure {α : Type} (a : α) : pureVal P (pure a) = some a := by simp [pureVal, pure]
theorem pv_eqInt (d : Nat) (t : TypeId) (k k' : IntKind) (a b : Int) (h : P.underlying t = some (.int k')) : pureVal P (Op.equalIn (d + 1) t (.int k a) (.int k b)) = some (a == b) := by
  unfold Op.equalIn
  rw [pureVal_bind, pv_under h]
  simp [pureVal, pure]
theorem pv_eqStruct2 (d : Nat) (t : TypeId) (f0 f1 : Field) (xs ys : Array Value) (x0 x1 y0 y1 : Value) (b0 b1 : Bool) (h : P.underlying t = some (.struct #[f0, f1])) (hp : P.stoodInHeld t = false) (n0 : f0.name ≠ "_") (n1 : f1.name ≠ "_")
    (p0 : pureVal P (part f0.type xs f0.offset) = some x0) (p1 : pureVal P (part f1.type xs f1.offset) = some x1) (q0 : pureVal P (part f0.type ys f0.offset) = some y0) (q1 : pureVal P (part f1.type ys f1.offset) = some y1)
    (e0 : pureVal P (Op.equalIn d f0.type x0 y0) = some b0) (e1 : pureVal P (Op.equalIn d f1.type x1 y1) = some b1) : pureVal P (Op.equalIn (d + 1) t (.agg xs) (.agg ys)) = some (b0 && b1) := by
  simp only [Op.equalIn]
  rw [pureVal_bind, pv_under h]
  simp only [Option.bind_some]
  rw [pureVal_bind, pv_program]
  simp only [Option.bind_some, hp, Bool.false_eq_true, if_false]
  rw [← Array.forIn_toList]
  simp only [List.forIn_cons, List.forIn_nil, n0, n1, ne_eq, not_false_eq_true, if_true, pureVal_bind, p0, q0, e0, Option.bind_some]
  cases b0 <;> simp [pureVal_bind, pv_pure, p1, q1, e1, n0, n1]
  cases b1 <;> simp [pureVal_bind, pv_pure, p1, q1, e1, n0, n1]
theorem pv_isAgg {t : TypeId} {d : TypeDesc} (h : P.underlying t = some d) (b : Bool) (hb : pureVal P (isAgg t) = some b) (hf : b = false) (cs : Array Value) (q : Nat) (v : Value) (hv : cs[q]? = some v) : pureVal P (part t cs q) = some v := by
  subst hf
  unfold part
  rw [pureVal_bind, hb]
  simp [hv, pv_pure]
end
/-! Keys and values. -/
section
variable {P : Program} {α β : Type} [DecidableEq α] (kv : α → Value) (uv : β → Value)
/-- A map's entries are these. -/
def MapIs (M : List (α × β)) (es : List MapEntry) : Prop := es.map (fun e => (e.key, e.val)) = M.map fun m => (kv m.1, uv m.2)
def alGet (M : List (α × β)) (a : α) : Option β := (M.find? fun m => decide (m.1 = a)).map (·.2)
def alPut (a : α) (b : β) : List (α × β) → List (α × β)
  | [] => [(a, b)]
  | m :: M => if m.1 = a then (a, b) :: M else m :: alPut a b M
variable {kv uv}
theorem MapIs.nil_inv {es : List MapEntry} (h : MapIs kv uv ([] : List (α × β)) es) : es = [] := by
  cases es with
  | nil => rfl
  | cons e es => simp [MapIs] at h
theorem MapIs.cons_inv {m : α × β} {M : List (α × β)} {es : List MapEntry} (h : MapIs kv uv (m :: M) es) : ∃ e fs, es = e :: fs ∧ e.key = kv m.1 ∧ e.val = uv m.2 ∧ MapIs kv uv M fs := by
  cases es with
  | nil => simp [MapIs] at h
  | cons e fs =>
    simp only [MapIs, List.map_cons, List.cons.injEq, Prod.mk.injEq] at h
    exact ⟨e, fs, rfl, h.1.1, h.1.2, h.2⟩
theorem MapIs.cons {m : α × β} {M : List (α × β)} {e : MapEntry} {fs : List MapEntry} (h1 : e.key = kv m.1) (h2 : e.val = uv m.2) (h : MapIs kv uv M fs) : MapIs kv uv (m :: M) (e :: fs) := by
  simp only [MapIs, List.map_cons, List.cons.injEq, Prod.mk.injEq]
  exact ⟨⟨h1, h2⟩, h⟩
theorem MapIs.len {M : List (α × β)} {es : List MapEntry} (h : MapIs kv uv M es) : es.length = M.length := by
  have := congrArg List.length h
  simpa using this
/-- Where a key is asked for. -/
theorem ask_find {kt : TypeId} (heq : ∀ a b, pureVal P (Op.equal kt (kv a) (kv b)) = some (decide (b = a))) (a : α) : ∀ {M : List (α × β)} {es : List MapEntry} (i : Nat), MapIs kv uv M es → 
    (pureVal P (Instr.findAsking kt (kv a) (es.map bareE) i)).map (fun r => r.map (·.1)) = some ((M.findIdx? fun m => decide (m.1 = a)).map (· + i))
  | [], es, i, h => by
    rw [h.nil_inv]
    simp [Instr.findAsking, pv_pure]
  | m :: M, es, i, h => by
    obtain ⟨e, fs, rfl, h1, h2, h3⟩ := h.cons_inv
    have hb : (bareE e).key = kv m.1 := by rw [← h1]; rfl
    simp only [List.map_cons, Instr.findAsking, pureVal_bind, hb, heq, Option.bind_some, List.findIdx?_cons]
    by_cases hm : m.1 = a
    · simp [hm, pv_pure]
    · have := ask_find heq a (i + 1) h3
      simp only [hm, decide_false, Bool.false_eq_true, if_false, this]
      simp [Option.map_map, Function.comp_def, Nat.add_assoc, Nat.add_comm 1 i]
end
end Go.Proofs.Ytmobpbhbllhdcaa.Ideal
end
noncomputable section
namespace Go.Proofs.Ytmobpbhbllhdcaa.Ideal
open Go.RowKit
set_option linter.unusedVariables false
set_option linter.unusedSimpArgs false
set_option linter.unnecessarySimpa false
set_option linter.unusedSectionVars false
variable {P : Program} {α β : Type} [DecidableEq α] {kv : α → Value} {uv : β → Value}
/-- A key's type is understood. -/
structure KeyT (P : Program) (kt : TypeId) (kv : α → Value) : Prop where
  plain : ∀ a, plainV (kv a) = true
  checked : ∀ b a, keyChecked P b kt (kv a) = true
  bits : ∀ a, Instr.sameBits 10000 (kv a) (kv a) = true
  find : ∀ {β : Type} {uv : β → Value} (a : α) {M : List (α × β)} {es : List MapEntry}, MapIs kv uv M es → ifind P kt (kv a) es = some (M.findIdx? fun m => decide (m.1 = a))
theorem KeyT.of_struct {kt : TypeId} {d : TypeDesc} (hu : P.underlying kt = some d) (hno : ∀ a b, Instr.sameNow d (kv a) (kv b) = none) (heq : ∀ a b, pureVal P (Op.equal kt (kv a) (kv b)) = some (decide (b = a)))
    (h1 : ∀ a, plainV (kv a) = true) (h2 : ∀ b a, keyChecked P b kt (kv a) = true) (h3 : ∀ a, Instr.sameBits 10000 (kv a) (kv a) = true) : KeyT P kt kv := by
  refine ⟨h1, h2, h3, fun {β uv} a {M es} hM => ?_⟩
  unfold ifind Instr.findKey
  rw [pureVal_bind, pv_under hu]
  simp only [Option.bind_some]
  cases M with
  | nil =>
    rw [hM.nil_inv]
    simp [Instr.findNow, pv_pure]
  | cons m M =>
    obtain ⟨e, fs, rfl, g1, g2, g3⟩ := hM.cons_inv
    have hb : (bareE e).key = kv m.1 := by rw [← g1]; rfl
    have hn : Instr.findNow d (kv a) ((e :: fs).map bareE) 0 = none := by simp [Instr.findNow, hb, hno]
    rw [hn]
    have := ask_find (uv := uv) heq a 0 hM
    simpa using this
theorem findNow_int {k : IntKind} {d : IntKind} (a : Int) : ∀ {M : List (Int × β)} {es : List MapEntry} (i : Nat), MapIs (fun n => .int k n) uv M es →
    (Instr.findNow (.int d) (.int k a) (es.map bareE) i).map (fun r => r.map (·.1)) = some ((M.findIdx? fun m => decide (m.1 = a)).map (· + i))
  | [], es, i, h => by rw [h.nil_inv]; simp [Instr.findNow]
  | m :: M, es, i, h => by
    obtain ⟨e, fs, rfl, h1, h2, h3⟩ := h.cons_inv
    have hb : (bareE e).key = .int k m.1 := by rw [← h1]; rfl
    simp only [List.map_cons, Instr.findNow, hb, Instr.sameNow, if_true, List.findIdx?_cons]
    by_cases hm : m.1 = a
    · simp [hm]
    · have := findNow_int (d := d) a (i + 1) h3
      have e1 : (a == m.1) = false := by simpa using fun h => hm h.symm
      simp only [hm, decide_false, Bool.false_eq_true, if_false, e1, this]
      simp [Option.map_map, Function.comp_def, Nat.add_assoc, Nat.add_comm 1 i]
theorem KeyT.of_int {kt : TypeId} {k d : IntKind} (hu : P.underlying kt = some (.int d)) (h2 : ∀ b a, keyChecked P b kt (.int k a) = true) : KeyT P kt (fun n : Int => Value.int k n) := by
  refine ⟨fun a => rfl, h2, fun a => by simp [Instr.sameBits], fun {β uv} a {M es} hM => ?_⟩
  unfold ifind Instr.findKey
  rw [pureVal_bind, pv_under hu]
  simp only [Option.bind_some]
  have := findNow_int (d := d) a 0 hM
  cases hn : Instr.findNow (.int d) (.int k a) (es.map bareE) 0 with
  | none => rw [hn] at this; simp at this
  | some r =>
    rw [hn] at this
    simp only [Option.map_some, Nat.add_zero, Option.map_id', Option.some.injEq] at this
    simp [pv_pure, this]
theorem MapIs.plain {kt : TypeId} (K : KeyT P kt kv) : ∀ {M : List (α × β)} {es : List MapEntry}, MapIs kv uv M es → keysPlain es = true
  | [], es, h => by rw [h.nil_inv]; rfl
  | m :: M, es, h => by
    obtain ⟨e, fs, rfl, h1, h2, h3⟩ := h.cons_inv
    have := MapIs.plain K h3
    unfold keysPlain at this ⊢
    simp [h1, K.plain, this]
theorem MapIs.get {M : List (α × β)} {es : List MapEntry} (h : MapIs kv uv M es) {j : Nat} {m : α × β} (hm : M[j]? = some m) : ∃ e, es[j]? = some e ∧ e.key = kv m.1 ∧ e.val = uv m.2 := by
  have := congrArg (·[j]?) h
  simp only [List.getElem?_map, hm, Option.map_some] at this
  obtain ⟨e, he, h2⟩ := Option.map_eq_some_iff.mp this
  simp only [Prod.mk.injEq] at h2
  exact ⟨e, he, h2.1, h2.2⟩
theorem alGet_idx (a : α) : ∀ (M : List (α × β)), match M.findIdx? fun m => decide (m.1 = a) with
    | some j => ∃ m, M[j]? = some m ∧ m.1 = a ∧ alGet M a = some m.2
    | none => alGet M a = none
  | [] => by simp [alGet]
  | m :: M => by
    have ih := alGet_idx a M
    simp only [List.findIdx?_cons]
    by_cases hm : m.1 = a
    · simp [hm, alGet]
    · simp only [hm, decide_false, Bool.false_eq_true, if_false]
      cases hf : M.findIdx? (fun m => decide (m.1 = a)) with
      | none =>
        rw [hf] at ih
        simp only [alGet, Option.map_eq_none_iff] at ih ⊢
        simp [hm, ih]
      | some j =>
        rw [hf] at ih
        obtain ⟨m', g1, g2, g3⟩ := ih
        simp only [Option.map_some]
        refine ⟨m', by simpa using g1, g2, ?_⟩
        simp only [alGet] at g3 ⊢
        simp [hm, g3]
theorem lookup_al {kt et t : TypeId} (K : KeyT P kt kv) (hmo : mapOf P t = some (kt, et)) {z : Value} (hz : zeroV P et = some z) {h : IHeap} {i ck : Nat} {es : List MapEntry} (hg : h.get i = some (.map es ck)) {M : List (α × β)} (hM : MapIs kv uv M es) (a : α) :
    ilookup P h t (.map (some i)) (kv a) false = some ((alGet M a).elim z uv, some i) := by
  have hp := hM.plain K
  have hx := alGet_idx a M
  unfold ilookup
  simp only [hmo, hg, K.plain, hp, K.checked, Bool.and_self, if_true, K.find a hM]
  cases hf : M.findIdx? (fun m => decide (m.1 = a)) with
  | none => rw [hf] at hx; simp only at hx; simp [hz, hx]
  | some j =>
    rw [hf] at hx
    obtain ⟨m, g1, g2, g3⟩ := hx
    obtain ⟨e, g4, g5, g6⟩ := hM.get g1
    simp [g4, g6, g3]
theorem put_idx (a : α) (b : β) : ∀ (M : List (α × β)), alPut a b M = (match M.findIdx? fun m => decide (m.1 = a) with
    | some j => M.set j (a, b)
    | none => M ++ [(a, b)])
  | [] => rfl
  | m :: M => by
    have ih := put_idx a b M
    simp only [alPut, List.findIdx?_cons]
    by_cases hm : m.1 = a
    · simp [hm]
    · simp only [hm, if_false, decide_false, Bool.false_eq_true]
      rw [ih]
      cases M.findIdx? (fun m => decide (m.1 = a)) <;> simp
theorem update_al {kt et t : TypeId} (K : KeyT P kt kv) (hmo : mapOf P t = some (kt, et)) {h : IHeap} {i ck : Nat} {es : List MapEntry} (hg : h.get i = some (.map es ck)) {M : List (α × β)} (hM : MapIs kv uv M es) (a : α) (b : β) :
    ∃ es' ck', iupdate P h t (.map (some i)) (kv a) (uv b) = some (h.set i (.map es' ck')) ∧ MapIs kv uv (alPut a b M) es' := by
  have hp := hM.plain K
  have hx := alGet_idx a M
  have hy := put_idx a b M
  unfold iupdate
  simp only [hmo, hg, K.plain, hp, K.checked, Bool.and_self, if_true, K.find a hM]
  cases hf : M.findIdx? (fun m => decide (m.1 = a)) with
  | none =>
    rw [hf] at hy
    simp only at hy
    refine ⟨_, _, rfl, ?_⟩
    rw [hy]
    unfold MapIs at hM ⊢
    simp [List.map_append, hM]
  | some j =>
    rw [hf] at hx hy
    obtain ⟨m, g1, g2, g3⟩ := hx
    obtain ⟨e, g4, g5, g6⟩ := hM.get g1
    simp only at hy
    simp only [g4, g5, g2, K.bits, if_true]
    refine ⟨_, _, rfl, ?_⟩
    rw [hy]
    unfold MapIs at hM ⊢
    simp [List.map_set, hM]
theorem len_al {M : List (α × β)} {es : List MapEntry} (hM : MapIs kv uv M es) : es.length = M.length := hM.len
end Go.Proofs.Ytmobpbhbllhdcaa.Ideal
end
noncomputable section
namespace Go.Proofs.Ytmobpbhbllhdcaa.Ideal
set_option linter.unusedVariables false
set_option linter.unusedSimpArgs false
set_option linter.unnecessarySimpa false
set_option linter.unusedSectionVars false
variable {α β : Type} [DecidableEq α]
theorem alGet_put (a c : α) (b : β) : ∀ M : List (α × β), alGet (alPut a b M) c = if a = c then some b else alGet M c
  | [] => by by_cases h : a = c <;> simp [alPut, alGet, h]
  | m :: M => by
    have ih := alGet_put a c b M
    unfold alGet at ih ⊢
    simp only [alPut]
    by_cases hm : m.1 = a
    · by_cases h : a = c
      · simp [hm, h]
      · have : ¬ m.1 = c := fun e => h (hm ▸ e)
        simp [hm, h, this]
    · by_cases hc : m.1 = c
      · have h1 : ¬ a = c := fun e => hm (hc.trans e.symm)
        have h2 : ¬ c = a := fun e => h1 e.symm
        simp [hm, hc, h1, h2]
      · by_cases h : a = c
        · subst h; simp [hm]; simpa using ih
        · simp [hm, hc, h]; simpa [h] using ih
theorem alPut_new {a : α} {b : β} : ∀ {M : List (α × β)}, a ∉ M.map (·.1) → alPut a b M = M ++ [(a, b)]
  | [], _ => rfl
  | m :: M, h => by
    simp only [List.map_cons, List.mem_cons, not_or] at h
    simp [alPut, Ne.symm h.1, alPut_new h.2]
theorem alPut_keys_old {a : α} {b : β} : ∀ {M : List (α × β)}, a ∈ M.map (·.1) → (alPut a b M).map (·.1) = M.map (·.1)
  | [], h => by simp at h
  | m :: M, h => by
    by_cases hm : m.1 = a
    · simp [alPut, hm]
    · have : a ∈ M.map (·.1) := by
        simp only [List.map_cons, List.mem_cons] at h
        rcases h with h | h
        · exact absurd h.symm hm
        · exact h
      simp only [alPut, hm, if_false, List.map_cons, alPut_keys_old this]
theorem alPut_all {a : α} {b : β} {p : α × β → Prop} (hp : p (a, b)) : ∀ {M : List (α × β)}, (∀ g ∈ M, p g) → ∀ g ∈ alPut a b M, p g
  | [], _, g, hg => by
    simp only [alPut, List.mem_singleton] at hg
    exact hg ▸ hp
  | m :: M, h, g, hg => by
    by_cases hm : m.1 = a
    · simp only [alPut, hm, if_true, List.mem_cons] at hg
      rcases hg with rfl | hg
      · exact hp
      · exact h g (List.mem_cons_of_mem _ hg)
    · simp only [alPut, hm, if_false, List.mem_cons] at hg
      rcases hg with rfl | hg
      · exact h _ List.mem_cons_self
      · exact alPut_all hp (fun g hg => h g (List.mem_cons_of_mem _ hg)) g hg
/-- Among the keys of a map all of whose values are true. -/
theorem alGet_true {M : List (α × Bool)} (h : ∀ g ∈ M, g.2 = true) (a : α) : alGet M a = if a ∈ M.map (·.1) then some true else none := by
  induction M with
  | nil => simp [alGet]
  | cons m M ih =>
    have ih := ih (fun g hg => h g (List.mem_cons_of_mem _ hg))
    have hm := h m List.mem_cons_self
    unfold alGet at ih ⊢
    by_cases e : m.1 = a
    · simp [e, hm]
    · have e2 : ¬ a = m.1 := fun x => e x.symm
      simp only [List.find?_cons, e, decide_false, List.map_cons, List.mem_cons, e2, false_or]
      exact ih
end Go.Proofs.Ytmobpbhbllhdcaa.Ideal
end
noncomputable section
namespace Go.Proofs.Ytmobpbhbllhdcaa.Ideal
open Go.RowKit
set_option linter.unusedVariables false
set_option linter.unusedSimpArgs false
set_option linter.unnecessarySimpa false
theorem envOf_arr (e : XEnv) : (envOf e.arr.toList e.arr.toList.length).n = e.n ∧ (envOf e.arr.toList e.arr.toList.length).dfr = [] ∧ ∀ t, (envOf e.arr.toList e.arr.toList.length).get t = e.get t := by
  have h1 := envOf_rel e.arr.toList 0
  simp only [Nat.add_zero, List.replicate_zero, List.append_nil, Array.toArray_toList] at h1
  have h2 := XEnv.act_rel e
  refine ⟨?_, rfl, fun t => ?_⟩
  · rw [← h1.size, ← h2.size]; rfl
  · rw [← h1.get t, ← h2.get t]; rfl
theorem roundE_one (e : XEnv) {t0 : Tmp} {L : Loop} (hL : L.params = #[t0]) (hT : L.tmps = e.arr) (v : Value) : ∃ r : XEnv, roundE L #[v] = r.put (some t0) v ∧ r.n = e.n ∧ r.dfr = [] ∧ ∀ t, r.get t = e.get t := by
  obtain ⟨h1, h2, h3⟩ := envOf_arr e
  refine ⟨_, ?_, h1, h2, h3⟩
  unfold roundE
  rw [hL, hT, show (#[t0].zip #[v]).toList = [(t0, v)] by simp]
  rfl
theorem roundE_two (e : XEnv) {t0 t1 : Tmp} {L : Loop} (hL : L.params = #[t0, t1]) (hT : L.tmps = e.arr) (v u : Value) : ∃ r : XEnv, roundE L #[v, u] = (r.put (some t0) v).put (some t1) u ∧ r.n = e.n ∧ r.dfr = [] ∧ ∀ t, r.get t = e.get t := by
  obtain ⟨h1, h2, h3⟩ := envOf_arr e
  refine ⟨_, ?_, h1, h2, h3⟩
  unfold roundE
  rw [hL, hT, show (#[t0, t1].zip #[v, u]).toList = [(t0, v), (t1, u)] by simp]
  rfl
theorem WPR.gen {P : Program} {rd : Option Nat} {g : Operand} {ps : Array Tmp} {assign body : Code} {e : XEnv} {h : IHeap} {Q : Hid XQ} (x : ∀ E H, E = e → H = h → WPR P rd g ps assign body E H (Q := Q)) : WPR P rd g ps assign body e h (Q := Q) := x e h rfl rfl
theorem WPR.intro2 {P : Program} {g : Operand} {ps : Array Tmp} {assign body : Code} {e : XEnv} {h : IHeap} {Q : Hid XQ} {f : FuncId} {fs cs : Array Value} (hok : operandOk g = true) (hg : e.ev g = .func (.func f) fs cs) (hf : fnB P f = true) {args : Array Value} (ha : args = fs ++ #[.func (.yield (h.size + 1)) #[] #[]] ++ cs)
    (hx : ∀ L : Loop, L.params = ps → L.tmps = e.arr → L.assign = assign → L.body = body → L.state = .ready → L.pending = none → FN P f args ((h.push .defs).push (.loop L)) (Q := ⟨fun _ h3 => rngQ Q e (h.size + 1) h.size h3⟩)) : WPR P none g ps assign body e h (Q := Q) :=
  WPR.intro hok hg hf (by rw [← ha]; exact hx _ rfl rfl rfl rfl rfl rfl)
/-- A round: assign, then body, in frames that are known. -/
theorem RN.one {P : Program} (hm : P.follows .mixedOrders = true) {l : Nat} {v : Value} {h : IHeap} {Q : Hid VQ} {L : Loop} {t0 : Tmp} {E : XEnv} {A B : Code} (hg : h.get l = some (.loop L)) (hp : L.params = #[t0]) (ht : L.tmps = E.arr) (hA : L.assign = A) (hB : L.body = B) (ha : codeOk A = true) (hb : codeOk B = true)
    (hx : ∀ r : XEnv, r.n = E.n → r.dfr = [] → (∀ t, r.get t = E.get t) → WP P (some l) A (r.put (some t0) v) h (Q := ⟨assignQ P l B Q⟩)) : RN P l #[v] h (Q := Q) := by
  subst hA; subst hB
  obtain ⟨r, h1, h2, h3, h4⟩ := roundE_one E hp ht v
  exact RN.intro hm hg (by rw [hp]; rfl) ha hb (by rw [h1]; exact hx r h2 h3 h4)
theorem RN.two {P : Program} (hm : P.follows .mixedOrders = true) {l : Nat} {v u : Value} {h : IHeap} {Q : Hid VQ} {L : Loop} {t0 t1 : Tmp} {E : XEnv} {A B : Code} (hg : h.get l = some (.loop L)) (hp : L.params = #[t0, t1]) (ht : L.tmps = E.arr) (hA : L.assign = A) (hB : L.body = B) (ha : codeOk A = true) (hb : codeOk B = true)
    (hx : ∀ r : XEnv, r.n = E.n → r.dfr = [] → (∀ t, r.get t = E.get t) → WP P (some l) A ((r.put (some t0) v).put (some t1) u) h (Q := ⟨assignQ P l B Q⟩)) : RN P l #[v, u] h (Q := Q) := by
  subst hA; subst hB
  obtain ⟨r, h1, h2, h3, h4⟩ := roundE_two E hp ht v u
  exact RN.intro hm hg (by rw [hp]; rfl) ha hb (by rw [h1]; exact hx r h2 h3 h4)
theorem finD_one {P : Program} {rs : List ResultVar} {Q : VQ} {e : XEnv} {h : IHeap} {b : Nat} (hb : h.get b = some .defs) : finD P rs Q [markOf b] e h = atSome (iresultsE P e.get (h.set b .dead) rs) (K := ⟨fun v => Q v (h.set b .dead)⟩) := by
  have : marksOf [markOf b] = some [b] := by simp [marksOf, markOf]
  simp only [finD, this, closeMarks, hb]
  cases iresultsE P e.get (h.set b .dead) rs <;> rfl
theorem dfr_get (e : XEnv) (d : List Deferred) (t : Nat) : ({ e with dfr := d } : XEnv).get t = e.get t := by rw [XEnv.get_def, XEnv.get_def]
theorem XEnv.withd (e : XEnv) (d : List Deferred) : ∃ E : XEnv, ({ n := e.n, t := e.t, dfr := d } : XEnv) = E ∧ E.n = e.n ∧ E.dfr = d ∧ ∀ t, E.get t = e.get t := ⟨_, rfl, rfl, rfl, dfr_get e d⟩
theorem one_slc (a : Option Addr) (n c : Nat) : (Value.slice a n c).oneCell' = true := byEq rfl
theorem one_bool (b : Bool) : (Value.bool b).oneCell' = true := byEq rfl
theorem one_ptr (a : Option Addr) : (Value.pointer a).oneCell' = true := byEq rfl
theorem one_map (a : Option Nat) : (Value.map a).oneCell' = true := byEq rfl
theorem one_str (s : ByteArray) : (Value.string s).oneCell' = true := byEq rfl
end Go.Proofs.Ytmobpbhbllhdcaa.Ideal
end
noncomputable section
namespace Go.Proofs.Ytmobpbhbllhdcaa.Ideal
open Go.RowKit
set_option linter.unusedVariables false
set_option linter.unusedSimpArgs false
set_option linter.unnecessarySimpa false
variable {P : Program}
/-- A field, its two values, and whether they are equal. -/
structure EqF (P : Program) (d : Nat) (xs ys : Array Value) (f : Field) (b : Bool) : Prop where
  name : f.name ≠ "_"
  val : ∃ x y, pureVal P (part f.type xs f.offset) = some x ∧ pureVal P (part f.type ys f.offset) = some y ∧ pureVal P (Op.equalIn d f.type x y) = some b
inductive EqFs (P : Program) (d : Nat) (xs ys : Array Value) : List Field → List Bool → Prop
  | nil : EqFs P d xs ys [] []
  | cons {f : Field} {b : Bool} {fs : List Field} {bs : List Bool} : EqF P d xs ys f b → EqFs P d xs ys fs bs → EqFs P d xs ys (f :: fs) (b :: bs)
theorem pv_eqStructL (d : Nat) (t : TypeId) (fs : List Field) (xs ys : Array Value) (bs : List Bool) (h : P.underlying t = some (.struct ⟨fs⟩)) (hp : P.stoodInHeld t = false) (hf : EqFs P d xs ys fs bs) :
    pureVal P (Op.equalIn (d + 1) t (.agg xs) (.agg ys)) = some (bs.all id) := by
  simp only [Op.equalIn]
  rw [pureVal_bind, pv_under h]
  simp only [Option.bind_some]
  rw [pureVal_bind, pv_program]
  simp only [Option.bind_some, hp, Bool.false_eq_true, if_false]
  rw [← Array.forIn_toList]
  clear h
  induction hf with
  | nil => simp [pv_pure, pureVal_bind]
  | @cons f b fs bs hh ht ih =>
    obtain ⟨hn, x, y, h1, h2, h3⟩ := hh
    simp only [List.forIn_cons, hn, ne_eq, not_false_eq_true, if_true, pureVal_bind, h1, h2, h3, Option.bind_some]
    cases b
    · simp [pureVal_bind, pv_pure]
    · simp [pureVal_bind, pv_pure] at ih ⊢
      exact ih
/-- The fields of a struct type: names that count, types, places. -/
def fldsOf (P : Program) (t : TypeId) : Option (List Field) := match P.underlying t with
  | some (.struct fs) => some fs.toList
  | _ => none
theorem fldsOf_inv {t : TypeId} {fs : List Field} (h : fldsOf P t = some fs) : P.underlying t = some (.struct ⟨fs⟩) := by
  unfold fldsOf at h
  split at h
  · rename_i fs' hu
    cases h
    exact hu
  · cases h
def fldSig (f : Field) : Bool × TypeId × Nat := (f.name != "_", f.type, f.offset)
/-- Structs of whole numbers, one behind the other. -/
theorem EqFs.ints {d : Nat} {xs ys : Array Value} : ∀ {fs : List Field} {i : Nat} {L : List (TypeId × IntKind × Int × Int)}, fs.map fldSig = (L.zipIdx i).map (fun p => (true, p.1.1, p.2)) →
    (∀ p ∈ L, P.underlying p.1 = some (.int p.2.1) ∧ pureVal P (isAgg p.1) = some false) → (∀ (j : Nat) p, L[j]? = some p → xs[i + j]? = some (.int p.2.1 p.2.2.1) ∧ ys[i + j]? = some (.int p.2.1 p.2.2.2)) →
    EqFs P (d + 1) xs ys fs (L.map fun p => p.2.2.1 == p.2.2.2)
  | [], i, [], _, _, _ => .nil
  | [], i, p :: L, h, _, _ => by simp at h
  | f :: fs, i, [], h, _, _ => by simp at h
  | f :: fs, i, p :: L, h, hu, hv => by
    simp only [List.map_cons, List.zipIdx_cons, List.cons.injEq, fldSig, Prod.mk.injEq, bne_iff_ne, ne_eq] at h
    obtain ⟨⟨h1, h2, h3⟩, h4⟩ := h
    obtain ⟨u1, u2⟩ := hu p (by simp)
    obtain ⟨v1, v2⟩ := hv 0 p rfl
    refine .cons ⟨h1, .int p.2.1 p.2.2.1, .int p.2.1 p.2.2.2, ?_, ?_, ?_⟩ (EqFs.ints (i := i + 1) h4 (fun q hq => hu q (by simp [hq])) (fun j q hq => ?_))
    · rw [h2, h3]; exact pv_isAgg u1 _ u2 rfl _ _ _ (by simpa using v1)
    · rw [h2, h3]; exact pv_isAgg u1 _ u2 rfl _ _ _ (by simpa using v2)
    · rw [h2]; exact pv_eqInt d p.1 p.2.1 p.2.1 _ _ u1
    · have := hv (j + 1) q (by simpa using hq)
      rw [show i + 1 + j = i + (j + 1) by omega]
      exact this
/-- Whether two structs of whole numbers are equal. -/
theorem pv_eqInts {t : TypeId} {fs : List Field} (hf : fldsOf P t = some fs) (hp : P.stoodInHeld t = false) (L : List (TypeId × IntKind × Int × Int)) (hs : fs.map fldSig = L.zipIdx.map (fun p => (true, p.1.1, p.2))) (hu : ∀ p ∈ L, P.underlying p.1 = some (.int p.2.1) ∧ pureVal P (isAgg p.1) = some false) :
    pureVal P (Op.equal t (.agg ⟨L.map fun p => .int p.2.1 p.2.2.1⟩) (.agg ⟨L.map fun p => .int p.2.1 p.2.2.2⟩)) = some (L.all fun p => p.2.2.1 == p.2.2.2) := by
  have := pv_eqStructL (P := P) 9999 t fs ⟨L.map fun p => .int p.2.1 p.2.2.1⟩ ⟨L.map fun p => .int p.2.1 p.2.2.2⟩ _ (fldsOf_inv hf) hp (EqFs.ints (d := 9998) (i := 0) hs hu (fun j p hj => by simp [hj]))
  show pureVal P (Op.equalIn 10000 t _ _) = _
  rw [this]
  congr 1
  rw [List.all_map]; rfl
theorem aggEq_ints {t : TypeId} {fs : List Field} (hf : fldsOf P t = some fs) (hp : P.stoodInHeld t = false) (hg : P.eqGuardType P.depth t = false) (L : List (TypeId × IntKind × Int × Int)) (hs : fs.map fldSig = L.zipIdx.map (fun p => (true, p.1.1, p.2))) (hu : ∀ p ∈ L, P.underlying p.1 = some (.int p.2.1) ∧ pureVal P (isAgg p.1) = some false) :
    aggEq P t .eql (.agg ⟨L.map fun p => .int p.2.1 p.2.2.1⟩) (.agg ⟨L.map fun p => .int p.2.1 p.2.2.2⟩) = some (.bool (L.all fun p => p.2.2.1 == p.2.2.2)) ∧ aggEq P t .neq (.agg ⟨L.map fun p => .int p.2.1 p.2.2.1⟩) (.agg ⟨L.map fun p => .int p.2.1 p.2.2.2⟩) = some (.bool (!(L.all fun p => p.2.2.1 == p.2.2.2))) := by
  have h := pv_eqInts hf hp L hs hu
  have p1 : ∀ g : TypeId × IntKind × Int × Int → Int, plainV (.agg ⟨L.map fun p => .int p.2.1 (g p)⟩) = true := fun g => by
    simp [plainV, scal]
  constructor
  · unfold aggEq
    rw [if_pos ⟨hg, p1 (fun p => p.2.2.1), p1 (fun p => p.2.2.2)⟩]
    simp only [h, Option.map_some]
  · unfold aggEq
    rw [if_pos ⟨hg, p1 (fun p => p.2.2.1), p1 (fun p => p.2.2.2)⟩]
    simp only [h, Option.map_some]
end Go.Proofs.Ytmobpbhbllhdcaa.Ideal
end
