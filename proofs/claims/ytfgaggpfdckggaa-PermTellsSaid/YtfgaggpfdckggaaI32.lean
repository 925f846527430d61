/- Maps as lists of keys and values: lookup and update. -/
import Derived.Test.YtfgaggpfdckggaaI31
noncomputable section
namespace Go.Proofs.Ytfgaggpfdckggaa.Ideal
open Go.RowKit
set_option linter.unusedVariables false
set_option linter.unusedSimpArgs false
set_option linter.unnecessarySimpa false
set_option linter.unusedSectionVars false
variable {P : Program} {α β : Type} [DecidableEq α] {kv : α → Value} {uv : β → Value}
/-- A key's type is understood. -/
structure KeyT (P : Program) (kt : TypeId) (kv : α → Value) : Prop where
  plain : ∀ a, plainV (kv a) = true
  checked : ∀ b a, keyChecked P b kt (kv a) = true
  bits : ∀ a, Instr.sameBits 10000 (kv a) (kv a) = true
  find : ∀ {β : Type} {uv : β → Value} (a : α) {M : List (α × β)} {es : List MapEntry}, MapIs kv uv M es → ifind P kt (kv a) es = some (M.findIdx? fun m => decide (m.1 = a))
theorem KeyT.of_struct {kt : TypeId} {d : TypeDesc} (hu : P.underlying kt = some d) (hno : ∀ a b, Instr.sameNow d (kv a) (kv b) = none) (heq : ∀ a b, pureVal P (Op.equal kt (kv a) (kv b)) = some (decide (b = a)))
    (h1 : ∀ a, plainV (kv a) = true) (h2 : ∀ b a, keyChecked P b kt (kv a) = true) (h3 : ∀ a, Instr.sameBits 10000 (kv a) (kv a) = true) : KeyT P kt kv := by
  refine ⟨h1, h2, h3, fun {β uv} a {M es} hM => ?_⟩
  unfold ifind Instr.findKey
  rw [pureVal_bind, pv_under hu]
  simp only [Option.bind_some]
  cases M with
  | nil =>
    rw [hM.nil_inv]
    simp [Instr.findNow, pv_pure]
  | cons m M =>
    obtain ⟨e, fs, rfl, g1, g2, g3⟩ := hM.cons_inv
    have hb : (bareE e).key = kv m.1 := by rw [← g1]; rfl
    have hn : Instr.findNow d (kv a) ((e :: fs).map bareE) 0 = none := by simp [Instr.findNow, hb, hno]
    rw [hn]
    have := ask_find (uv := uv) heq a 0 hM
    simpa using this
theorem findNow_int {k : IntKind} {d : IntKind} (a : Int) : ∀ {M : List (Int × β)} {es : List MapEntry} (i : Nat), MapIs (fun n => .int k n) uv M es →
    (Instr.findNow (.int d) (.int k a) (es.map bareE) i).map (fun r => r.map (·.1)) = some ((M.findIdx? fun m => decide (m.1 = a)).map (· + i))
  | [], es, i, h => by rw [h.nil_inv]; simp [Instr.findNow]
  | m :: M, es, i, h => by
    obtain ⟨e, fs, rfl, h1, h2, h3⟩ := h.cons_inv
    have hb : (bareE e).key = .int k m.1 := by rw [← h1]; rfl
    simp only [List.map_cons, Instr.findNow, hb, Instr.sameNow, if_true, List.findIdx?_cons]
    by_cases hm : m.1 = a
    · simp [hm]
    · have := findNow_int (d := d) a (i + 1) h3
      have e1 : (a == m.1) = false := by simpa using fun h => hm h.symm
      simp only [hm, decide_false, Bool.false_eq_true, if_false, e1, this]
      simp [Option.map_map, Function.comp_def, Nat.add_assoc, Nat.add_comm 1 i]
theorem KeyT.of_int {kt : TypeId} {k d : IntKind} (hu : P.underlying kt = some (.int d)) (h2 : ∀ b a, keyChecked P b kt (.int k a) = true) : KeyT P kt (fun n : Int => Value.int k n) := by
  refine ⟨fun a => rfl, h2, fun a => by simp [Instr.sameBits], fun {β uv} a {M es} hM => ?_⟩
  unfold ifind Instr.findKey
  rw [pureVal_bind, pv_under hu]
  simp only [Option.bind_some]
  have := findNow_int (d := d) a 0 hM
  cases hn : Instr.findNow (.int d) (.int k a) (es.map bareE) 0 with
  | none => rw [hn] at this; simp at this
  | some r =>
    rw [hn] at this
    simp only [Option.map_some, Nat.add_zero, Option.map_id', Option.some.injEq] at this
    simp [pv_pure, this]
theorem MapIs.plain {kt : TypeId} (K : KeyT P kt kv) : ∀ {M : List (α × β)} {es : List MapEntry}, MapIs kv uv M es → keysPlain es = true
  | [], es, h => by rw [h.nil_inv]; rfl
  | m :: M, es, h => by
    obtain ⟨e, fs, rfl, h1, h2, h3⟩ := h.cons_inv
    have := MapIs.plain K h3
    unfold keysPlain at this ⊢
    simp [h1, K.plain, this]
theorem MapIs.get {M : List (α × β)} {es : List MapEntry} (h : MapIs kv uv M es) {j : Nat} {m : α × β} (hm : M[j]? = some m) : ∃ e, es[j]? = some e ∧ e.key = kv m.1 ∧ e.val = uv m.2 := by
  have := congrArg (·[j]?) h
  simp only [List.getElem?_map, hm, Option.map_some] at this
  obtain ⟨e, he, h2⟩ := Option.map_eq_some_iff.mp this
  simp only [Prod.mk.injEq] at h2
  exact ⟨e, he, h2.1, h2.2⟩
theorem alGet_idx (a : α) : ∀ (M : List (α × β)), match M.findIdx? fun m => decide (m.1 = a) with
    | some j => ∃ m, M[j]? = some m ∧ m.1 = a ∧ alGet M a = some m.2
    | none => alGet M a = none
  | [] => by simp [alGet]
  | m :: M => by
    have ih := alGet_idx a M
    simp only [List.findIdx?_cons]
    by_cases hm : m.1 = a
    · simp [hm, alGet]
    · simp only [hm, decide_false, Bool.false_eq_true, if_false]
      cases hf : M.findIdx? (fun m => decide (m.1 = a)) with
      | none =>
        rw [hf] at ih
        simp only [alGet, Option.map_eq_none_iff] at ih ⊢
        simp [hm, ih]
      | some j =>
        rw [hf] at ih
        obtain ⟨m', g1, g2, g3⟩ := ih
        simp only [Option.map_some]
        refine ⟨m', by simpa using g1, g2, ?_⟩
        simp only [alGet] at g3 ⊢
        simp [hm, g3]
theorem lookup_al {kt et t : TypeId} (K : KeyT P kt kv) (hmo : mapOf P t = some (kt, et)) {z : Value} (hz : zeroV P et = some z) {h : IHeap} {i ck : Nat} {es : List MapEntry} (hg : h.get i = some (.map es ck)) {M : List (α × β)} (hM : MapIs kv uv M es) (a : α) :
    ilookup P h t (.map (some i)) (kv a) false = some ((alGet M a).elim z uv, some i) := by
  have hp := hM.plain K
  have hx := alGet_idx a M
  unfold ilookup
  simp only [hmo, hg, K.plain, hp, K.checked, Bool.and_self, if_true, K.find a hM]
  cases hf : M.findIdx? (fun m => decide (m.1 = a)) with
  | none => rw [hf] at hx; simp only at hx; simp [hz, hx]
  | some j =>
    rw [hf] at hx
    obtain ⟨m, g1, g2, g3⟩ := hx
    obtain ⟨e, g4, g5, g6⟩ := hM.get g1
    simp [g4, g6, g3]
theorem put_idx (a : α) (b : β) : ∀ (M : List (α × β)), alPut a b M = (match M.findIdx? fun m => decide (m.1 = a) with
    | some j => M.set j (a, b)
    | none => M ++ [(a, b)])
  | [] => rfl
  | m :: M => by
    have ih := put_idx a b M
    simp only [alPut, List.findIdx?_cons]
    by_cases hm : m.1 = a
    · simp [hm]
    · simp only [hm, if_false, decide_false, Bool.false_eq_true]
      rw [ih]
      cases M.findIdx? (fun m => decide (m.1 = a)) <;> simp
theorem update_al {kt et t : TypeId} (K : KeyT P kt kv) (hmo : mapOf P t = some (kt, et)) {h : IHeap} {i ck : Nat} {es : List MapEntry} (hg : h.get i = some (.map es ck)) {M : List (α × β)} (hM : MapIs kv uv M es) (a : α) (b : β) :
    ∃ es' ck', iupdate P h t (.map (some i)) (kv a) (uv b) = some (h.set i (.map es' ck')) ∧ MapIs kv uv (alPut a b M) es' := by
  have hp := hM.plain K
  have hx := alGet_idx a M
  have hy := put_idx a b M
  unfold iupdate
  simp only [hmo, hg, K.plain, hp, K.checked, Bool.and_self, if_true, K.find a hM]
  cases hf : M.findIdx? (fun m => decide (m.1 = a)) with
  | none =>
    rw [hf] at hy
    simp only at hy
    refine ⟨_, _, rfl, ?_⟩
    rw [hy]
    unfold MapIs at hM ⊢
    simp [List.map_append, hM]
  | some j =>
    rw [hf] at hx hy
    obtain ⟨m, g1, g2, g3⟩ := hx
    obtain ⟨e, g4, g5, g6⟩ := hM.get g1
    simp only at hy
    simp only [g4, g5, g2, K.bits, if_true]
    refine ⟨_, _, rfl, ?_⟩
    rw [hy]
    unfold MapIs at hM ⊢
    simp [List.map_set, hM]
theorem len_al {M : List (α × β)} {es : List MapEntry} (hM : MapIs kv uv M es) : es.length = M.length := hM.len
end Go.Proofs.Ytfgaggpfdckggaa.Ideal
