/- The ideal heap: I25. Weakest conditions on the ideal heap: what is asked ahead of a piece of code, so that it comes to what is asked behind it. -/
import Derived.Test.YtmobpbhbllhdcaaI24
import Derived.Laws.StructEq
noncomputable section
namespace Go.Proofs.Ytmobpbhbllhdcaa.Ideal
open Go.RowKit
set_option linter.unusedVariables false
set_option linter.unusedSimpArgs false
set_option linter.unnecessarySimpa false

/-- (Nothing is asked of the loops' records here.) -/
def TOk (_ : IHeap) : Prop := True
theorem TOk.push {h : IHeap} (hk : TOk h) {o : IObj} (ho : ∀ L, o = .loop L → codeOk L.assign = true ∧ codeOk L.body = true) : TOk (h.push o) := trivial
theorem TOk.set {h : IHeap} (hk : TOk h) {i : Nat} {o : IObj} (hi : i < h.size) (ho : ∀ L, o = .loop L → codeOk L.assign = true ∧ codeOk L.body = true) : TOk (h.set i o) := trivial
theorem icopy_growT {P : Program} {t : TypeId} {d x v : Value} {h h' : IHeap} (hu : icopy P h t d x = some (v, h')) (hk : TOk h) : Grow h h' ∧ TOk h' := by
  unfold icopy at hu
  split at hu
  · cases hu
  split at hu
  · cases hu
  split at hu
  · cases hu; exact ⟨Grow.refl _, hk⟩
  · split at hu
    · cases hu; exact ⟨Grow.refl _, hk⟩
    · split at hu
      · rename_i esz cs hg
        split at hu
        · cases hu
          exact ⟨Grow.set hg rfl (by simp), hk.set (IHeap.get_lt hg) (fun L e => by cases e)⟩
        · cases hu
      · cases hu
  · cases hu; exact ⟨Grow.refl _, hk⟩
  · cases hu
theorem iupdate_growT {P : Program} {t : TypeId} {x k u : Value} {h h' : IHeap} (hu : iupdate P h t x k u = some h') (hk : TOk h) : Grow h h' ∧ TOk h' := by
  unfold iupdate at hu
  split at hu
  · split at hu
    · rename_i es ck hg
      split at hu
      · split at hu
        · split at hu
          · split at hu
            · cases hu
              exact ⟨Grow.set hg rfl (by simp), hk.set (IHeap.get_lt hg) (fun L e => by cases e)⟩
            · cases hu
          · cases hu
        · cases hu
          exact ⟨Grow.set hg rfl (by simp), hk.set (IHeap.get_lt hg) (fun L e => by cases e)⟩
        · cases hu
      · cases hu
    · cases hu
  · cases hu
theorem idelete_growT {P : Program} {t : TypeId} {x k : Value} {h h' : IHeap} (hu : idelete P h t x k = some h') (hk : TOk h) : Grow h h' ∧ TOk h' := by
  unfold idelete at hu
  split at hu
  · split at hu
    · rename_i es ck hg
      split at hu
      · split at hu
        · cases hu
          exact ⟨Grow.set hg rfl (by simp), hk.set (IHeap.get_lt hg) (fun L e => by cases e)⟩
        · cases hu
          exact ⟨Grow.set hg rfl (by simp), hk.set (IHeap.get_lt hg) (fun L e => by cases e)⟩
        · cases hu
      · cases hu
    · cases hu
  · cases hu
theorem irange_growT {P : Program} {t : TypeId} {x v : Value} {h h' : IHeap} (hu : irange P h t x = some (v, h')) (hk : TOk h) : Grow h h' ∧ TOk h' := by
  unfold irange at hu
  split at hu
  · rw [pushH_eq] at hu
    cases hu
    exact ⟨Grow.push _ _, hk.push (fun L e => by cases e)⟩
  · split at hu
    · rw [pushH_eq] at hu
      cases hu
      exact ⟨Grow.push _ _, hk.push (fun L e => by cases e)⟩
    · cases hu
  · cases hu
theorem inext_growT {x v : Value} {h h' : IHeap} (hu : inext h x = some (v, h')) (hk : TOk h) : Grow h h' ∧ TOk h' := by
  unfold inext at hu
  split at hu
  · split at hu
    · cases hu; exact ⟨Grow.refl _, hk⟩
    · rename_i m since seen last hg
      split at hu
      · split at hu
        · cases hu
        · split at hu
          · cases hu; exact ⟨Grow.refl _, hk⟩
          · split at hu
            · rw [setH_eq] at hu
              cases hu
              exact ⟨Grow.set hg rfl (by simp), hk.set (IHeap.get_lt hg) (fun L e => by cases e)⟩
            · cases hu
          · cases hu
      · cases hu
    · cases hu
  · cases hu
theorem iop_growT {P : Program} {a : Act} {o : Oper} {h h' : IHeap} {v : Value} {c : Cls} (hi : iop P a.eval o h = some (v, h', c)) (hk : TOk h) : Grow h h' ∧ TOk h' := by
  have pure_case : ∀ {r}, (ipure P a.eval o).map (fun v => (v, h, Cls.pure)) = some r → r = (v, h', c) → Grow h h' ∧ TOk h' := by
    intro r hr e
    obtain ⟨u, hu, rfl⟩ := Option.map_eq_some_iff.mp hr
    cases e
    exact ⟨Grow.refl _, hk⟩
  unfold iop at hi
  split at hi
  · unfold iload at hi
    split at hi
    · split at hi
      · obtain ⟨u, hu, e⟩ := Option.map_eq_some_iff.mp hi
        cases e
        exact ⟨Grow.refl _, hk⟩
      · cases hi
    · cases hi
  · unfold istore at hi
    split at hi
    · split at hi
      · rename_i esz cs n hg hs
        split at hi
        · rw [forceL_eq, setH_eq] at hi
          cases hi
          exact ⟨Grow.set hg rfl (by simp), hk.set (IHeap.get_lt hg) (fun L e => by cases e)⟩
        · cases hi
      · cases hi
    · cases hi
  · rw [pushH_eq] at hi
    cases hi
    exact ⟨Grow.push _ _, hk.push (fun L e => by cases e)⟩
  · unfold ialloc at hi
    split at hi
    · rw [pushH_eq] at hi
      cases hi
      exact ⟨Grow.push _ _, hk.push (fun L e => by cases e)⟩
    · cases hi
  · unfold ibuildSlice at hi
    split at hi
    · split at hi
      · split at hi
        · obtain ⟨out, hf, e⟩ := Option.bind_eq_some_iff.mp hi
          rw [pushH_eq] at e
          cases e
          exact ⟨Grow.push _ _, hk.push (fun L e => by cases e)⟩
        · cases hi
      · cases hi
    · cases hi
  · unfold imakeSlice at hi
    split at hi
    · split at hi
      · split at hi
        · rw [pushH_eq] at hi
          cases hi
          exact ⟨Grow.push _ _, hk.push (fun L e => by cases e)⟩
        · cases hi
      · cases hi
    · cases hi
  · rw [pushH_eq] at hi
    cases hi
    exact ⟨Grow.push _ _, hk.push (fun L e => by cases e)⟩
  · split at hi
    · rename_i r hr
      cases hi
      unfold islice at hr
      split at hr
      · split at hr
        · split at hr
          · cases hr
            exact ⟨Grow.refl _, hk⟩
          · cases hr
        · cases hr
      · cases hr
    · exact pure_case hi rfl
  · unfold icall at hi
    split at hi
    · obtain ⟨⟨u, hu'⟩, hu, e⟩ := Option.map_eq_some_iff.mp hi
      cases e
      unfold iappend at hu
      split at hu
      · cases hu
      split at hu
      case h_2 => cases hu
      split at hu
      case h_1 => cases hu
      split at hu
      case isFalse => cases hu
      split at hu
      · split at hu
        · cases hu; exact ⟨Grow.refl _, hk⟩
        · split at hu
          · cases hu; exact ⟨Grow.push _ _, hk.push (fun L e => by cases e)⟩
          · cases hu
      · split at hu
        · cases hu; exact ⟨Grow.refl _, hk⟩
        · split at hu
          · cases hu; exact ⟨Grow.push _ _, hk.push (fun L e => by cases e)⟩
          · cases hu
      · split at hu
        · split at hu
          · cases hu; exact ⟨Grow.refl _, hk⟩
          · split at hu
            · rename_i esz cs hg
              split at hu
              · cases hu
                exact ⟨Grow.set hg rfl (by simp), hk.set (IHeap.get_lt hg) (fun L e => by cases e)⟩
              · cases hu
            · cases hu
        · split at hu
          · split at hu
            · rename_i esz cs hg
              split at hu
              · obtain ⟨olds, hsl, he⟩ := Option.map_eq_some_iff.mp hu
                cases he
                exact ⟨(Grow.set hg rfl (by simp)).trans (Grow.push _ _), (hk.set (IHeap.get_lt hg) (fun L e => by cases e)).push (fun L e => by cases e)⟩
              · cases hu
            · cases hu
          · cases hu
      · cases hu
    · obtain ⟨⟨u, hu'⟩, hu, e⟩ := Option.map_eq_some_iff.mp hi
      cases e
      exact icopy_growT hu hk
    · obtain ⟨u, hu, e⟩ := Option.map_eq_some_iff.mp hi
      cases e
      exact idelete_growT hu hk
    · split at hi
      · split at hi
        · cases hi; exact ⟨Grow.refl _, hk⟩
        · cases hi
      · exact pure_case hi rfl
    · exact pure_case hi rfl
  · obtain ⟨⟨u, r⟩, hu, e⟩ := Option.map_eq_some_iff.mp hi
    cases e
    exact ⟨Grow.refl _, hk⟩
  · obtain ⟨u, hu, e⟩ := Option.map_eq_some_iff.mp hi
    cases e
    exact iupdate_growT hu hk
  · obtain ⟨u, hu, e⟩ := Option.map_eq_some_iff.mp hi
    cases e
    exact iupdate_growT hu hk
  · rename_i src dst x ho
    split at hi
    · rename_i hc
      cases hi
      have := icvt_ok ho hc
      dsimp only at this
      obtain ⟨n, a1, a2, a3, a4⟩ := this
      subst a3
      exact ⟨Grow.push _ _, hk.push (fun L e => absurd e (a2 L))⟩
    · rename_i hc
      cases hi
      have := icvt_ok ho hc
      rw [this.1]
      exact ⟨Grow.refl _, hk⟩
    · rename_i hc
      cases hi
      have := icvt_ok ho hc
      rw [this.1]
      exact ⟨Grow.refl _, hk⟩
    · exact pure_case hi rfl
  · obtain ⟨⟨u, hu'⟩, hu, e⟩ := Option.map_eq_some_iff.mp hi
    cases e
    exact irange_growT hu hk
  · obtain ⟨⟨u, hu'⟩, hu, e⟩ := Option.map_eq_some_iff.mp hi
    cases e
    exact inext_growT hu hk
  · obtain ⟨u, hu, e⟩ := Option.map_eq_some_iff.mp hi
    cases e
    exact ⟨Grow.refl _, hk⟩
  · exact pure_case hi rfl

/-- The frame that a tree of temporaries stands for. -/
def XEnv.act (e : XEnv) : Act := { tmps := e.arr, defers := e.dfr }
theorem XEnv.act_rel (e : XEnv) : EnvRel e e.act := by
  refine ⟨by simp [XEnv.act, XEnv.arr], fun t => ?_, rfl⟩
  by_cases h : t < e.n
  · simp [XEnv.act, XEnv.arr, Array.getD_eq_getD_getElem?, h]
  · rw [XEnv.get_def, if_neg h]
    simp [XEnv.act, XEnv.arr, Array.getD_eq_getD_getElem?, h]
theorem EnvRel.act_eq {e : XEnv} {a : Act} (r : EnvRel e a) : a = e.act := by
  obtain ⟨t, d⟩ := a
  have h1 := r.arr
  have h2 := r.dfr
  simp only at h1 h2
  simp [XEnv.act, h1, h2]
theorem XEnv.act_put (e : XEnv) (d : Option Tmp) (v : Value) : e.act.put d v = (e.put d v).act := (e.act_rel.put d v).act_eq
theorem XEnv.act_eval (e : XEnv) : e.act.eval = e.ev := e.act_rel.ev

/-- What goes on behind: as an instance, so that simp does not look into it. -/
class Hid (T : Type) where
  k : T
/-- (Not by sight, for the kernel's sake.) -/
def Hid.ap {T : Type} (K : Hid T) : T := K.k
theorem byEq {α : Sort _} {a b : α} (h : a = b) : a = b := by cases h; exact Eq.refl _
theorem Hid.ap_mk {T : Type} (f : T) : Hid.ap ⟨f⟩ = f := byEq rfl
abbrev VK := Value → IHeap → Kind → Prop
abbrev VQ := Value → IHeap → Prop
abbrev XQ := Exit → XEnv → IHeap → Prop
/-- A call that comes to what Q asks. -/
def FN (P : Program) (g : FuncId) (args : Array Value) (h : IHeap) [Q : Hid VQ] : Prop := ∃ v h', ICall P g args h v h' ∧ Q.ap v h'
/-- A round that comes to what Q asks. -/
def RN (P : Program) (l : Nat) (args : Array Value) (h : IHeap) [Q : Hid VQ] : Prop := ∃ v h', IRound P l args h v h' ∧ Q.ap v h'
theorem FN.mono {P : Program} {g : FuncId} {args : Array Value} {h : IHeap} {Q Q' : Hid VQ} (x : FN P g args h (Q := Q)) (k : ∀ v h', Q.ap v h' → Q'.ap v h') : FN P g args h (Q := Q') := let ⟨v, h', a, b⟩ := x; ⟨v, h', a, k v h' b⟩
theorem RN.mono {P : Program} {g : Nat} {args : Array Value} {h : IHeap} {Q Q' : Hid VQ} (x : RN P g args h (Q := Q)) (k : ∀ v h', Q.ap v h' → Q'.ap v h') : RN P g args h (Q := Q') := let ⟨v, h', a, b⟩ := x; ⟨v, h', a, k v h' b⟩

section
variable (P : Program) (rd : Option Nat)
/-! Looks at a value, at a block; K tells what goes on. -/
section look
def atSome {α : Type} (o : Option α) [K : Hid (α → Prop)] : Prop := match o with | some a => K.ap a | none => False
def atPtr (v : Value) [K : Hid (Nat → Nat → Prop)] : Prop := match v with | .pointer (some ⟨i, q, none⟩) => K.ap i q | _ => False
def atBool (v : Value) [K : Hid (Bool → Prop)] : Prop := match v with | .bool b => K.ap b | _ => False
def atInt (v : Value) [K : Hid (IntKind → Int → Prop)] : Prop := match v with | .int k n => K.ap k n | _ => False
def atRow (o : Option IObj) [K : Hid (Bool → Nat → List Value → Prop)] : Prop := match o with | some (.row ro esz cs) => K.ap ro esz cs | _ => False
def atRowW (o : Option IObj) [K : Hid (Nat → List Value → Prop)] : Prop := match o with | some (.row false esz cs) => K.ap esz cs | _ => False
def atMapO (o : Option IObj) [K : Hid (List MapEntry → Nat → Prop)] : Prop := match o with | some (.map es ck) => K.ap es ck | _ => False
def atIf (c : Prop) [K : Hid (Unit → Prop)] : Prop := c ∧ K.ap ()
def atAgg (v : Value) [K : Hid (Array Value → Prop)] : Prop := match v with | .agg cs => K.ap cs | _ => False
def atTup (v : Value) [K : Hid (Array Value → Prop)] : Prop := match v with | .tuple cs => K.ap cs | _ => False
@[simp] theorem atSome_some {α : Type} (a : α) (K : Hid (α → Prop)) : atSome (some a) (K := K) = K.ap a := byEq rfl
@[simp] theorem atSome_none {α : Type} (K : Hid (α → Prop)) : atSome (none : Option α) (K := K) = False := byEq rfl
@[simp] theorem atPtr_ptr (i q : Nat) (K : Hid (Nat → Nat → Prop)) : atPtr (.pointer (some ⟨i, q, none⟩)) (K := K) = K.ap i q := byEq rfl
@[simp] theorem atBool_bool (b : Bool) (K : Hid (Bool → Prop)) : atBool (.bool b) (K := K) = K.ap b := byEq rfl
@[simp] theorem atInt_int (k : IntKind) (n : Int) (K : Hid (IntKind → Int → Prop)) : atInt (.int k n) (K := K) = K.ap k n := byEq rfl
@[simp] theorem atRow_row (ro : Bool) (esz : Nat) (cs : List Value) (K : Hid (Bool → Nat → List Value → Prop)) : atRow (some (.row ro esz cs)) (K := K) = K.ap ro esz cs := byEq rfl
@[simp] theorem atRowW_row (esz : Nat) (cs : List Value) (K : Hid (Nat → List Value → Prop)) : atRowW (some (.row false esz cs)) (K := K) = K.ap esz cs := byEq rfl
@[simp] theorem atMapO_map (es : List MapEntry) (ck : Nat) (K : Hid (List MapEntry → Nat → Prop)) : atMapO (some (.map es ck)) (K := K) = K.ap es ck := byEq rfl
@[simp] theorem atIf_true (K : Hid (Unit → Prop)) : atIf True (K := K) = K.ap () := by simp [atIf]
theorem atIf_of {c : Prop} (hc : c) (K : Hid (Unit → Prop)) : atIf c (K := K) = K.ap () := by simp [atIf, hc]
@[simp] theorem atAgg_agg (cs : Array Value) (K : Hid (Array Value → Prop)) : atAgg (.agg cs) (K := K) = K.ap cs := byEq rfl
@[simp] theorem atTup_tup (cs : Array Value) (K : Hid (Array Value → Prop)) : atTup (.tuple cs) (K := K) = K.ap cs := byEq rfl
end look
/-- What is equal by sight. -/
def jbin (d : Option TypeDesc) (op : BinOp) (x y : Value) : Option Value :=
  match x, y with
  | .int _ _, .int _ _ => ibin op x y
  | .bool a, .bool b => (match d, op with
    | some .bool, .eql => some (.bool (a == b))
    | some .bool, .neq => some (.bool (!(a == b)))
    | _, _ => none)
  | .string a, .string b => (match op with
    | .eql => some (.bool (a == b))
    | .neq => some (.bool (!(a == b)))
    | .add => if a.size + b.size < 9223372036854775808 then some (.string (a ++ b)) else none
    | _ => none)
  | x, y => (match op, d with
    | .eql, some d => (nilEq d x y).map fun b => .bool b
    | .neq, some d => (nilEq d x y).map fun b => .bool (!b)
    | _, _ => none)
@[simp] theorem jbin_int (d : Option TypeDesc) (op : BinOp) (k k' : IntKind) (a b : Int) : jbin d op (.int k a) (.int k' b) = ibin op (.int k a) (.int k' b) := byEq rfl
@[simp] theorem jbin_eqB (a b : Bool) : jbin (some .bool) .eql (.bool a) (.bool b) = some (.bool (a == b)) := byEq rfl
@[simp] theorem jbin_neB (a b : Bool) : jbin (some .bool) .neq (.bool a) (.bool b) = some (.bool (!(a == b))) := byEq rfl
@[simp] theorem jbin_eqS (d : Option TypeDesc) (a b : ByteArray) : jbin d .eql (.string a) (.string b) = some (.bool (a == b)) := byEq rfl
@[simp] theorem jbin_neS (d : Option TypeDesc) (a b : ByteArray) : jbin d .neq (.string a) (.string b) = some (.bool (!(a == b))) := byEq rfl
@[simp] theorem jbin_addS (d : Option TypeDesc) (a b : ByteArray) : jbin d .add (.string a) (.string b) = if a.size + b.size < 9223372036854775808 then some (.string (a ++ b)) else none := byEq rfl
@[simp] theorem jbin_eqPn (t : TypeId) (b : Option Addr) : jbin (some (.pointer t)) .eql (.pointer b) (.pointer none) = some (.bool b.isNone) := by cases b <;> rfl
@[simp] theorem jbin_nePn (t : TypeId) (b : Option Addr) : jbin (some (.pointer t)) .neq (.pointer b) (.pointer none) = some (.bool (!b.isNone)) := by cases b <;> rfl
@[simp] theorem jbin_eqSn0 (t : TypeId) : jbin (some (.slice t)) .eql (.slice none 0 0) (.slice none 0 0) = some (.bool true) := byEq rfl
@[simp] theorem jbin_neSn0 (t : TypeId) : jbin (some (.slice t)) .neq (.slice none 0 0) (.slice none 0 0) = some (.bool false) := byEq rfl
@[simp] theorem jbin_eqSn (t : TypeId) (b : Addr) (n c : Nat) : jbin (some (.slice t)) .eql (.slice (some b) n c) (.slice none 0 0) = some (.bool false) := byEq rfl
@[simp] theorem jbin_neSn (t : TypeId) (b : Addr) (n c : Nat) : jbin (some (.slice t)) .neq (.slice (some b) n c) (.slice none 0 0) = some (.bool true) := byEq rfl
@[simp] theorem jbin_eqFn (a b : Array TypeId) (v : Bool) (f : Fn) (fs cs : Array Value) : jbin (some (.func a b v)) .eql (.func f fs cs) .nilFunc = some (.bool false) := byEq rfl
@[simp] theorem jbin_neFn (a b : Array TypeId) (v : Bool) (f : Fn) (fs cs : Array Value) : jbin (some (.func a b v)) .neq (.func f fs cs) .nilFunc = some (.bool true) := byEq rfl
@[simp] theorem jbin_eqFnn (a b : Array TypeId) (v : Bool) : jbin (some (.func a b v)) .eql .nilFunc .nilFunc = some (.bool true) := byEq rfl
@[simp] theorem jbin_neFnn (a b : Array TypeId) (v : Bool) : jbin (some (.func a b v)) .neq .nilFunc .nilFunc = some (.bool false) := byEq rfl
/-- Two structs or arrays that hold no address. -/
def aggEq (P : Program) (t : TypeId) (op : BinOp) (x y : Value) : Option Value := if P.eqGuardType P.depth t = false ∧ plainV x = true ∧ plainV y = true then (match op with
    | .eql => (pureVal P (Op.equal t x y)).map .bool
    | .neq => (pureVal P (Op.equal t x y)).map fun b => .bool (!b)
    | _ => none) else none
def jbin2 (P : Program) (t : TypeId) (op : BinOp) (x y : Value) : Option Value :=
  match x, y with
  | .agg a, .agg b => aggEq P t op (.agg a) (.agg b)
  | x, y => jbin (P.underlying t) op x y
@[simp] theorem jbin2_agg (P : Program) (t : TypeId) (op : BinOp) (a b : Array Value) : jbin2 P t op (.agg a) (.agg b) = aggEq P t op (.agg a) (.agg b) := byEq rfl
@[simp] theorem jbin2_int (P : Program) (t : TypeId) (op : BinOp) (k : IntKind) (n : Int) (y : Value) : jbin2 P t op (.int k n) y = jbin (P.underlying t) op (.int k n) y := byEq rfl
@[simp] theorem jbin2_bool (P : Program) (t : TypeId) (op : BinOp) (n : Bool) (y : Value) : jbin2 P t op (.bool n) y = jbin (P.underlying t) op (.bool n) y := byEq rfl
@[simp] theorem jbin2_str (P : Program) (t : TypeId) (op : BinOp) (n : ByteArray) (y : Value) : jbin2 P t op (.string n) y = jbin (P.underlying t) op (.string n) y := byEq rfl
@[simp] theorem jbin2_ptr (P : Program) (t : TypeId) (op : BinOp) (n : Option Addr) (y : Value) : jbin2 P t op (.pointer n) y = jbin (P.underlying t) op (.pointer n) y := byEq rfl
@[simp] theorem jbin2_slc (P : Program) (t : TypeId) (op : BinOp) (a : Option Addr) (n c : Nat) (y : Value) : jbin2 P t op (.slice a n c) y = jbin (P.underlying t) op (.slice a n c) y := byEq rfl
@[simp] theorem jbin2_map (P : Program) (t : TypeId) (op : BinOp) (n : Option Nat) (y : Value) : jbin2 P t op (.map n) y = jbin (P.underlying t) op (.map n) y := byEq rfl
@[simp] theorem jbin2_fun (P : Program) (t : TypeId) (op : BinOp) (f : Fn) (fs cs : Array Value) (y : Value) : jbin2 P t op (.func f fs cs) y = jbin (P.underlying t) op (.func f fs cs) y := byEq rfl
@[simp] theorem jbin2_nilF (P : Program) (t : TypeId) (op : BinOp) (y : Value) : jbin2 P t op .nilFunc y = jbin (P.underlying t) op .nilFunc y := byEq rfl
@[simp] theorem jbin2_nilI (P : Program) (t : TypeId) (op : BinOp) (y : Value) : jbin2 P t op .nilIface y = jbin (P.underlying t) op .nilIface y := byEq rfl
def jun (op : UnOp) (x : Value) : Option Value :=
  match op, x with
  | .not, .bool b => some (.bool !b)
  | .neg, .int k n => some (.int k (k.wrap (0 - n)))
  | _, _ => none
@[simp] theorem jun_not (b : Bool) : jun .not (.bool b) = some (.bool !b) := byEq rfl
@[simp] theorem jun_neg (k : IntKind) (n : Int) : jun .neg (.int k n) = some (.int k (k.wrap (0 - n))) := byEq rfl
/-- Where an element lies. -/
def jidx (P : Program) (t : TypeId) (x : Value) (j : Int) [K : Hid (Value → Prop)] : Prop :=
  match x with
  | .slice (some ⟨i, q, none⟩) n _ => atSome (slcOf P t) (K := ⟨fun r => atIf (0 ≤ j ∧ j < n) (K := ⟨fun _ => K.ap (.pointer (some ⟨i, q + j.toNat * r.2, none⟩))⟩)⟩)
  | .pointer (some ⟨i, q, none⟩) => atSome (arrOf P t) (K := ⟨fun r => atIf (0 ≤ j ∧ j < r.1) (K := ⟨fun _ => K.ap (.pointer (some ⟨i, q + j.toNat * r.2, none⟩))⟩)⟩)
  | _ => False
@[simp] theorem jidx_slc (P : Program) (t : TypeId) (i q n c : Nat) (j : Int) [K : Hid (Value → Prop)] : jidx P t (.slice (some ⟨i, q, none⟩) n c) j (K := K) = atSome (slcOf P t) (K := ⟨fun r => atIf (0 ≤ j ∧ j < n) (K := ⟨fun _ => K.ap (.pointer (some ⟨i, q + j.toNat * r.2, none⟩))⟩)⟩) := byEq rfl
@[simp] theorem jidx_ptr (P : Program) (t : TypeId) (i q : Nat) (j : Int) [K : Hid (Value → Prop)] : jidx P t (.pointer (some ⟨i, q, none⟩)) j (K := K) = atSome (arrOf P t) (K := ⟨fun r => atIf (0 ≤ j ∧ j < r.1) (K := ⟨fun _ => K.ap (.pointer (some ⟨i, q + j.toNat * r.2, none⟩))⟩)⟩) := byEq rfl
/-- What is not nil. -/
def jnil (v : Value) [K : Hid (Value → Prop)] : Prop :=
  match v with
  | .pointer (some ⟨i, q, none⟩) => K.ap (.pointer (some ⟨i, q, none⟩))
  | .func (.func g) fs cs => K.ap (.func (.func g) fs cs)
  | .func (.yield l) fs cs => atIf (fs = #[] ∧ cs = #[]) (K := ⟨fun _ => K.ap (.func (.yield l) #[] #[])⟩)
  | _ => False
@[simp] theorem jnil_ptr (i q : Nat) (K : Hid (Value → Prop)) : jnil (.pointer (some ⟨i, q, none⟩)) (K := K) = K.ap (.pointer (some ⟨i, q, none⟩)) := byEq rfl
@[simp] theorem jnil_fn (g : FuncId) (fs cs : Array Value) (K : Hid (Value → Prop)) : jnil (.func (.func g) fs cs) (K := K) = K.ap (.func (.func g) fs cs) := byEq rfl
@[simp] theorem jnil_yld (l : Nat) (K : Hid (Value → Prop)) : jnil (.func (.yield l) #[] #[]) (K := K) = K.ap (.func (.yield l) #[] #[]) := by simp [jnil, Hid.ap_mk]
/-- A field of a struct. -/
def fldOf (P : Program) (t : TypeId) (f : Nat) : Option (TypeId × Nat) := match P.underlying t with
  | some (.struct fs) => fs[f]?.map fun fl => (fl.type, fl.offset)
  | _ => none
/-- How long. -/
def jlen (P : Program) (t : TypeId) (x : Value) (h : IHeap) [K : Hid VK] : Prop :=
  match x with
  | .slice _ n _ => atSome (slcOf P t) (K := ⟨fun _ => K.ap (.int .i64 n) h .pure⟩)
  | .string s => atIf (P.underlying t = some .string) (K := ⟨fun _ => K.ap (.int .i64 s.size) h .pure⟩)
  | .map (some i) => atSome (mapOf P t) (K := ⟨fun _ => atMapO (h.get i) (K := ⟨fun es _ => K.ap (.int .i64 es.length) h (.read i)⟩)⟩)
  | .map none => atSome (mapOf P t) (K := ⟨fun _ => K.ap (.int .i64 0) h .pure⟩)
  | _ => False
@[simp] theorem jlen_slc (P : Program) (t : TypeId) (a : Option Addr) (n c : Nat) (h : IHeap) [K : Hid VK] : jlen P t (.slice a n c) h (K := K) = atSome (slcOf P t) (K := ⟨fun _ => K.ap (.int .i64 n) h .pure⟩) := byEq rfl
@[simp] theorem jlen_str (P : Program) (t : TypeId) (s : ByteArray) (h : IHeap) [K : Hid VK] : jlen P t (.string s) h (K := K) = atIf (P.underlying t = some .string) (K := ⟨fun _ => K.ap (.int .i64 s.size) h .pure⟩) := byEq rfl
@[simp] theorem jlen_map (P : Program) (t : TypeId) (i : Nat) (h : IHeap) [K : Hid VK] : jlen P t (.map (some i)) h (K := K) = atSome (mapOf P t) (K := ⟨fun _ => atMapO (h.get i) (K := ⟨fun es _ => K.ap (.int .i64 es.length) h (.read i)⟩)⟩) := byEq rfl
@[simp] theorem jlen_mapn (P : Program) (t : TypeId) (h : IHeap) [K : Hid VK] : jlen P t (.map none) h (K := K) = atSome (mapOf P t) (K := ⟨fun _ => K.ap (.int .i64 0) h .pure⟩) := byEq rfl
def jmax (x y : Value) : Option Value := match x, y with | .int k a, .int _ b => some (.int k (if b > a then b else a)) | _, _ => none
def jmin (x y : Value) : Option Value := match x, y with | .int k a, .int _ b => some (.int k (if b < a then b else a)) | _, _ => none
@[simp] theorem jmax_int (k k' : IntKind) (a b : Int) : jmax (.int k a) (.int k' b) = some (.int k (if b > a then b else a)) := byEq rfl
@[simp] theorem jmin_int (k k' : IntKind) (a b : Int) : jmin (.int k a) (.int k' b) = some (.int k (if b < a then b else a)) := byEq rfl
/-- What the model's own text says. -/
def jgen (e : XEnv) (o : Oper) (h : IHeap) [K : Hid VK] : Prop := match iop P e.ev o h with | some (v, h', c) => K.ap v h' (kindOf c) | none => False
/-- A number of another kind; else what the text says. -/
def jcvt (e : XEnv) (o : Oper) (h : IHeap) (v : Value) (ds dt : Option TypeDesc) [K : Hid VK] : Prop :=
  match v, ds, dt with
  | .int _ n, some _, some (.int k) => K.ap (.int k (k.wrap n)) h .pure
  | _, _, _ => jgen P e o h
/-- A call of a value. -/
def callV (v : Value) (args : Array Value) (e : XEnv) (o : Oper) (h : IHeap) [K : Hid VK] : Prop :=
  match v with
  | .func (.func g) fs cs => if fnB P g = true then FN P g (fs ++ args ++ cs) h (Q := ⟨fun v h' => K.ap v h' .heavy⟩) else (match iplain P e.ev o with | some v => K.ap v h .pure | none => False)
  | .func (.yield l) fs cs => atIf (fs = #[] ∧ cs = #[]) (K := ⟨fun _ => RN P l args h (Q := ⟨fun v h' => K.ap v h' .heavy⟩)⟩)
  | _ => False
theorem callV_fn (g : FuncId) (fs cs args : Array Value) (e : XEnv) (o : Oper) (h : IHeap) [K : Hid VK] (hb : fnB P g = true) : callV P (.func (.func g) fs cs) args e o h (K := K) = FN P g (fs ++ args ++ cs) h (Q := ⟨fun v h' => K.ap v h' .heavy⟩) := by simp only [callV, hb, if_true]
@[simp] theorem callV_yld (l : Nat) (args : Array Value) (e : XEnv) (o : Oper) (h : IHeap) [K : Hid VK] : callV P (.func (.yield l) #[] #[]) args e o h (K := K) = RN P l args h (Q := ⟨fun v h' => K.ap v h' .heavy⟩) := by simp [callV, Hid.ap_mk]
/-- A call of the language's own functions. -/
def bltW (e : XEnv) (o : Oper) [K : Hid VK] (h : IHeap) : Builtin → List Operand → List TypeId → Prop
  | .len, [x], [t] => jlen P t (e.ev x) h
  | .append, [s, x], [t, t2] => atSome (iappend P h t t2 (e.ev s) (e.ev x)) (K := ⟨fun r => K.ap r.1 r.2 .heavy⟩)
  | .copy, [d, x], [t, _] => atSome (icopy P h t (e.ev d) (e.ev x)) (K := ⟨fun r => K.ap r.1 r.2 .heavy⟩)
  | .delete, [x, k], [t, _] => atSome (idelete P h t (e.ev x) (e.ev k)) (K := ⟨fun r => K.ap undef r .heavy⟩)
  | .max, [x, y], _ => atSome (jmax (e.ev x) (e.ev y)) (K := ⟨fun v => K.ap v h .pure⟩)
  | .min, [x, y], _ => atSome (jmin (e.ev x) (e.ev y)) (K := ⟨fun v => K.ap v h .pure⟩)
  | _, _, _ => jgen P e o h
/-- One operation. -/
def jw (e : XEnv) (o : Oper) [K : Hid VK] (h : IHeap) : Op → Prop
  | .move x => K.ap (e.ev x) h .pure
  | .assign x => K.ap (e.ev x) h .pure
  | .pick c x y => atBool (e.ev c) (K := ⟨fun b => K.ap (if b = true then e.ev x else e.ev y) h .pure⟩)
  | .load t x => atPtr (e.ev x) (K := ⟨fun i q => atRow (h.get i) (K := ⟨fun _ _ cs => atSome (loadOf P t cs q) (K := ⟨fun v => K.ap v h (.read i)⟩)⟩)⟩)
  | .store t x y => atPtr (e.ev x) (K := ⟨fun i q => atRowW (h.get i) (K := ⟨fun esz cs => atSome (tsize P t) (K := ⟨fun n =>
      atIf ((e.ev y).cells.size = n ∧ q + n ≤ cs.length ∧ (e.ev y).cells.toList.all (·.oneCell') = true) (K := ⟨fun _ => K.ap undef (h.set i (.row false esz (splice cs q (e.ev y).cells.toList))) .heavy⟩)⟩)⟩)⟩)
  | .alloc t => atSome (zeroOf P t) (K := ⟨fun z => K.ap (.pointer (some ⟨h.size, 0, none⟩)) (h.push (.row false 0 z.toList)) .alloc⟩)
  | .box _ x => K.ap (.pointer (some ⟨h.size, 0, none⟩)) (h.push (.row false 0 (e.ev x).cells.toList)) .alloc
  | .fieldAddr s x f => atPtr (e.ev x) (K := ⟨fun i q => atSome (fieldOff P s f) (K := ⟨fun k => K.ap (.pointer (some ⟨i, q + k, none⟩)) h .pure⟩)⟩)
  | .indexAddr t x ix => atInt (e.ev ix) (K := ⟨fun _ j => jidx P t (e.ev x) j (K := ⟨fun v => K.ap v h .pure⟩)⟩)
  | .field t x f => atAgg (e.ev x) (K := ⟨fun cs => atSome (fldOf P t f) (K := ⟨fun r => atSome (partOf P r.1 cs r.2) (K := ⟨fun v => K.ap v h .pure⟩)⟩)⟩)
  | .extract x f => atTup (e.ev x) (K := ⟨fun cs => atSome cs[f]? (K := ⟨fun v => K.ap v h .pure⟩)⟩)
  | .build t ps => atSome (buildOf P t (ps.map fun (i, x) => (i, e.ev x)).toList) (K := ⟨fun v => K.ap v h .pure⟩)
  | .buildSlice t n ps => atSome (ibuildSlice P h t n (ps.map fun (i, x) => (i, e.ev x)).toList) (K := ⟨fun r => K.ap r.1 r.2.1 (kindOf r.2.2)⟩)
  | .makeSlice t x y => atSome (imakeSlice P h t (e.ev x) (e.ev y)) (K := ⟨fun r => K.ap r.1 r.2.1 (kindOf r.2.2)⟩)
  | .binOp op t x y _ => atSome (jbin2 P t op (e.ev x) (e.ev y)) (K := ⟨fun v => K.ap v h .pure⟩)
  | .unOp op _ x => atSome (jun op (e.ev x)) (K := ⟨fun v => K.ap v h .pure⟩)
  | .makeFunc (.func g) fs cs => K.ap (.func (.func g) (fs.map e.ev) (cs.map e.ev)) h .pure
  | .nilCheck x => jnil (e.ev x) (K := ⟨fun v => K.ap v h .pure⟩)
  | .convert s t x => jcvt P e { o with op := .convert s t x } h (e.ev x) (P.underlying s) (P.underlying t)
  | .call c => (match c.callee with
    | .value f => callV P (e.ev f) (c.args.map e.ev) e { o with op := .call c } h
    | .builtin b => bltW P e { o with op := .call c } h b c.args.toList c.argTypes.toList
    | .invoke _ _ => False)
  | .defer _ => False
  | op => jgen P e { o with op := op } h
def wop (e : XEnv) (o : Oper) (h : IHeap) [K : Hid VK] : Prop := jw P e o h o.op
def wops (draw : Bool) (all : Array Oper) [Q : Hid (XEnv → IHeap → Prop)] : List Oper → XEnv → IHeap → List Ent → Prop
  | [], e, h, es => (draw = true → NiL all es.reverse) ∧ Q.ap e h
  | o :: os, e, h, es => if wantedE all e o = true then wop P e o h (K := ⟨fun v h' k => wops draw all os (e.put o.dst v) h' (if draw then ⟨k, h, h'⟩ :: es else [])⟩)
      else wops draw all os (e.put o.dst undef) h (if draw then ⟨.skip, h, h⟩ :: es else [])
/-- A loop from its head. -/
def WPL (c : Code) (e : XEnv) (h : IHeap) [Q : Hid XQ] : Prop := ∃ x e' h', ILoop P rd c e.act h x e'.act h' ∧ Q.ap x e' h'
/-- A range over a function. -/
def WPR (g : Operand) (ps : Array Tmp) (assign body : Code) (e : XEnv) (h : IHeap) [Q : Hid XQ] : Prop := ∃ x e' h', IExec P rd (.rangeFunc g ps assign body) e.act h x e'.act h' ∧ Q.ap x e' h'
def WP (c : Code) (e : XEnv) (h : IHeap) [Q : Hid XQ] : Prop :=
  match c with
  | .skip => Q.ap .normal e h
  | .label _ => Q.ap .normal e h
  | .exit id => Q.ap (.exit id) e h
  | .goto l => Q.ap (.goto l) e h
  | .ret => Q.ap .ret e h
  | .region _ ops draw => wops P draw ops (Q := ⟨fun e' h' => Q.ap .normal e' h'⟩) ops.toList e h []
  | .seq x y => WP x e h (Q := ⟨fun r e' h' => match r with | .normal => WP y e' h' | r => Q.ap r e' h'⟩)
  | .cond c x y => atBool (e.ev c) (K := ⟨fun b => (b = true → WP x e h) ∧ (b = false → WP y e h)⟩)
  | .block id c => WP c e h (Q := ⟨fun x e' h' => Q.ap (outOf id x) e' h'⟩)
  | .scope c => WP c e h (Q := ⟨fun x e' h' => match x with | .goto _ => False | x => Q.ap x e' h'⟩)
  | .loop c => WPL P rd c e h
  | .rangeFunc g ps assign body => WPR P rd g ps assign body e h
  | _ => False
termination_by structural c
end

section
variable {P : Program} {rd : Option Nat}
theorem fnB_inv {g : FuncId} (h : fnB P g = true) : ∃ fn c, P.funcs[g]? = some fn ∧ (fn.name == "runtime.NumGoroutine") = false ∧ fn.body = some c ∧ codeOk c = true := by
  have := fns_ok (P := P) (L := [g]) (fun g' hg' => by simp at hg'; subst hg'; exact h) g (by simp [inL])
  exact this
theorem IRound.growp {l : Nat} {args : Array Value} {h h' : IHeap} {v : Value} (x : IRound P l args h v h') : Grow h h' := x.grow

theorem jbin_run {t : TypeId} {op : BinOp} {x y v : Value} (h : jbin (P.underlying t) op x y = some v) {ρ : Rho} {x' y' : Value} (hx : VRel ρ x x') (hy : VRel ρ y y') (c1 c2 : Operand) (w : World) :
    (do eqGuard op t c1 c2 x' y'; binOp op t x' y' : Sem Value).run P w = .ok v w ∧ scal v = true := by
  unfold jbin at h
  split at h
  · rename_i k a k' b
    obtain ⟨h1, h2, h3, h4⟩ := ibin_run (P := P) h t c1 c2 w
    rw [← scal_eq h2 hx, ← scal_eq h3 hy] at h1
    exact ⟨h1, h4⟩
  · rename_i a b
    rw [scal_eq rfl hx, scal_eq rfl hy]
    split at h
    · rename_i hu
      cases h
      have g1 : (eqGuard .eql t c1 c2 (.bool a) (.bool b)) = pure () := rfl
      have g2 : binOp .eql t (.bool a) (.bool b) = (do pure (.bool (← Op.equal t (.bool a) (.bool b)))) := rfl
      have g3 := run_equalIn_bool' (P := P) w 9999 t a b hu
      rw [g1, g2]
      refine ⟨?_, rfl⟩
      simp only [Sem.run_bind, Sem.run_pure, Result.andThen_ok, Op.equal, Op.maxDepth, g3]
    · rename_i hu
      cases h
      have g1 : (eqGuard .neq t c1 c2 (.bool a) (.bool b)) = pure () := rfl
      have g2 : binOp .neq t (.bool a) (.bool b) = (do pure (.bool (!(← Op.equal t (.bool a) (.bool b))))) := rfl
      have g3 := run_equalIn_bool' (P := P) w 9999 t a b hu
      rw [g1, g2]
      refine ⟨?_, rfl⟩
      simp only [Sem.run_bind, Sem.run_pure, Result.andThen_ok, Op.equal, Op.maxDepth, g3]
    · cases h
  · rename_i a b
    rw [scal_eq rfl hx, scal_eq rfl hy]
    split at h
    · cases h
      have g1 : (eqGuard .eql t c1 c2 (.string a) (.string b)) = pure () := rfl
      have g2 : binOp .eql t (.string a) (.string b) = pure (.bool (a.toList == b.toList)) := rfl
      rw [g1, g2]
      refine ⟨?_, rfl⟩
      simp only [Sem.run_bind, Sem.run_pure, Result.andThen_ok, beq_toListBytes]
    · cases h
      have g1 : (eqGuard .neq t c1 c2 (.string a) (.string b)) = pure () := rfl
      have g2 : binOp .neq t (.string a) (.string b) = pure (.bool (!(a.toList == b.toList))) := rfl
      rw [g1, g2]
      refine ⟨?_, rfl⟩
      simp only [Sem.run_bind, Sem.run_pure, Result.andThen_ok, beq_toListBytes]
    · split at h
      · rename_i hs
        cases h
        have : ¬ (((a.size + b.size : Nat) : Int) > IntKind.i64.max) := by
          show ¬ (((a.size + b.size : Nat) : Int) > 9223372036854775807)
          omega
        refine ⟨?_, rfl⟩
        have g1 : (eqGuard .add t c1 c2 (.string a) (.string b)) = pure () := rfl
        have g2 : binOp .add t (.string a) (.string b) = (if ((a.size + b.size : Nat) : Int) > IntKind.i64.max then unsupported (.resourceLimit "string concatenation: a sum of the lengths that is no int") else pure (.string (a ++ b))) := rfl
        rw [g1, g2, if_neg this]
        simp only [Sem.run_bind, Sem.run_pure, Result.andThen_ok]
      · cases h
    · cases h
  · split at h
    · rename_i d hu
      obtain ⟨b, hb, rfl⟩ := Option.map_eq_some_iff.mp h
      obtain ⟨g1, _, g2, _⟩ := nilEq_shape P hb hx hy t c1 c2 w
      exact ⟨by simp [Sem.run_bind, g1, g2, Op.equal, Op.maxDepth, nilEq_run hu hb hx hy], rfl⟩
    · rename_i d hu
      obtain ⟨b, hb, rfl⟩ := Option.map_eq_some_iff.mp h
      obtain ⟨_, g1, _, g2⟩ := nilEq_shape P hb hx hy t c1 c2 w
      exact ⟨by simp [Sem.run_bind, g1, g2, Op.equal, Op.maxDepth, nilEq_run hu hb hx hy], rfl⟩
    · cases h
theorem pure_jbin {o : Oper} {a : Act} {op : BinOp} {t ty : TypeId} {x y : Operand} {v : Value} (ho : o.op = .binOp op t x y ty) (h : jbin (P.underlying t) op (a.eval x) (a.eval y) = some v) : PureOp P o a v := by
  intro ρ ar w hrel
  have hx := hrel x (by simp [ho, Op.operands])
  have hy := hrel y (by simp [ho, Op.operands])
  obtain ⟨h1, h2⟩ := jbin_run h hx hy x y w
  refine ⟨v, ?_, .base h2⟩
  simp only [execOp, ho, Sem.run_bind] at h1 ⊢
  rw [h1]
  rfl
theorem pure_jbin2 {o : Oper} {a : Act} {op : BinOp} {t ty : TypeId} {x y : Operand} {v : Value} (ho : o.op = .binOp op t x y ty) (h : jbin2 P t op (a.eval x) (a.eval y) = some v) : PureOp P o a v := by
  unfold jbin2 at h
  split at h
  · rename_i xs ys ex ey
    unfold aggEq at h
    split at h
    · rename_i hc
      obtain ⟨hg, px, py⟩ := hc
      intro ρ ar w hrel
      have hx := hrel x (by simp [ho, Op.operands])
      have hy := hrel y (by simp [ho, Op.operands])
      have e1 : ar.eval x = a.eval x := by rw [ex] at hx ⊢; exact plain_eq px hx
      have e2 : ar.eval y = a.eval y := by rw [ey] at hy ⊢; exact plain_eq py hy
      split at h
      · obtain ⟨b, hb, rfl⟩ := Option.map_eq_some_iff.mp h
        have hr := run_pureVal hb w
        refine ⟨.bool b, ?_, .base rfl⟩
        have g1 : (eqGuard .eql t x y (.agg xs) (.agg ys)).run P w = .ok () w := by
          simp [eqGuard, Sem.run_bind, program, Sem.run, hg, Result.andThen, pure, Sem.run_pure]
        have g2 : binOp .eql t (.agg xs) (.agg ys) = (do pure (.bool (← Op.equal t (.agg xs) (.agg ys)))) := rfl
        simp only [execOp, ho, Sem.run_bind, e1, e2, ex, ey, g1, Result.andThen_ok, g2, hr, Sem.run_pure]
      · obtain ⟨b, hb, rfl⟩ := Option.map_eq_some_iff.mp h
        have hr := run_pureVal hb w
        refine ⟨.bool (!b), ?_, .base rfl⟩
        have g1 : (eqGuard .neq t x y (.agg xs) (.agg ys)).run P w = .ok () w := by
          simp [eqGuard, Sem.run_bind, program, Sem.run, hg, Result.andThen, pure, Sem.run_pure]
        have g2 : binOp .neq t (.agg xs) (.agg ys) = (do pure (.bool (!(← Op.equal t (.agg xs) (.agg ys))))) := rfl
        simp only [execOp, ho, Sem.run_bind, e1, e2, ex, ey, g1, Result.andThen_ok, g2, hr, Sem.run_pure]
      · cases h
    · cases h
  · exact pure_jbin ho h
theorem pure_jun {o : Oper} {a : Act} {op : UnOp} {t : TypeId} {x : Operand} {v : Value} (ho : o.op = .unOp op t x) (h : jun op (a.eval x) = some v) : PureOp P o a v := by
  intro ρ ar w hrel
  have hx := hrel x (by simp [ho, Op.operands])
  unfold jun at h
  split at h
  · rename_i b he
    cases h
    rw [he] at hx
    refine ⟨_, ?_, .base rfl⟩
    simp [execOp, ho, Sem.run_bind, hx.bool_inv, Op.unary]
  · rename_i k n he
    cases h
    rw [he] at hx
    refine ⟨_, ?_, .base rfl⟩
    simp [execOp, ho, Sem.run_bind, hx.int_inv, Op.unary, Op.intArith]
  · cases h
theorem pure_jmax {o : Oper} {a : Act} {c : Call} {x y : Operand} {v : Value} {b : Bool} (ho : o.op = .call c) (hc : c.callee = .builtin (if b then .max else .min)) (ha : c.args = #[x, y]) (h : (if b then jmax (a.eval x) (a.eval y) else jmin (a.eval x) (a.eval y)) = some v) : PureOp P o a v := by
  intro ρ ar w hrel
  have hx := hrel x (by simp [ho, Op.operands, Call.operands, ha])
  have hy := hrel y (by simp [ho, Op.operands, Call.operands, ha])
  cases b with
  | true =>
    simp only [if_true] at h hc
    unfold jmax at h
    split at h
    · rename_i k n k' m e1 e2
      cases h
      rw [e1] at hx
      rw [e2] at hy
      refine ⟨_, ?_, .base rfl⟩
      simp [execOp, ho, Sem.run_bind, resolve, hc, ha, invoke, builtin, Builtin.max_, Builtin.max2, hx.int_inv, hy.int_inv]
    · cases h
  | false =>
    simp only [if_false, Bool.false_eq_true] at h hc
    unfold jmin at h
    split at h
    · rename_i k n k' m e1 e2
      cases h
      rw [e1] at hx
      rw [e2] at hy
      refine ⟨_, ?_, .base rfl⟩
      simp [execOp, ho, Sem.run_bind, resolve, hc, ha, invoke, builtin, Builtin.min_, Builtin.min2, hx.int_inv, hy.int_inv]
    · cases h
theorem pure_jlenS {o : Oper} {a : Act} {c : Call} {x : Operand} {t : TypeId} {s : ByteArray} (ho : o.op = .call c) (hc : c.callee = .builtin .len) (ha : c.args = #[x]) (ht : c.argTypes = #[t]) (hx : a.eval x = .string s) (hu : P.underlying t = some .string) : PureOp P o a (.int .i64 s.size) := by
  intro ρ ar w hrel
  have hx' := hrel x (by simp [ho, Op.operands, Call.operands, ha])
  rw [hx] at hx'
  refine ⟨.int .i64 s.size, ?_, .base rfl⟩
  simp [execOp, ho, Sem.run_bind, resolve, hc, ha, invoke, builtin, Builtin.len_, ht, scal_eq rfl hx', run_under hu, goInt]
theorem atSome_inv {α : Type} {o : Option α} {K : Hid (α → Prop)} (h : atSome o (K := K)) : ∃ a, o = some a ∧ K.ap a := by
  cases o with
  | none => exact h.elim
  | some a => exact ⟨a, rfl, h⟩
theorem atPtr_inv {v : Value} {K : Hid (Nat → Nat → Prop)} (h : atPtr v (K := K)) : ∃ i q, v = .pointer (some ⟨i, q, none⟩) ∧ K.ap i q := by
  unfold atPtr at h
  split at h
  · exact ⟨_, _, rfl, h⟩
  · exact h.elim
theorem atBool_inv {v : Value} {K : Hid (Bool → Prop)} (h : atBool v (K := K)) : ∃ b, v = .bool b ∧ K.ap b := by
  unfold atBool at h
  split at h
  · exact ⟨_, rfl, h⟩
  · exact h.elim
theorem atInt_inv {v : Value} {K : Hid (IntKind → Int → Prop)} (h : atInt v (K := K)) : ∃ k n, v = .int k n ∧ K.ap k n := by
  unfold atInt at h
  split at h
  · exact ⟨_, _, rfl, h⟩
  · exact h.elim
theorem atRow_inv {v : Option IObj} {K : Hid (Bool → Nat → List Value → Prop)} (h : atRow v (K := K)) : ∃ ro esz cs, v = some (.row ro esz cs) ∧ K.ap ro esz cs := by
  unfold atRow at h
  split at h
  · exact ⟨_, _, _, rfl, h⟩
  · exact h.elim
theorem atRowW_inv {v : Option IObj} {K : Hid (Nat → List Value → Prop)} (h : atRowW v (K := K)) : ∃ esz cs, v = some (.row false esz cs) ∧ K.ap esz cs := by
  unfold atRowW at h
  split at h
  · exact ⟨_, _, rfl, h⟩
  · exact h.elim
theorem atMapO_inv {v : Option IObj} {K : Hid (List MapEntry → Nat → Prop)} (h : atMapO v (K := K)) : ∃ es ck, v = some (.map es ck) ∧ K.ap es ck := by
  unfold atMapO at h
  split at h
  · exact ⟨_, _, rfl, h⟩
  · exact h.elim
theorem atAgg_inv {v : Value} {K : Hid (Array Value → Prop)} (h : atAgg v (K := K)) : ∃ cs, v = .agg cs ∧ K.ap cs := by
  unfold atAgg at h
  split at h
  · exact ⟨_, rfl, h⟩
  · exact h.elim
theorem atTup_inv {v : Value} {K : Hid (Array Value → Prop)} (h : atTup v (K := K)) : ∃ cs, v = .tuple cs ∧ K.ap cs := by
  unfold atTup at h
  split at h
  · exact ⟨_, rfl, h⟩
  · exact h.elim
/-- What an operation that calls nothing comes to. -/
def Comes (P : Program) (o : Oper) (a : Act) (h : IHeap) (K : Hid VK) : Prop := ∃ v h' c, Grow h h' ∧ ClsOk P o a h v h' c ∧ K.ap v h' (kindOf c)
theorem Comes.of_iop {o : Oper} {a : Act} {h h' : IHeap} {v : Value} {c : Cls} {K : Hid VK} (hi : iop P a.eval o h = some (v, h', c)) (hk : K.ap v h' (kindOf c)) : Comes P o a h K := ⟨v, h', c, (iop_growT hi trivial).1, iop_ok hi, hk⟩
theorem Comes.of_pure {o : Oper} {a : Act} {h : IHeap} {v : Value} {K : Hid VK} (hp : PureOp P o a v) (hk : K.ap v h .pure) : Comes P o a h K := ⟨v, h, .pure, Grow.refl _, ⟨rfl, hp⟩, hk⟩
theorem jgen_ok {e : XEnv} {o : Oper} {h : IHeap} {K : Hid VK} (hx : jgen P e o h (K := K)) : Comes P o e.act h K := by
  unfold jgen at hx
  rw [← XEnv.act_eval] at hx
  split at hx
  · exact .of_iop (by assumption) hx
  · exact hx.elim
/-- No call. -/
def noCall : Op → Bool
  | .call c => (match c.callee with | .builtin _ => true | _ => false)
  | .defer _ => false
  | _ => true
theorem list2 {α : Type} {a : Array α} {x y : α} (h : a.toList = [x, y]) : a = #[x, y] := by rw [← Array.toArray_toList (xs := a), h]
theorem list1 {α : Type} {a : Array α} {x : α} (h : a.toList = [x]) : a = #[x] := by rw [← Array.toArray_toList (xs := a), h]
theorem jlen_ok {e : XEnv} {o : Oper} {c : Call} {x : Operand} {t : TypeId} {h : IHeap} {K : Hid VK} (ho : o.op = .call c) (hc : c.callee = .builtin .len) (ha : c.args.toList = [x]) (ht : c.argTypes.toList = [t]) (hx : jlen P t (e.ev x) h (K := K)) : Comes P o e.act h K := by
  rw [← XEnv.act_eval] at hx
  unfold jlen at hx
  split at hx
  · rename_i q n k hv
    obtain ⟨r, hs, hk⟩ := atSome_inv hx
    obtain ⟨hu, _⟩ := slcOf_inv (e := r.1) (s := r.2) hs
    exact .of_pure (pure_lenS (ts := #[]) ho hc (list1 ha) (by rw [list1 ht]; rfl) hv hu) hk
  · rename_i s hv
    exact .of_pure (pure_jlenS ho hc (list1 ha) (list1 ht) hv hx.1) hx.2
  · rename_i i hv
    obtain ⟨r, hs, hk⟩ := atSome_inv hx
    obtain ⟨es, ck, hg, hk⟩ := atMapO_inv hk
    refine .of_iop (v := .int .i64 es.length) (h' := h) (c := .read i) ?_ hk
    simp only [iop, ho, icall, hc, ha, ht, hv, hs, hg]
  · rename_i hv
    obtain ⟨r, hs, hk⟩ := atSome_inv hx
    have hu := mapOf_inv (k := r.1) (e := r.2) hs
    refine .of_iop (v := .int .i64 0) (h' := h) (c := .pure) ?_ hk
    have g0 : (c.argTypes[0]?).bind P.underlying = some (.map r.1 r.2) := by rw [list1 ht]; exact hu
    simp only [iop, ho, icall, hc, ha, ht, hv, hs, ipure, g0, Option.map_some]
  · exact hx.elim
theorem bltW_ok {e : XEnv} {o : Oper} {c : Call} {b : Builtin} {h : IHeap} {K : Hid VK} (ho : o.op = .call c) (hc : c.callee = .builtin b) (hx : bltW P e o h b c.args.toList c.argTypes.toList (K := K)) : Comes P o e.act h K := by
  unfold bltW at hx
  split at hx
  · rename_i x t ha ht
    exact jlen_ok ho hc ha ht hx
  · rename_i s x t t2 ha ht
    obtain ⟨r, hr, hk⟩ := atSome_inv hx
    rw [← XEnv.act_eval] at hr
    exact .of_iop (c := .heavy) (by simp only [iop, ho, icall, hc, ha, ht, hr, Option.map_some]) hk
  · rename_i s x t t2 ha ht
    obtain ⟨r, hr, hk⟩ := atSome_inv hx
    rw [← XEnv.act_eval] at hr
    exact .of_iop (c := .heavy) (by simp only [iop, ho, icall, hc, ha, ht, hr, Option.map_some]) hk
  · rename_i s x t t2 ha ht
    obtain ⟨r, hr, hk⟩ := atSome_inv hx
    rw [← XEnv.act_eval] at hr
    exact .of_iop (c := .heavy) (by simp only [iop, ho, icall, hc, ha, ht, hr, Option.map_some]) hk
  · rename_i x y _ ha
    obtain ⟨r, hr, hk⟩ := atSome_inv hx
    rw [← XEnv.act_eval] at hr
    exact .of_pure (pure_jmax (b := true) ho (by simpa using hc) (list2 ha) (by simpa using hr)) hk
  · rename_i x y _ ha
    obtain ⟨r, hr, hk⟩ := atSome_inv hx
    rw [← XEnv.act_eval] at hr
    exact .of_pure (pure_jmax (b := false) ho (by simpa using hc) (list2 ha) (by simpa using hr)) hk
  · exact jgen_ok hx
theorem Oper.with_op {o : Oper} {op : Op} (ho : o.op = op) : { o with op := op } = o := by subst ho; rfl
theorem jw_ok {e : XEnv} {o : Oper} {op : Op} {h : IHeap} {K : Hid VK} (ho : o.op = op) (hn : noCall op = true) (hx : jw P e o h op (K := K)) : Comes P o e.act h K := by
  have gen : jgen P e { o with op := op } h (K := K) → Comes P o e.act h K := fun hg => by rw [Oper.with_op ho] at hg; exact jgen_ok hg
  unfold jw at hx
  split at hx
  · rw [← XEnv.act_eval] at hx; exact .of_pure (ipure_ok (by simp only [ipure, ho])) hx
  · rw [← XEnv.act_eval] at hx; exact .of_pure (ipure_ok (by simp only [ipure, ho])) hx
  · rename_i c x y
    rw [← XEnv.act_eval] at hx
    obtain ⟨b, hb, hk⟩ := atBool_inv hx
    exact .of_pure (ipure_ok (by simp only [ipure, ho, hb])) hk
  · rename_i t x
    obtain ⟨i, q, hp, hx⟩ := atPtr_inv hx
    obtain ⟨ro, esz, cs, hg, hx⟩ := atRow_inv hx
    obtain ⟨v, hv, hk⟩ := atSome_inv hx
    rw [← XEnv.act_eval] at hp
    exact .of_iop (c := .read i) (by simp only [iop, ho, iload, hp, hg, hv, Option.map_some]) hk
  · rename_i t x y
    obtain ⟨i, q, hp, hx⟩ := atPtr_inv hx
    obtain ⟨esz, cs, hg, hx⟩ := atRowW_inv hx
    obtain ⟨n, hn', hx⟩ := atSome_inv hx
    obtain ⟨hc, hk⟩ := hx
    rw [← XEnv.act_eval] at hp hc hk
    exact .of_iop (c := .heavy) (by simp only [iop, ho, istore, hp, hg, hn', hc, and_self, if_true, forceL_eq, setH_eq]) hk
  · rename_i t
    obtain ⟨z, hz, hk⟩ := atSome_inv hx
    exact .of_iop (c := .alloc) (by simp only [iop, ho, ialloc, hz, pushH_eq]) hk
  · rename_i t x
    rw [← XEnv.act_eval] at hx
    exact .of_iop (c := .alloc) (by simp only [iop, ho, pushH_eq]) hx
  · rename_i s x f
    obtain ⟨i, q, hp, hx⟩ := atPtr_inv hx
    obtain ⟨k, hf, hk⟩ := atSome_inv hx
    rw [← XEnv.act_eval] at hp
    exact .of_pure (ipure_ok (by simp only [ipure, ho, hp, hf, Option.map_some])) hk
  · rename_i t x ix
    obtain ⟨kd, j, hj, hx⟩ := atInt_inv hx
    rw [← XEnv.act_eval] at hj
    replace hx : jidx P t (e.act.eval x) j (K := ⟨fun v => K.ap v h .pure⟩) := by rw [XEnv.act_eval]; exact hx
    unfold jidx at hx
    split at hx
    · rename_i i q n c hp
      obtain ⟨r, hs, hx⟩ := atSome_inv hx
      obtain ⟨hb, hk⟩ := hx
      exact .of_pure (ipure_ok (by simp only [ipure, ho, hp, hj, hs, if_pos hb])) hk
    · rename_i i q hp
      obtain ⟨r, hs, hx⟩ := atSome_inv hx
      obtain ⟨hb, hk⟩ := hx
      exact .of_pure (ipure_ok (by simp only [ipure, ho, hp, hj, hs, if_pos hb])) hk
    · exact hx.elim
  · rename_i t x f
    obtain ⟨cs, hc, hx⟩ := atAgg_inv hx
    obtain ⟨r, hf, hx⟩ := atSome_inv hx
    obtain ⟨v, hv, hk⟩ := atSome_inv hx
    rw [← XEnv.act_eval] at hc
    unfold fldOf at hf
    split at hf
    · rename_i fs hu
      obtain ⟨fl, h1, h2⟩ := Option.map_eq_some_iff.mp hf
      subst h2
      exact .of_pure (ipure_ok (by simp only [ipure, ho, hc, hu, h1]; exact hv)) hk
    · cases hf
  · rename_i x f
    obtain ⟨cs, hc, hx⟩ := atTup_inv hx
    obtain ⟨v, hv, hk⟩ := atSome_inv hx
    rw [← XEnv.act_eval] at hc
    exact .of_pure (ipure_ok (by simp only [ipure, ho, hc, hv])) hk
  · rename_i t ps
    obtain ⟨v, hv, hk⟩ := atSome_inv hx
    rw [← XEnv.act_eval] at hv
    exact .of_pure (ipure_ok (by simp only [ipure, ho]; exact hv)) hk
  · rename_i t n ps
    obtain ⟨r, hr, hk⟩ := atSome_inv hx
    rw [← XEnv.act_eval] at hr
    exact .of_iop (v := r.1) (h' := r.2.1) (c := r.2.2) (by simp only [iop, ho]; exact hr) hk
  · rename_i t x y
    obtain ⟨r, hr, hk⟩ := atSome_inv hx
    rw [← XEnv.act_eval] at hr
    exact .of_iop (v := r.1) (h' := r.2.1) (c := r.2.2) (by simp only [iop, ho]; exact hr) hk
  · rename_i bop t x y ty
    obtain ⟨v, hv, hk⟩ := atSome_inv hx
    rw [← XEnv.act_eval] at hv
    exact .of_pure (pure_jbin2 ho hv) hk
  · rename_i uop t x
    obtain ⟨v, hv, hk⟩ := atSome_inv hx
    rw [← XEnv.act_eval] at hv
    exact .of_pure (pure_jun ho hv) hk
  · rename_i g fs cs
    rw [← XEnv.act_eval] at hx
    exact .of_pure (ipure_ok (by simp only [ipure, ho])) hx
  · rename_i x
    rw [← XEnv.act_eval] at hx
    unfold jnil at hx
    split at hx
    · rename_i i q hv
      exact .of_pure (ipure_ok (by simp only [ipure, ho, hv])) hx
    · rename_i g fs cs hv
      exact .of_pure (ipure_ok (by simp only [ipure, ho, hv])) hx
    · rename_i l fs cs hv
      obtain ⟨hc, hk⟩ := hx
      exact .of_pure (ipure_ok (by simp only [ipure, ho, hv, if_pos hc])) hk
    · exact hx.elim
  · rename_i s t x
    unfold jcvt at hx
    split at hx
    · rename_i k0 n ds k hv hs ht
      rw [← XEnv.act_eval] at hv
      refine .of_pure (v := .int k (k.wrap n)) (fun ρ ar w hrel => ?_) hx
      have g0 := hrel x (by simp [ho, Op.operands])
      rw [hv] at g0
      refine ⟨_, ?_, .base rfl⟩
      simp [execOp, ho, Sem.run_bind, convert, run_under hs, run_under ht, g0.int_inv, Conv.intToInt]
    · exact gen hx
  · rename_i c
    split at hx
    · rename_i f hc
      simp [noCall, hc] at hn
    · rename_i b hc
      rw [Oper.with_op ho] at hx
      exact bltW_ok ho hc hx
    · exact hx.elim
  · exact hx.elim
  · exact gen hx
theorem wop_ok {all : Array Oper} {e : XEnv} {o : Oper} {h : IHeap} {K : Hid VK} (hw : Region.wanted o (yielded all e.act.tmps) = true) (hx : wop P e o h (K := K)) : ∃ v h' k, KOk P rd all o e.act h v h' k ∧ K.ap v h' k := by
  unfold wop at hx
  cases hn : noCall o.op with
  | true =>
    obtain ⟨v, h', c, h3, h2, hk⟩ := jw_ok rfl hn hx
    have hd : ∀ c, o.op ≠ .defer c := fun c hd => by rw [hd] at hn; cases hn
    refine ⟨v, h', kindOf c, ?_, hk⟩
    cases c with
    | pure => exact ⟨hw, hd, h2.1, h2.2⟩
    | read i => exact ⟨hw, hd, h2.1, h2.2⟩
    | alloc => obtain ⟨n, a1, a2, a3⟩ := h2; exact ⟨hw, hd, n, a1, a2, a3⟩
    | heavy => exact ⟨hw, h3, HOp.of_mem hd h2⟩
  | false =>
    unfold noCall at hn
    split at hn
    · rename_i c ho
      rw [ho] at hx
      simp only [jw] at hx
      rw [Oper.with_op ho] at hx
      split at hx
      · rename_i f hcal
        rw [← XEnv.act_eval] at hx
        unfold callV at hx
        split at hx
        · rename_i g fs cs hf
          split at hx
          · rename_i hok
            obtain ⟨v, h', h1, h2⟩ := hx
            obtain ⟨fn, c0, e1, e2, e3, e4⟩ := fnB_inv hok
            exact ⟨v, h', .heavy, ⟨hw, h1.grow, HOp.call ho hcal hf e1 e2 (by rw [e3]; rfl) h1⟩, h2⟩
          · split at hx
            · rename_i v hv
              exact ⟨v, h, .pure, ⟨hw, fun c hd => (by rw [ho] at hd; cases hd), rfl, iplain_ok (by rw [XEnv.act_eval]; exact hv)⟩, hx⟩
            · exact hx.elim
        · rename_i l fs cs hf
          obtain ⟨⟨rfl, rfl⟩, v, h', h1, h2⟩ := hx
          exact ⟨v, h', .heavy, ⟨hw, h1.grow, HOp.yield ho hcal hf h1⟩, h2⟩
        · exact hx.elim
      · rename_i b hc
        rw [hc] at hn
        cases hn
      · exact hx.elim
    · rename_i c ho
      rw [ho] at hx
      exact hx.elim
    · cases hn
theorem wops_ok {draw : Bool} {all : Array Oper} {Q : Hid (XEnv → IHeap → Prop)} : ∀ (os : List Oper) (e : XEnv) (h : IHeap) (es0 : List Ent), wops P draw all os e h es0 (Q := Q) → ∃ e' h' es, OpsRun P rd all os e.act h es e'.act h' ∧ (draw = true → NiL all (es0.reverse ++ es)) ∧ Q.ap e' h'
  | [], e, h, es0, hx => ⟨e, h, [], .nil, fun hd => by simpa using hx.1 hd, hx.2⟩
  | o :: os, e, h, es0, hx => by
    unfold wops at hx
    rw [wantedE_eq e.act_rel] at hx
    split at hx
    · rename_i hw
      obtain ⟨v, h1, k, g1, g2⟩ := wop_ok (rd := rd) hw hx
      obtain ⟨e', h', es, r1, r2, r3⟩ := wops_ok os _ _ _ g2
      refine ⟨e', h', ⟨k, h, h1⟩ :: es, .cons g1 (by rw [XEnv.act_put]; exact r1), fun hd => ?_, r3⟩
      have := r2 hd
      rw [if_pos hd] at this
      simpa using this
    · rename_i hw
      obtain ⟨e', h', es, r1, r2, r3⟩ := wops_ok os _ _ _ hx
      refine ⟨e', h', ⟨.skip, h, h⟩ :: es, .cons (k := .skip) ⟨by simpa using hw, rfl, rfl⟩ (by rw [XEnv.act_put]; exact r1), fun hd => ?_, r3⟩
      have := r2 hd
      rw [if_pos hd] at this
      simpa using this
theorem wops_bad {draw : Bool} {all : Array Oper} {Q : Hid (XEnv → IHeap → Prop)} {o : Oper} (hb : badOp o = true) : ∀ {os : List Oper}, o ∈ os → ∀ {e : XEnv} {h : IHeap} {es : List Ent}, ¬ wops P draw all os e h es (Q := Q)
  | [], hm, _, _, _ => by simp at hm
  | p :: os, hm, e, h, es => by
    intro hx
    rw [List.mem_cons] at hm
    rcases hm with rfl | hm
    · unfold badOp at hb
      simp only [Bool.and_eq_true] at hb
      obtain ⟨h1, h2⟩ := hb
      split at h1
      · rename_i x ho
        split at h2
        · rename_i hg
          simp only [wops, wantedE, hg, if_true, wop, ho, jw, jgen] at hx
          rw [iop_panic (o := { o with op := .panic x, guard := none }) rfl] at hx
          exact hx
        · cases h2
      · cases h1
    · unfold wops at hx
      rw [wantedE_eq e.act_rel] at hx
      split at hx
      · rename_i hw
        obtain ⟨v, h1, k, g1, g2⟩ := wop_ok (rd := none) hw hx
        exact wops_bad hb hm g2
      · exact wops_bad hb hm hx

theorem WP_ok (hm : P.follows .mixedOrders = true) : ∀ (c : Code) (e : XEnv) (h : IHeap) (Q : Hid XQ), codeOk c = true → WP P rd c e h (Q := Q) → ∃ x e' h', IExec P rd c e.act h x e'.act h' ∧ Q.ap x e' h' := by
  intro c
  induction c with
  | skip => exact fun e h Q hc hx => ⟨_, _, _, .skip, hx⟩
  | label l => exact fun e h Q hc hx => ⟨_, _, _, .label, hx⟩
  | exit id => exact fun e h Q hc hx => ⟨_, _, _, .exit, hx⟩
  | goto l => exact fun e h Q hc hx => ⟨_, _, _, .goto, hx⟩
  | ret => exact fun e h Q hc hx => ⟨_, _, _, .ret, hx⟩
  | region id ops draw =>
    intro e h Q hc hx
    simp only [WP] at hx
    have hc : regionOk ops = true := by
      simp only [codeOk, Bool.or_eq_true] at hc
      rcases hc with hc | hc
      · exact hc
      · obtain ⟨o, ho, hb⟩ := Array.any_eq_true'.1 hc
        exact absurd hx (wops_bad hb (Array.mem_toList_iff.2 ho))
    obtain ⟨e', h', es, r1, r2, r3⟩ := wops_ok (rd := rd) _ _ _ _ hx
    exact ⟨_, e', h', .region hm hc r1 (fun hd => by simpa using r2 hd), r3⟩
  | seq c1 c2 ih1 ih2 =>
    intro e h Q hc hx
    simp only [codeOk, Bool.and_eq_true] at hc
    simp only [WP] at hx
    obtain ⟨x, e1, h1, g1, g2⟩ := ih1 _ _ _ hc.1 hx
    cases x with
    | normal =>
      obtain ⟨x, e2, h2, g3, g4⟩ := ih2 _ _ _ hc.2 g2
      exact ⟨x, e2, h2, .seq g1 g3, g4⟩
    | _ => exact ⟨_, _, _, .seq_out g1 (by simp), g2⟩
  | cond c c1 c2 ih1 ih2 =>
    intro e h Q hc hx
    simp only [codeOk, Bool.and_eq_true] at hc
    simp only [WP] at hx
    obtain ⟨b, hb, hx⟩ := atBool_inv hx
    rw [← XEnv.act_eval] at hb
    cases b with
    | true =>
      obtain ⟨x, e1, h1, g1, g2⟩ := ih1 _ _ _ hc.1.2 (hx.1 rfl)
      exact ⟨x, e1, h1, .cond hb hc.1.1 g1, g2⟩
    | false =>
      obtain ⟨x, e1, h1, g1, g2⟩ := ih2 _ _ _ hc.2 (hx.2 rfl)
      exact ⟨x, e1, h1, .cond hb hc.1.1 g1, g2⟩
  | block id c ih =>
    intro e h Q hc hx
    simp only [codeOk] at hc
    simp only [WP] at hx
    obtain ⟨x, e1, h1, g1, g2⟩ := ih _ _ _ hc hx
    exact ⟨_, e1, h1, .block g1, g2⟩
  | scope c ih =>
    intro e h Q hc hx
    simp only [codeOk] at hc
    simp only [WP] at hx
    obtain ⟨x, e1, h1, g1, g2⟩ := ih _ _ _ hc hx
    cases x with
    | goto l => exact g2.elim
    | _ => exact ⟨_, e1, h1, .scope g1 (fun l hl => by cases hl), g2⟩
  | loop c ih =>
    intro e h Q hc hx
    simp only [WP] at hx
    obtain ⟨x, e', h', g1, g2⟩ := hx
    exact ⟨x, e', h', .loop g1, g2⟩
  | rangeFunc g ps assign body ihx ihy =>
    intro e h Q hc hx
    simp only [WP] at hx
    exact hx
  | _ => exact fun e h Q hc hx => by simp only [WP] at hx

/-- A loop by an invariant, and a number that falls. -/
theorem WPL.inv (hm : P.follows .mixedOrders = true) {c : Code} (hc : codeOk c = true) {Q : Hid XQ} (I : Nat → XEnv → IHeap → Prop)
    (step : ∀ n e h, I n e h → WP P rd c e h (Q := ⟨fun x e' h' => match x with | .normal => ∃ m, m < n ∧ I m e' h' | x => Q.ap x e' h'⟩)) : ∀ (n : Nat) (e : XEnv) (h : IHeap), I n e h → WPL P rd c e h (Q := Q) := by
  intro n
  induction n using Nat.strongRecOn with
  | ind n ih =>
    intro e h hi
    obtain ⟨x, e1, h1, g1, g2⟩ := WP_ok hm _ _ _ _ hc (step n e h hi)
    cases x with
    | normal =>
      obtain ⟨m, hlt, hi'⟩ := g2
      obtain ⟨x, e2, h2, g3, g4⟩ := ih m hlt e1 h1 hi'
      exact ⟨x, e2, h2, .more g1 g3, g4⟩
    | _ => exact ⟨_, e1, h1, .stop g1 (by simp), g2⟩

/-- What is asked behind a function's code. -/
def FinQ (P : Program) (rs : List ResultVar) (Q : VQ) (x : Exit) (e : XEnv) (h : IHeap) : Prop :=
  match x with
  | .normal | .ret => (match marksOf e.dfr with
    | some bs => (match closeMarks bs h with
      | some h2 => (match iresultsE P e.get h2 rs with
        | some v => Q v h2
        | none => False)
      | none => False)
    | none => False)
  | _ => False
theorem closeMarks_grow : ∀ {bs : List Nat} {h h' : IHeap}, closeMarks bs h = some h' → Grow h h' ∧ h'.size = h.size
  | [], h, h', hc => by simp only [closeMarks, Option.some.injEq] at hc; subst hc; exact ⟨Grow.refl _, rfl⟩
  | b :: bs, h, h', hc => by
    unfold closeMarks at hc
    split at hc
    · rename_i hg
      obtain ⟨g1, g2⟩ := closeMarks_grow hc
      exact ⟨(Grow.set hg rfl (by simp)).trans g1, g2⟩
    · cases hc
theorem FN.intro (hm : P.follows .mixedOrders = true) {g : FuncId} {fn : Func} {c : Code} {args : Array Value} {h : IHeap} {Q : Hid VQ} (hf : P.funcs[g]? = some fn) (hb : fn.body = some c) (hok : codeOk c = true)
    (hx : WP P none c (startE fn args) h (Q := ⟨FinQ P fn.results.toList Q.ap⟩)) : FN P g args h (Q := Q) := by
  obtain ⟨x, e1, h1, g1, g2⟩ := WP_ok hm _ _ _ _ hok hx
  rw [← (startE_rel fn args).act_eq] at g1
  have fin : (match marksOf e1.dfr with
    | some bs => (match closeMarks bs h1 with
      | some h2 => (match iresultsE P e1.get h2 fn.results.toList with
        | some v => Q.ap v h2
        | none => False)
      | none => False)
    | none => False) → (x = .normal ∨ x = .ret) → FN P g args h (Q := Q) := by
    intro hq he
    split at hq
    · rename_i bs hd
      split at hq
      · rename_i h2 hcl
        split at hq
        · rename_i v hv
          obtain ⟨k1, k2⟩ := closeMarks_grow hcl
          rw [iresultsE_eq e1.act_rel] at hv
          exact ⟨v, h2, ICall.of_body hf hb g1 he (by rw [e1.act_rel.dfr]; exact marksOf_ok hd) hcl k1 k2 hv, hq⟩
        · exact hq.elim
      · exact hq.elim
    · exact hq.elim
  replace g2 : FinQ P fn.results.toList Q.ap x e1 h1 := g2
  unfold FinQ at g2
  split at g2
  · exact fin g2 (.inl rfl)
  · exact fin g2 (.inr rfl)
  · exact g2.elim
end
end Go.Proofs.Ytmobpbhbllhdcaa.Ideal
