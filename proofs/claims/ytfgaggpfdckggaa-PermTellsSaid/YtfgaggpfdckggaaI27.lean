/- The equations by which simp goes through code: none of them holds by sight, so each step of simp's is a step of the proof. -/
import Derived.Test.YtfgaggpfdckggaaI26
noncomputable section
namespace Go.Proofs.Ytfgaggpfdckggaa.Ideal
open Go.RowKit
set_option linter.unusedVariables false
set_option linter.unusedSimpArgs false
set_option linter.unnecessarySimpa false

def ent (draw : Bool) (k : Kind) (h h' : IHeap) (es : List Ent) : List Ent := if draw then ⟨k, h, h'⟩ :: es else []
theorem ent_tt (k : Kind) (h h' : IHeap) (es : List Ent) : ent true k h h' es = ⟨k, h, h'⟩ :: es := byEq rfl
theorem ent_ff (k : Kind) (h h' : IHeap) (es : List Ent) : ent false k h h' es = [] := byEq rfl
/-- Kinds that may be met in either order. -/
def niKE : Kind → Kind → Bool
  | .heavy, .heavy => false
  | .heavy, .read _ => false
  | .read _, .heavy => false
  | .alloc, .heavy => false
  | _, _ => true
def niK (ops : Array Oper) (es : List Ent) : Bool :=
  let bs := befores ops
  es.zipIdx.all fun (e', j) => es.zipIdx.all fun (e, i) => !decide (i < j) || ((bs.getD j 0).testBit i || niKE e.kind e'.kind)
theorem niK_ok {ops : Array Oper} {es : List Ent} (h : niK ops es = true) : NiL ops es := by
  intro i j e e' hij hi hj hb
  unfold niK at h
  rw [List.all_eq_true] at h
  have h1 := h (e', j) (List.mem_iff_getElem?.2 ⟨j, by simp [List.getElem?_zipIdx, hj]⟩)
  simp only [List.all_eq_true] at h1
  have h2 := h1 (e, i) (List.mem_iff_getElem?.2 ⟨i, by simp [List.getElem?_zipIdx, hi]⟩)
  simp only [Bool.or_eq_true, Bool.not_eq_true', decide_eq_false_iff_not] at h2
  rcases h2 with h2 | h2 | h2
  · exact absurd hij h2
  · unfold bef at hb
    rw [h2] at hb; cases hb
  · obtain ⟨k, p, q⟩ := e
    obtain ⟨k', p', q'⟩ := e'
    cases k <;> cases k' <;> first | trivial | (cases h2; done)
/-- The same, but for some pairs. -/
def niKx (ops : Array Oper) (es : List Ent) (pend : List (Nat × Nat)) : Bool :=
  let bs := befores ops
  es.zipIdx.all fun (e', j) => es.zipIdx.all fun (e, i) => !decide (i < j) || ((bs.getD j 0).testBit i || (niKE e.kind e'.kind || pend.any fun p => Nat.beq p.1 i && Nat.beq p.2 j))
def pendOk (es : List Ent) : List (Nat × Nat) → Prop
  | [] => True
  | (i, j) :: l => (match es[i]?, es[j]? with | some e, some e' => NiE e e' | _, _ => False) ∧ pendOk es l
theorem pendOk_get {es : List Ent} : ∀ {l : List (Nat × Nat)}, pendOk es l → ∀ p ∈ l, ∀ e e', es[p.1]? = some e → es[p.2]? = some e' → NiE e e'
  | [], _, p, hp, _, _, _, _ => by simp at hp
  | (i, j) :: l, h, p, hp, e, e', h1, h2 => by
    rw [List.mem_cons] at hp
    rcases hp with rfl | hp
    · have := h.1
      simp only at h1 h2
      rw [h1, h2] at this
      exact this
    · exact pendOk_get h.2 p hp e e' h1 h2
theorem niKx_ok {ops : Array Oper} {es : List Ent} {pend : List (Nat × Nat)} (h : niKx ops es pend = true) (hp : pendOk es pend) : NiL ops es := by
  intro i j e e' hij hi hj hb
  unfold niKx at h
  rw [List.all_eq_true] at h
  have h1 := h (e', j) (List.mem_iff_getElem?.2 ⟨j, by simp [List.getElem?_zipIdx, hj]⟩)
  simp only [List.all_eq_true] at h1
  have h2 := h1 (e, i) (List.mem_iff_getElem?.2 ⟨i, by simp [List.getElem?_zipIdx, hi]⟩)
  simp only [Bool.or_eq_true, Bool.not_eq_true', decide_eq_false_iff_not, List.any_eq_true, Bool.and_eq_true] at h2
  rcases h2 with h2 | h2 | h2 | ⟨p, hm, h3, h4⟩
  · exact absurd hij h2
  · unfold bef at hb
    rw [h2] at hb; cases hb
  · obtain ⟨k, p, q⟩ := e
    obtain ⟨k', p', q'⟩ := e'
    cases k <;> cases k' <;> first | trivial | (cases h2; done)
  · have e1 := Nat.eq_of_beq_eq_true h3
    have e2 := Nat.eq_of_beq_eq_true h4
    exact pendOk_get hp p hm e e' (by rw [e1]; exact hi) (by rw [e2]; exact hj)
/-- What a drawn region asks at its end. -/
def niC (draw : Bool) [E : Hid (Array Oper × List Ent)] : Prop := draw = true → NiL E.ap.1 E.ap.2.reverse
theorem niC_false (E : Hid (Array Oper × List Ent)) : niC false (E := E) = True := by simp [niC]
theorem niC_of {draw : Bool} {ops : Array Oper} {es : List Ent} (h : niK ops es.reverse = true) : niC draw (E := ⟨(ops, es)⟩) := fun _ => niK_ok h
theorem niC_pend {draw : Bool} {ops : Array Oper} {es : List Ent} (pend : List (Nat × Nat)) (h : niKx ops es.reverse pend = true) (hp : pendOk es.reverse pend) : niC draw (E := ⟨(ops, es)⟩) := fun _ => niKx_ok h hp
theorem niC_ni {draw : Bool} {ops : Array Oper} {es : List Ent} (h : NiL ops es.reverse) : niC draw (E := ⟨(ops, es)⟩) := fun _ => h
section
variable {P : Program} {rd : Option Nat} {draw : Bool} {all : Array Oper} {os : List Oper} {e : XEnv} {h : IHeap}
/-- What a guard's place tells. -/
def jgd (e : XEnv) (d : Option Tmp) (b : Bool) : Bool := match d with
  | some t => (match e.get t with | .bool c => c == b | _ => false)
  | none => false
theorem wantedE_none (d : Option Tmp) (op : Op) (t : TypeId) (p : String) (af : Array Edge) : wantedE all e ⟨d, op, t, p, af, none⟩ = true := byEq rfl
theorem wantedE_some (d : Option Tmp) (op : Op) (t : TypeId) (p : String) (af : Array Edge) (j : Nat) (b : Bool) : wantedE all e ⟨d, op, t, p, af, some (j, b)⟩ = jgd e ((all[j]?).bind (·.dst)) b := byEq rfl
theorem jgd_some (t : Tmp) (b : Bool) : jgd e (some t) b = (match e.get t with | .bool c => c == b | _ => false) := byEq rfl
/-- A fork; its ways are not gone before it is known which. -/
def jif (p : Prop) [K : Hid (Bool → Prop)] : Prop := (p → K.ap true) ∧ (¬ p → K.ap false)
theorem jif_true (K : Hid (Bool → Prop)) : jif True (K := K) = K.ap true := by simp [jif]
theorem jif_false (K : Hid (Bool → Prop)) : jif False (K := K) = K.ap false := by simp [jif]
theorem jif_and (p : Prop) (K : Hid (Bool → Prop)) : jif p (K := K) = ((p → K.ap true) ∧ (¬ p → K.ap false)) := byEq rfl
theorem jif_split {p : Prop} {K : Hid (Bool → Prop)} (h1 : p → K.ap true) (h2 : ¬ p → K.ap false) : jif p (K := K) := ⟨h1, h2⟩
theorem jif_bool (b : Bool) (K : Hid (Bool → Prop)) : jif (b = true) (K := K) = K.ap b := by cases b <;> simp [jif]
section
variable [Q : Hid (XEnv → IHeap → Prop)] [E : Hid (List Ent)]
variable (P draw all) in
def wopsH (os : List Oper) (e : XEnv) (h : IHeap) : Prop := wops P draw all os e h E.ap
variable (P draw all) in
def wdo (o : Oper) (os : List Oper) (e : XEnv) (h : IHeap) : Prop := wop P e o h (K := ⟨fun v h' k => wops P draw all os (e.put o.dst v) h' (ent draw k h h' E.ap)⟩)
/-- What is done behind an operation. -/
def wnx (P : Program) (draw : Bool) (all : Array Oper) (os : List Oper) (e : XEnv) (d : Option Tmp) (h : IHeap) (v : Value) (h' : IHeap) (k : Kind) [Q : Hid (XEnv → IHeap → Prop)] [E : Hid (List Ent)] : Prop := wops P draw all os (e.put d v) h' (ent draw k h h' E.ap)
theorem wnx_eq (d : Option Tmp) (v : Value) (h' : IHeap) (k : Kind) : wnx P draw all os e d h v h' k = wopsH P draw all os (e.put d v) h' (E := ⟨ent draw k h h' E.ap⟩) := byEq rfl
theorem wops_nil : wopsH P draw all [] e h = (niC draw (E := ⟨(all, E.ap)⟩) ∧ Q.ap e h) := byEq rfl
theorem wops_cons (o : Oper) : wopsH P draw all (o :: os) e h = jif (wantedE all e o = true) (K := ⟨fun b => if b = true then wdo P draw all o os e h else wopsH P draw all os (e.put o.dst undef) h (E := ⟨ent draw .skip h h E.ap⟩)⟩) := by
  rw [jif_bool, Hid.ap_mk]
  exact byEq rfl
variable (d : Option Tmp) (ty : TypeId) (p : String) (af : Array Edge) (g : Option (Nat × Bool))
theorem wdo_move (x : Operand) : wdo P draw all ⟨d, .move x, ty, p, af, g⟩ os e h = wnx P draw all os e d h (e.ev x) h .pure := byEq rfl
theorem wdo_assign (x : Operand) : wdo P draw all ⟨d, .assign x, ty, p, af, g⟩ os e h = wnx P draw all os e d h (e.ev x) h .pure := byEq rfl
theorem wdo_pick (c x y : Operand) : wdo P draw all ⟨d, .pick c x y, ty, p, af, g⟩ os e h = atBool (e.ev c) (K := ⟨fun b => wnx P draw all os e d h (if b = true then e.ev x else e.ev y) h .pure⟩) := byEq rfl
theorem wdo_load (t : TypeId) (x : Operand) : wdo P draw all ⟨d, .load t x, ty, p, af, g⟩ os e h = atPtr (e.ev x) (K := ⟨fun i q => atRow (h.get i) (K := ⟨fun _ _ cs => atSome (loadOf P t cs q) (K := ⟨fun v => wnx P draw all os e d h v h (.read i)⟩)⟩)⟩) := byEq rfl
theorem wdo_store (t : TypeId) (x y : Operand) : wdo P draw all ⟨d, .store t x y, ty, p, af, g⟩ os e h = atPtr (e.ev x) (K := ⟨fun i q => atRowW (h.get i) (K := ⟨fun esz cs => atSome (tsize P t) (K := ⟨fun n =>
      atIf ((e.ev y).cells.size = n ∧ q + n ≤ cs.length ∧ (e.ev y).cells.toList.all (·.oneCell') = true) (K := ⟨fun _ => wnx P draw all os e d h undef (h.set i (.row false esz (splice cs q (e.ev y).cells.toList))) .heavy⟩)⟩)⟩)⟩) := byEq rfl
theorem wdo_alloc (t : TypeId) : wdo P draw all ⟨d, .alloc t, ty, p, af, g⟩ os e h = atSome (zeroOf P t) (K := ⟨fun z => wnx P draw all os e d h (.pointer (some ⟨h.size, 0, none⟩)) (h.push (.row false 0 z.toList)) .alloc⟩) := byEq rfl
theorem wdo_box (t : TypeId) (x : Operand) : wdo P draw all ⟨d, .box t x, ty, p, af, g⟩ os e h = wnx P draw all os e d h (.pointer (some ⟨h.size, 0, none⟩)) (h.push (.row false 0 (e.ev x).cells.toList)) .alloc := byEq rfl
theorem wdo_fieldAddr (s : TypeId) (x : Operand) (f : Nat) : wdo P draw all ⟨d, .fieldAddr s x f, ty, p, af, g⟩ os e h = atPtr (e.ev x) (K := ⟨fun i q => atSome (fieldOff P s f) (K := ⟨fun k => wnx P draw all os e d h (.pointer (some ⟨i, q + k, none⟩)) h .pure⟩)⟩) := byEq rfl
theorem wdo_indexAddr (t : TypeId) (x ix : Operand) : wdo P draw all ⟨d, .indexAddr t x ix, ty, p, af, g⟩ os e h = atInt (e.ev ix) (K := ⟨fun _ j => jidx P t (e.ev x) j (K := ⟨fun v => wnx P draw all os e d h v h .pure⟩)⟩) := byEq rfl
theorem wdo_field (t : TypeId) (x : Operand) (f : Nat) : wdo P draw all ⟨d, .field t x f, ty, p, af, g⟩ os e h = atAgg (e.ev x) (K := ⟨fun cs => atSome (fldOf P t f) (K := ⟨fun r => atSome (partOf P r.1 cs r.2) (K := ⟨fun v => wnx P draw all os e d h v h .pure⟩)⟩)⟩) := byEq rfl
theorem wdo_extract (x : Operand) (f : Nat) : wdo P draw all ⟨d, .extract x f, ty, p, af, g⟩ os e h = atTup (e.ev x) (K := ⟨fun cs => atSome cs[f]? (K := ⟨fun v => wnx P draw all os e d h v h .pure⟩)⟩) := byEq rfl
theorem wdo_build (t : TypeId) (ps : Array (Nat × Operand)) : wdo P draw all ⟨d, .build t ps, ty, p, af, g⟩ os e h = atSome (buildOf P t (ps.map fun (i, x) => (i, e.ev x)).toList) (K := ⟨fun v => wnx P draw all os e d h v h .pure⟩) := byEq rfl
theorem wdo_buildSlice (t : TypeId) (n : Nat) (ps : Array (Nat × Operand)) : wdo P draw all ⟨d, .buildSlice t n ps, ty, p, af, g⟩ os e h = atSome (ibuildSlice P h t n (ps.map fun (i, x) => (i, e.ev x)).toList) (K := ⟨fun r => wnx P draw all os e d h r.1 r.2.1 (kindOf r.2.2)⟩) := byEq rfl
theorem wdo_makeSlice (t : TypeId) (x y : Operand) : wdo P draw all ⟨d, .makeSlice t x y, ty, p, af, g⟩ os e h = atSome (imakeSlice P h t (e.ev x) (e.ev y)) (K := ⟨fun r => wnx P draw all os e d h r.1 r.2.1 (kindOf r.2.2)⟩) := byEq rfl
theorem wdo_binOp (op : BinOp) (t t2 : TypeId) (x y : Operand) : wdo P draw all ⟨d, .binOp op t x y t2, ty, p, af, g⟩ os e h = atSome (jbin2 P t op (e.ev x) (e.ev y)) (K := ⟨fun v => wnx P draw all os e d h v h .pure⟩) := byEq rfl
theorem wdo_unOp (op : UnOp) (t : TypeId) (x : Operand) : wdo P draw all ⟨d, .unOp op t x, ty, p, af, g⟩ os e h = atSome (jun op (e.ev x)) (K := ⟨fun v => wnx P draw all os e d h v h .pure⟩) := byEq rfl
theorem wdo_makeFunc (f : FuncId) (fs cs : Array Operand) : wdo P draw all ⟨d, .makeFunc (.func f) fs cs, ty, p, af, g⟩ os e h = wnx P draw all os e d h (.func (.func f) (fs.map e.ev) (cs.map e.ev)) h .pure := byEq rfl
theorem wdo_nilCheck (x : Operand) : wdo P draw all ⟨d, .nilCheck x, ty, p, af, g⟩ os e h = jnil (e.ev x) (K := ⟨fun v => wnx P draw all os e d h v h .pure⟩) := byEq rfl
theorem wdo_callV (f : Operand) (args : Array Operand) (ts : Array TypeId) : wdo P draw all ⟨d, .call ⟨.value f, args, ts⟩, ty, p, af, g⟩ os e h = callV P (e.ev f) (args.map e.ev) e ⟨d, .call ⟨.value f, args, ts⟩, ty, p, af, g⟩ h (K := ⟨fun v h' k => wnx P draw all os e d h v h' k⟩) := byEq rfl
theorem wdo_len (x : Operand) (t : TypeId) : wdo P draw all ⟨d, .call ⟨.builtin .len, #[x], #[t]⟩, ty, p, af, g⟩ os e h = jlen P t (e.ev x) h (K := ⟨fun v h' k => wnx P draw all os e d h v h' k⟩) := byEq rfl
theorem wdo_append (x y : Operand) (t t2 : TypeId) : wdo P draw all ⟨d, .call ⟨.builtin .append, #[x, y], #[t, t2]⟩, ty, p, af, g⟩ os e h = atSome (iappend P h t t2 (e.ev x) (e.ev y)) (K := ⟨fun r => wnx P draw all os e d h r.1 r.2 .heavy⟩) := byEq rfl
theorem wdo_copy (x y : Operand) (t t2 : TypeId) : wdo P draw all ⟨d, .call ⟨.builtin .copy, #[x, y], #[t, t2]⟩, ty, p, af, g⟩ os e h = atSome (icopy P h t (e.ev x) (e.ev y)) (K := ⟨fun r => wnx P draw all os e d h r.1 r.2 .heavy⟩) := byEq rfl
theorem wdo_delete (x y : Operand) (t t2 : TypeId) : wdo P draw all ⟨d, .call ⟨.builtin .delete, #[x, y], #[t, t2]⟩, ty, p, af, g⟩ os e h = atSome (idelete P h t (e.ev x) (e.ev y)) (K := ⟨fun r => wnx P draw all os e d h undef r .heavy⟩) := byEq rfl
theorem wdo_max (x y : Operand) (ts : Array TypeId) : wdo P draw all ⟨d, .call ⟨.builtin .max, #[x, y], ts⟩, ty, p, af, g⟩ os e h = atSome (jmax (e.ev x) (e.ev y)) (K := ⟨fun v => wnx P draw all os e d h v h .pure⟩) := byEq rfl
theorem wdo_min (x y : Operand) (ts : Array TypeId) : wdo P draw all ⟨d, .call ⟨.builtin .min, #[x, y], ts⟩, ty, p, af, g⟩ os e h = atSome (jmin (e.ev x) (e.ev y)) (K := ⟨fun v => wnx P draw all os e d h v h .pure⟩) := byEq rfl
theorem wdo_convert (s t : TypeId) (x : Operand) : wdo P draw all ⟨d, .convert s t x, ty, p, af, g⟩ os e h = jcvt P e ⟨d, .convert s t x, ty, p, af, g⟩ h (e.ev x) (P.underlying s) (P.underlying t) (K := ⟨fun v h' k => wnx P draw all os e d h v h' k⟩) := byEq rfl
omit Q E in
theorem jcvt_int (o : Oper) (k0 k : IntKind) (n : Int) (ds : TypeDesc) [K : Hid VK] : jcvt P e o h (.int k0 n) (some ds) (some (.int k)) = K.ap (.int k (k.wrap n)) h .pure := byEq rfl
end
theorem WP_skip [Q : Hid XQ] : WP P rd .skip e h = Q.ap .normal e h := byEq rfl
theorem WP_label [Q : Hid XQ] (l : Nat) : WP P rd (.label l) e h = Q.ap .normal e h := byEq rfl
theorem WP_exit [Q : Hid XQ] (l : Nat) : WP P rd (.exit l) e h = Q.ap (.exit l) e h := byEq rfl
theorem WP_goto [Q : Hid XQ] (l : Nat) : WP P rd (.goto l) e h = Q.ap (.goto l) e h := byEq rfl
theorem WP_ret [Q : Hid XQ] : WP P rd .ret e h = Q.ap .ret e h := byEq rfl
theorem WP_region [Q : Hid XQ] (l : Nat) (ops : Array Oper) (draw : Bool) : WP P rd (.region l ops draw) e h = wopsH P draw ops ops.toList e h (Q := ⟨fun e' h' => Q.ap .normal e' h'⟩) (E := ⟨[]⟩) := byEq rfl
def thenQ (P : Program) (rd : Option Nat) (y : Code) (Q : Hid XQ) (r : Exit) (e : XEnv) (h : IHeap) : Prop := match r with | .normal => WP P rd y e h | r => Q.ap r e h
theorem thenQ_normal (y : Code) (Q : Hid XQ) : thenQ P rd y Q .normal e h = WP P rd y e h := byEq rfl
theorem thenQ_ret (y : Code) (Q : Hid XQ) : thenQ P rd y Q .ret e h = Q.ap .ret e h := byEq rfl
theorem thenQ_exit (y : Code) (Q : Hid XQ) (l : Nat) : thenQ P rd y Q (.exit l) e h = Q.ap (.exit l) e h := byEq rfl
theorem thenQ_goto (y : Code) (Q : Hid XQ) (l : Nat) : thenQ P rd y Q (.goto l) e h = Q.ap (.goto l) e h := byEq rfl
theorem WP_seq [Q : Hid XQ] (x y : Code) : WP P rd (.seq x y) e h = WP P rd x e h (Q := ⟨thenQ P rd y Q⟩) := byEq rfl
theorem WP_cond [Q : Hid XQ] (c : Operand) (x y : Code) : WP P rd (.cond c x y) e h = atBool (e.ev c) (K := ⟨fun b => jif (b = true) (K := ⟨fun b => if b = true then WP P rd x e h else WP P rd y e h⟩)⟩) := by
  unfold WP atBool
  cases e.ev c <;> first | rfl | (rename_i b; cases b <;> simp [Hid.ap, jif])
theorem WP_block [Q : Hid XQ] (l : Nat) (c : Code) : WP P rd (.block l c) e h = WP P rd c e h (Q := ⟨fun x e' h' => Q.ap (outOf l x) e' h'⟩) := byEq rfl
def scopeQ (Q : Hid XQ) (x : Exit) (e : XEnv) (h : IHeap) : Prop := match x with | .goto _ => False | x => Q.ap x e h
theorem scopeQ_normal (Q : Hid XQ) : scopeQ Q .normal e h = Q.ap .normal e h := byEq rfl
theorem scopeQ_ret (Q : Hid XQ) : scopeQ Q .ret e h = Q.ap .ret e h := byEq rfl
theorem scopeQ_exit (Q : Hid XQ) (l : Nat) : scopeQ Q (.exit l) e h = Q.ap (.exit l) e h := byEq rfl
theorem WP_scope [Q : Hid XQ] (c : Code) : WP P rd (.scope c) e h = WP P rd c e h (Q := ⟨scopeQ Q⟩) := byEq rfl
theorem WP_loop [Q : Hid XQ] (c : Code) : WP P rd (.loop c) e h = WPL P rd c e h := byEq rfl
theorem WP_range [Q : Hid XQ] (g : Operand) (ps : Array Tmp) (assign body : Code) : WP P rd (.rangeFunc g ps assign body) e h = WPR P rd g ps assign body e h := byEq rfl
def loopQ (P : Program) (rd : Option Nat) (c : Code) (Q : Hid XQ) (x : Exit) (e : XEnv) (h : IHeap) : Prop := match x with | .normal => WPL P rd c e h | x => Q.ap x e h
theorem loopQ_normal (c : Code) (Q : Hid XQ) : loopQ P rd c Q .normal e h = WPL P rd c e h := byEq rfl
theorem loopQ_ret (c : Code) (Q : Hid XQ) : loopQ P rd c Q .ret e h = Q.ap .ret e h := byEq rfl
theorem loopQ_exit (c : Code) (Q : Hid XQ) (l : Nat) : loopQ P rd c Q (.exit l) e h = Q.ap (.exit l) e h := byEq rfl
/-- A loop, gone round once. -/
theorem WPL.unroll (hm : P.follows .mixedOrders = true) {c : Code} (hc : codeOk c = true) {Q : Hid XQ} (hx : WP P rd c e h (Q := ⟨loopQ P rd c Q⟩)) : WPL P rd c e h (Q := Q) := by
  obtain ⟨x, e1, h1, g1, g2⟩ := WP_ok hm _ _ _ _ hc hx
  cases x with
  | normal =>
    obtain ⟨x, e2, h2, g3, g4⟩ := g2
    exact ⟨x, e2, h2, .more g1 g3, g4⟩
  | _ => exact ⟨_, e1, h1, .stop g1 (by simp), g2⟩
/-- A loop by an invariant, in the form that simp takes. -/
def invQ (I : Nat → XEnv → IHeap → Prop) (n : Nat) (Q : Hid XQ) (x : Exit) (e : XEnv) (h : IHeap) : Prop := match x with | .normal => ∃ m, m < n ∧ I m e h | x => Q.ap x e h
theorem invQ_normal (I : Nat → XEnv → IHeap → Prop) (n : Nat) (Q : Hid XQ) : invQ I n Q .normal e h = ∃ m, m < n ∧ I m e h := byEq rfl
theorem invQ_ret (I : Nat → XEnv → IHeap → Prop) (n : Nat) (Q : Hid XQ) : invQ I n Q .ret e h = Q.ap .ret e h := byEq rfl
theorem invQ_exit (I : Nat → XEnv → IHeap → Prop) (n : Nat) (Q : Hid XQ) (l : Nat) : invQ I n Q (.exit l) e h = Q.ap (.exit l) e h := byEq rfl
theorem WPL.by_inv (hm : P.follows .mixedOrders = true) {c : Code} (hc : codeOk c = true) {Q : Hid XQ} (I : Nat → XEnv → IHeap → Prop) (n : Nat) (h0 : I n e h)
    (step : ∀ n e h, I n e h → WP P rd c e h (Q := ⟨invQ I n Q⟩)) : WPL P rd c e h (Q := Q) :=
  WPL.inv hm hc I step n e h h0
theorem ite_and {p : Prop} [Decidable p] {a b : Prop} : (if p then a else b) = ((p → a) ∧ (¬ p → b)) := by
  by_cases h : p <;> simp [h]
theorem outOf_normal (l : Nat) : outOf l .normal = .normal := byEq rfl
theorem outOf_ret (l : Nat) : outOf l .ret = .ret := byEq rfl
theorem outOf_goto (l m : Nat) : outOf l (.goto m) = .goto m := byEq rfl
theorem outOf_exit (l m : Nat) : outOf l (.exit m) = if m = l then .normal else .exit m := byEq rfl
theorem ev_tmp (t : Nat) : e.ev (.tmp t) = e.get t := byEq rfl
theorem ev_const (v : Value) : e.ev (.const v) = v := byEq rfl
theorem ev_func (f : Nat) : e.ev (.func f) = .func (.func f) #[] #[] := byEq rfl
theorem ires1_tmp (get : Nat → Value) (t : Nat) : ires1E P get h (.tmp t) = some (get t) := byEq rfl
/-- What a result's cell holds. -/
def jcell (P : Program) (h : IHeap) (t : TypeId) (v : Value) : Option Value := match v with
  | .pointer (some ⟨i, q, none⟩) => (match h.get i with
      | some (.row _ _ cs) => loadOf P t cs q
      | _ => none)
  | _ => none
theorem ires1_cell (get : Nat → Value) (p : Nat) (t : TypeId) : ires1E P get h (.cell p t) = jcell P h t (get p) := byEq rfl
def rowLoad (P : Program) (t : TypeId) (q : Nat) (o : Option IObj) : Option Value := match o with | some (.row _ _ cs) => loadOf P t cs q | _ => none
theorem rowLoad_row (t : TypeId) (q : Nat) (ro : Bool) (esz : Nat) (cs : List Value) : rowLoad P t q (some (.row ro esz cs)) = loadOf P t cs q := byEq rfl
theorem jcell_ptr (i q : Nat) (t : TypeId) : jcell P h t (.pointer (some ⟨i, q, none⟩)) = rowLoad P t q (h.get i) := byEq rfl
end
end Go.Proofs.Ytfgaggpfdckggaa.Ideal
