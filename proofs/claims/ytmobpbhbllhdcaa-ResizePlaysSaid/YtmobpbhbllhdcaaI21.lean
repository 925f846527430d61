/- The ideal heap: I19, I20, I21. Code on the ideal heap, as a function; it is sound. -/
import Derived.Test.YtmobpbhbllhdcaaI18
import Derived.Below
noncomputable section
namespace Go.Proofs.Ytmobpbhbllhdcaa.Ideal
set_option linter.unusedVariables false
set_option linter.unusedSimpArgs false
set_option linter.unnecessarySimpa false

/-- Values that are the same by sight. -/
def veq : Value → Value → Bool
  | .bool a, .bool b => a == b
  | .int j a, .int k b => j == k && a == b
  | .string a, .string b => a.data.toList == b.data.toList
  | .pointer a, .pointer b => a == b
  | .slice a n c, .slice b m d => a == b && n == m && c == d
  | .map a, .map b => a == b
  | .nilFunc, .nilFunc => true
  | .nilIface, .nilIface => true
  | _, _ => false
theorem veq_ok {a b : Value} (h : veq a b = true) : a = b := by
  unfold veq at h
  split at h <;> first
    | rfl
    | (cases h; done)
    | (simp only [Bool.and_eq_true, beq_iff_eq] at h; first | rw [h] | rw [h.1, h.2] | rw [h.1.1, h.1.2, h.2])
    | skip
  all_goals
    rename_i s t
    simp only [beq_iff_eq] at h
    have h2 : s.data = t.data := Array.ext' h
    obtain ⟨x⟩ := s
    obtain ⟨y⟩ := t
    cases h2
    rfl
def leq : List Value → List Value → Bool
  | [], [] => true
  | a :: l, b :: m => veq a b && leq l m
  | _, _ => false
theorem leq_ok : ∀ {l m : List Value}, leq l m = true → l = m
  | [], [], _ => rfl
  | a :: l, b :: m, h => by
    simp only [leq, Bool.and_eq_true] at h
    rw [veq_ok h.1, leq_ok h.2]
  | [], _ :: _, h => by cases h
  | _ :: _, [], h => by cases h
def oeq : Option IObj → Option IObj → Bool
  | some (.row r e cs), some (.row r' e' cs') => r == r' && e == e' && leq cs cs'
  | some .dead, some .dead => true
  | none, none => true
  | _, _ => false
theorem oeq_ok {a b : Option IObj} (h : oeq a b = true) : a = b := by
  unfold oeq at h
  split at h
  · simp only [Bool.and_eq_true, beq_iff_eq] at h
    rw [h.1.1, h.1.2, leq_ok h.2]
  · rfl
  · rfl
  · cases h
def niEB (e e' : Ent) : Bool :=
  match e.kind, e'.kind with
  | .heavy, .heavy => false
  | .heavy, .read id => oeq (e.post.get id) (e.pre.get id)
  | .read id, .heavy => oeq (e'.post.get id) (e'.pre.get id)
  | .alloc, .heavy => oeq (e'.post.get e.pre.size) (e'.pre.get e.pre.size)
  | _, _ => true
theorem niEB_ok {e e' : Ent} (h : niEB e e' = true) : NiE e e' := by
  obtain ⟨k, p, q⟩ := e
  obtain ⟨k', p', q'⟩ := e'
  cases k <;> cases k' <;> simp only [niEB, NiE] at h ⊢ <;> first | exact oeq_ok h | (cases h; done)
def isHeavy : Kind → Bool | .heavy => true | _ => false
def niLB (ops : Array Oper) (es : List Ent) : Bool :=
  if es.all (fun e => !isHeavy e.kind) then true else
  let bs := befores ops
  es.zipIdx.all fun (e', j) => es.zipIdx.all fun (e, i) => !decide (i < j) || (niEB e e' || (bs.getD j 0).testBit i)
theorem niLB_ok {ops : Array Oper} {es : List Ent} (h : niLB ops es = true) : NiL ops es := by
  intro i j e e' hij hi hj hb
  unfold niLB at h
  split at h
  · rename_i hall
    rw [List.all_eq_true] at hall
    have h1 := hall e (List.mem_of_getElem? hi)
    have h2 := hall e' (List.mem_of_getElem? hj)
    unfold NiE
    split <;> rename_i k1 k2 <;> first | trivial | (rw [k1] at h1; cases h1; done) | (rw [k2] at h2; cases h2; done)
  · rw [List.all_eq_true] at h
    have h1 := h (e', j) (List.mem_iff_getElem?.2 ⟨j, by simp [List.getElem?_zipIdx, hj]⟩)
    simp only [List.all_eq_true] at h1
    have h2 := h1 (e, i) (List.mem_iff_getElem?.2 ⟨i, by simp [List.getElem?_zipIdx, hi]⟩)
    simp only [Bool.or_eq_true, Bool.not_eq_true', decide_eq_false_iff_not] at h2
    rcases h2 with h2 | h2 | h2
    · exact absurd hij h2
    · exact niEB_ok h2
    · unfold bef at hb
      rw [h2] at hb; cases hb

/-- A panic that is always come to. -/
def badOp (o : Oper) : Bool := (match o.op with | .panic _ => true | _ => false) && (match o.guard with | none => true | some _ => false)
/-- All regions of a code are well written (or never gone through). -/
def codeOk : Code → Bool
  | .region _ ops _ => regionOk ops || ops.any badOp
  | .seq x y => codeOk x && codeOk y
  | .cond c x y => operandOk c && codeOk x && codeOk y
  | .block _ c => codeOk c
  | .loop c => codeOk c
  | .scope c => codeOk c
  | .rangeFunc f _ x y => operandOk f && codeOk x && codeOk y
  | _ => true
def HOk (h : IHeap) : Prop := ∀ i L, h.get i = some (.loop L) → codeOk L.assign = true ∧ codeOk L.body = true

/-- Does a call go to this function: it has a body, and that is well written. -/
def FnsOk (P : Program) (okf : FuncId → Bool) : Prop := ∀ g, okf g = true → ∃ fn c, P.funcs[g]? = some fn ∧ (fn.name == "runtime.NumGoroutine") = false ∧ fn.body = some c ∧ codeOk c = true

/-- A frame's temporaries, as a tree. -/
structure XEnv where
  n : Nat
  t : Trie Value
  dfr : List Deferred
def XEnv.get (e : XEnv) (t : Nat) : Value := cond (Nat.ble (Nat.succ t) e.n) (Trie.getR undef e.t t) undef
theorem XEnv.get_def (e : XEnv) (t : Nat) : e.get t = if t < e.n then Trie.get undef t e.t t else undef := by
  unfold XEnv.get
  rw [cond_lt, Trie.getR_eq _ _ t t (Nat.le_refl _)]
def XEnv.ev (e : XEnv) : Operand → Value
  | .tmp t => e.get t
  | .const v => v
  | .global g => .pointer (some ⟨g, 0, none⟩)
  | .func f => .func (.func f) #[] #[]
def XEnv.put (e : XEnv) (d : Option Tmp) (v : Value) : XEnv :=
  match d with
  | some d => { e with t := Trie.set undef d e.t d v }
  | none => e
structure EnvRel (e : XEnv) (a : Act) : Prop where
  size : a.tmps.size = e.n
  get : ∀ t, a.tmps.getD t undef = e.get t
  dfr : a.defers = e.dfr
theorem EnvRel.ev {e : XEnv} {a : Act} (r : EnvRel e a) : a.eval = e.ev := by
  funext x
  cases x with
  | tmp t => exact r.get t
  | _ => rfl
theorem EnvRel.put {e : XEnv} {a : Act} (r : EnvRel e a) (d : Option Tmp) (v : Value) : EnvRel (e.put d v) (a.put d v) := by
  cases d with
  | none => exact r
  | some d =>
    refine ⟨?_, fun t => ?_, r.dfr⟩
    · show (a.tmps.setIfInBounds d v).size = e.n
      simpa using r.size
    · rw [put_get, r.size, r.get]
      rw [XEnv.get_def, XEnv.get_def]
      unfold XEnv.put
      dsimp only
      rw [Trie.get_set _ _ _ _ _ _ _ (Nat.le_refl _) (Nat.le_refl _)]
      by_cases h : t < e.n
      · rw [if_pos h, if_pos h]
        by_cases hd : d = t
        · rw [if_pos ⟨by rw [hd], h⟩, if_pos hd]
        · rw [if_neg (fun x => hd (Option.some.inj x.1)), if_neg hd]
      · rw [if_neg h, if_neg h, if_neg (fun x => h x.2)]
/-- A list's tree, from number i on. -/
def treeOf : List Value → Nat → Trie Value → Trie Value
  | [], _, t => t
  | v :: l, i, t => treeOf l (i + 1) (Trie.set undef i t i v)
theorem treeOf_get : ∀ (l : List Value) (i : Nat) (t : Trie Value) (j : Nat), Trie.get undef j (treeOf l i t) j = if i ≤ j ∧ j < i + l.length then l.getD (j - i) undef else Trie.get undef j t j
  | [], i, t, j => by rw [if_neg (by simp)]; rfl
  | v :: l, i, t, j => by
    unfold treeOf
    rw [treeOf_get l (i + 1) _ j, Trie.get_set _ _ _ _ _ _ _ (Nat.le_refl _) (Nat.le_refl _)]
    by_cases h : i = j
    · subst h
      rw [if_neg (by omega), if_pos rfl, if_pos (by simp), Nat.sub_self]; rfl
    · by_cases h2 : i + 1 ≤ j ∧ j < i + 1 + l.length
      · rw [if_pos h2, if_pos (by simp; omega), show j - i = (j - (i + 1)) + 1 by omega]; rfl
      · rw [if_neg h2, if_neg h, if_neg (by simp; omega)]
def envOf (l : List Value) (n : Nat) : XEnv := { n, t := treeOf l 0 .leaf, dfr := [] }
theorem leaf_get : ∀ (f j : Nat), Trie.get undef f .leaf j = undef
  | 0, _ => rfl
  | f + 1, j => by
    unfold Trie.get
    split
    · rfl
    · split <;> exact leaf_get f _
theorem envOf_rel (l : List Value) (n : Nat) : EnvRel (envOf l (l.length + n)) { tmps := (l ++ List.replicate n undef).toArray, defers := [] } := by
  refine ⟨by simp [envOf], fun t => ?_, rfl⟩
  rw [XEnv.get_def]
  unfold envOf
  dsimp only
  rw [treeOf_get, leaf_get]
  simp only [Nat.zero_add, Nat.zero_le, true_and, Nat.sub_zero]
  by_cases h : t < l.length
  · rw [if_pos (by omega), if_pos h]
    simp [List.getElem?_append_left h, h]
  · rw [if_neg h]
    have : ((l ++ List.replicate n undef).toArray.getD t undef) = undef := by
      simp only [Array.getD_eq_getD_getElem?, List.getElem?_toArray]
      rw [List.getElem?_append_right (by omega)]
      by_cases h2 : t - l.length < n
      · simp [h2]
      · simp [h2]
    rw [this]
    split <;> rfl
def startE (fn : Func) (args : Array Value) : XEnv := envOf args.toList (args.toList.length + (fn.ntmps - args.toList.length))
theorem startE_rel (fn : Func) (args : Array Value) : EnvRel (startE fn args) (startAct fn args) := by
  have := envOf_rel args.toList (fn.ntmps - args.toList.length)
  have e : (args.toList ++ List.replicate (fn.ntmps - args.toList.length) undef).toArray = args ++ Array.replicate (fn.ntmps - args.size) undef := Array.ext' (by simp)
  rw [e] at this
  exact this
/-- The temporaries as an array. -/
def XEnv.arr (e : XEnv) : Array Value := ⟨(List.range e.n).map e.get⟩
theorem EnvRel.arr {e : XEnv} {a : Act} (r : EnvRel e a) : e.arr = a.tmps := by
  apply Array.ext
  · simp [XEnv.arr, r.size]
  · intro i h1 h2
    have := r.get i
    simp only [Array.getD, h2, dif_pos] at this
    have h3 : a.tmps[i] = e.get i := this
    rw [h3]
    simp [XEnv.arr]
def bindE : List (Tmp × Value) → XEnv → XEnv
  | [], e => e
  | (t, v) :: l, e => bindE l (e.put (some t) v)
theorem bindE_rel : ∀ (l : List (Tmp × Value)) {e : XEnv} {a : Act}, EnvRel e a → EnvRel (bindE l e) { a with tmps := l.foldl (fun tmps (t, x) => tmps.setIfInBounds t x) a.tmps }
  | [], e, a, r => r
  | (t, v) :: l, e, a, r => bindE_rel l (r.put (some t) v)
def wantedE (all : Array Oper) (e : XEnv) (o : Oper) : Bool :=
  match o.guard with
  | none => true
  | some (j, want) => (match (all[j]?).bind (·.dst) with
    | some t => (match e.get t with | .bool b => b == want | _ => false)
    | none => false)
theorem wantedE_eq {e : XEnv} {a : Act} (r : EnvRel e a) (all : Array Oper) (o : Oper) : wantedE all e o = Region.wanted o (yielded all a.tmps) := by
  unfold wantedE Region.wanted
  cases o.guard with
  | none => rfl
  | some jw =>
    obtain ⟨j, want⟩ := jw
    dsimp only
    unfold yielded
    cases (all[j]?).bind (·.dst) with
    | none => simp
    | some t =>
      simp only [Option.bind_some]
      rw [← r.get t]
      by_cases h : t < a.tmps.size
      · have e1 : a.tmps[t]? = some (a.tmps.getD t undef) := by simp [Array.getD, h]
        rw [e1]
        generalize a.tmps.getD t undef = v
        cases v <;> simp
      · have e1 : a.tmps[t]? = none := Array.getElem?_eq_none (Nat.le_of_not_lt h)
        have e2 : a.tmps.getD t undef = undef := by simp only [Array.getD_eq_getD_getElem?, e1]; rfl
        rw [e1, e2]
        simp [undef]

def putK {β : Type} (e : XEnv) (d : Option Tmp) (v : Value) (k : XEnv → β) : β :=
  match d with
  | some d => Trie.setR undef e.t v d fun t' => k ⟨e.n, t', e.dfr⟩
  | none => k e
theorem putK_eq {β : Type} (e : XEnv) (d : Option Tmp) (v : Value) (k : XEnv → β) : putK e d v k = k (e.put d v) := by
  cases d with
  | none => rfl
  | some d =>
    show Trie.setR _ _ _ _ _ = _
    rw [Trie.setR_eq _ _ _ d d _ (Nat.le_refl _)]
    rfl
def treeK {β : Type} : List Value → Nat → Trie Value → (Trie Value → β) → β
  | [], _, t, k => k t
  | v :: l, i, t, k => Trie.setR undef t v i fun t' => treeK l (Nat.succ i) t' k
theorem treeK_eq {β : Type} : ∀ (l : List Value) (i : Nat) (t : Trie Value) (k : Trie Value → β), treeK l i t k = k (treeOf l i t)
  | [], _, _, _ => rfl
  | v :: l, i, t, k => by
    unfold treeK
    rw [Trie.setR_eq _ _ _ i i _ (Nat.le_refl _), treeK_eq l]
    rfl
def envK {β : Type} (l : List Value) (n : Nat) (k : XEnv → β) : β := treeK l (nat_lit 0) .leaf fun t => k ⟨n, t, []⟩
theorem envK_eq {β : Type} (l : List Value) (n : Nat) (k : XEnv → β) : envK l n k = k (envOf l n) := by
  unfold envK
  rw [treeK_eq]
  rfl
def bindK {β : Type} : List (Tmp × Value) → XEnv → (XEnv → β) → β
  | [], e, k => k e
  | (t, v) :: l, e, k => putK e (some t) v fun e' => bindK l e' k
theorem bindK_eq {β : Type} : ∀ (l : List (Tmp × Value)) (e : XEnv) (k : XEnv → β), bindK l e k = k (bindE l e)
  | [], _, _ => rfl
  | (t, v) :: l, e, k => by
    unfold bindK
    rw [putK_eq, bindK_eq l]
    rfl
def forceT {α β : Type} : Trie α → (Trie α → β) → β
  | .leaf, k => k .leaf
  | .node l v r, k => forceT l fun l' => forceT r fun r' => k (.node l' v r')
theorem forceT_eq {α β : Type} : ∀ (t : Trie α) (k : Trie α → β), forceT t k = k t
  | .leaf, _ => rfl
  | .node l v r, k => by unfold forceT; rw [forceT_eq l, forceT_eq r]
def forceH {β : Type} (h : IHeap) (k : IHeap → β) : β := forceT h.t fun t' => k ⟨h.size, t'⟩
theorem forceH_eq {β : Type} (h : IHeap) (k : IHeap → β) : forceH h k = k h := by
  unfold forceH
  rw [forceT_eq]

section
variable (P : Program) (okf : FuncId → Bool) (cf : FuncId → Array Value → IHeap → Option (Value × IHeap)) (rf : Nat → Array Value → IHeap → Option (Value × IHeap))

/-- What an operation calls. -/
inductive Callee1 where
  | fn (g : FuncId) (args : Array Value)
  | yld (l : Nat) (args : Array Value)
  | none
  | bad
def callee1 (ev : Operand → Value) (o : Oper) : Callee1 :=
  match o.op with
  | .call c => (match c.callee with
    | .value f => (match ev f with
      | .func (.func g) fs cs => .fn g (fs ++ c.args.map ev ++ cs)
      | .func (.yield l) fs cs => if fs = #[] ∧ cs = #[] then .yld l (c.args.map ev) else .bad
      | _ => .bad)
    | .builtin _ => .none
    | _ => .bad)
  | .defer _ => .bad
  | _ => .none
def kindOf : Cls → Kind
  | .pure => .pure
  | .read i => .read i
  | .alloc => .alloc
  | .heavy => .heavy
def xop (ev : Operand → Value) (o : Oper) (h : IHeap) : Option (Value × IHeap × Kind) :=
  match callee1 ev o with
  | .fn g args => if okf g then (cf g args h).map fun (v, h') => (v, h', .heavy) else (iplain P ev o).map fun v => (v, h, .pure)
  | .yld l args => (rf l args h).map fun (v, h') => (v, h', .heavy)
  | .none => (iop P ev o h).map fun (v, h', c) => (v, h', kindOf c)
  | .bad => none
def quietK : Kind → Bool | .pure | .read _ | .skip => true | _ => false
def xops (all : Array Oper) : List Oper → XEnv → IHeap → Option (XEnv × IHeap × List Ent)
  | [], e, h => some (e, h, [])
  | o :: os, e, h =>
    if wantedE all e o then
      (match xop P okf cf rf e.ev o h with
      | some (v, h', k) => if quietK k then
          forceV v fun v => putK e o.dst v fun e' => (match xops all os e' h with
          | some (e'', h'', es) => some (e'', h'', ⟨k, h, h⟩ :: es)
          | none => none)
        else forceV v fun v => putK e o.dst v fun e' => (match xops all os e' h' with
          | some (e'', h'', es) => some (e'', h'', ⟨k, h, h'⟩ :: es)
          | none => none)
      | none => none)
    else putK e o.dst undef fun e' => (match xops all os e' h with
      | some (e'', h'', es) => some (e'', h'', ⟨.skip, h, h⟩ :: es)
      | none => none)
def xloop (body : XEnv → IHeap → Option (Exit × XEnv × IHeap)) : Nat → XEnv → IHeap → Option (Exit × XEnv × IHeap)
  | 0, _, _ => none
  | n + 1, e, h => match body e h with
    | some (.normal, e', h') => xloop body n e' h'
    | r => r
def xpend : Option Code → Option Exit
  | none => some .normal
  | some .ret => some .ret
  | some (.exit id) => some (.exit id)
  | some (.goto l) => some (.goto l)
  | _ => none
def newLoopE (e : XEnv) (ps : Array Tmp) (assign body : Code) (b : Nat) : Loop := { state := .ready, pending := none, fn := 0, tmps := e.arr, params := ps, assign, body, defers := b }
def xcode (n : Nat) (rd : Option Nat) : Code → XEnv → IHeap → Option (Exit × XEnv × IHeap)
  | .skip, e, h => some (.normal, e, h)
  | .label _, e, h => some (.normal, e, h)
  | .exit id, e, h => some (.exit id, e, h)
  | .goto l, e, h => some (.goto l, e, h)
  | .ret, e, h => some (.ret, e, h)
  | .region _ ops draw, e, h => (match xops P okf cf rf ops ops.toList e h with
    | some (e', h', es) => if !draw || niLB ops es then some (.normal, e', h') else none
    | none => none)
  | .seq x y, e, h => (match xcode n rd x e h with
    | some (.normal, e', h') => xcode n rd y e' h'
    | r => r)
  | .cond c x y, e, h => (match e.ev c with
    | .bool true => xcode n rd x e h
    | .bool false => xcode n rd y e h
    | _ => none)
  | .block id c, e, h => (xcode n rd c e h).map fun (x, e', h') => (outOf id x, e', h')
  | .scope c, e, h => (match xcode n rd c e h with
    | some (.goto _, _, _) => none
    | r => r)
  | .loop c, e, h => xloop (fun e h => xcode n rd c e h) n e h
  | .rangeFunc g ps assign body, e, h => (match rd, e.ev g with
    | none, .func (.func f) fs cs => if okf f then
        pushH h .defs fun h1 => pushH h1 (.loop (newLoopE e ps assign body h.size)) fun h2 => (match cf f (fs ++ #[.func (.yield (h.size + 1)) #[] #[]] ++ cs) h2 with
        | some (_, h3) => (match h3.get (h.size + 1) with
          | some (.loop L3) => (match L3.state with
            | .busy => none
            | _ => (match xpend L3.pending with
              | some x => setH h3 (h.size + 1) (.loop { L3 with state := .exhausted }) fun h4 => some (x, { e with dfr := markOf h.size :: e.dfr }, h4)
              | none => none))
          | _ => none)
        | none => none) else none
    | _, _ => none)
  | _, _, _ => none
/-- The marks among the deferred calls. -/
def marksOf : List Deferred → Option (List Nat)
  | [] => some []
  | d :: ds => (match d.target with
    | .collected b => if d.args = #[] then (marksOf ds).map (b :: ·) else none
    | _ => none)
def ires1E (get : Nat → Value) (h : IHeap) : ResultVar → Option Value
  | .tmp t => some (get t)
  | .cell p t => match get p with
    | .pointer (some ⟨i, q, none⟩) => (match h.get i with
      | some (.row _ _ cs) => loadOf P t cs q
      | _ => none)
    | _ => none
def iresultsE (get : Nat → Value) (h : IHeap) (rs : List ResultVar) : Option Value :=
  match rs.mapM (ires1E P get h) with
  | some [v] => some v
  | some vs => some (.tuple vs.toArray)
  | none => none
def xfun (n : Nat) (f : FuncId) (args : Array Value) (h : IHeap) : Option (Value × IHeap) :=
  match P.funcs[f]? with
  | some fn => (match fn.body with
    | some c => (match xcode P okf cf rf n none c (startE fn args) h with
      | some (x, e1, h1) => (match x with
        | .normal | .ret => (match marksOf e1.dfr with
          | some bs => (match closeMarks bs h1 with
            | some h2 => (iresultsE P e1.get h2 fn.results.toList).map fun v => (v, h2)
            | none => none)
          | none => none)
        | _ => none)
      | none => none)
    | none => none)
  | none => none
def xround (n : Nat) (l : Nat) (args : Array Value) (h : IHeap) : Option (Value × IHeap) :=
  match h.get l with
  | some (.loop L) => if args.size = L.params.size then
      envK L.tmps.toList L.tmps.toList.length fun e0 => bindK (L.params.zip args).toList e0 fun e1 => (match xcode P okf cf rf n (some l) L.assign e1 h with
      | some (.normal, e1, h1) => (match h1.get l with
        | some (.loop L1) => (match L1.state with
          | .ready => setH h1 l (.loop { L1 with state := .busy }) fun hb => (match xcode P okf cf rf n (some l) L.body e1 hb with
            | some (x, _, h2) => (match h2.get l, x with
              | some (.loop L2), .normal => setH h2 l (.loop { L2 with state := .ready, pending := none }) fun h3 => some (.bool true, h3)
              | some (.loop L2), .ret => setH h2 l (.loop { L2 with state := .done, pending := some .ret }) fun h3 => some (.bool false, h3)
              | some (.loop L2), .exit id => setH h2 l (.loop { L2 with state := .done, pending := some (.exit id) }) fun h3 => some (.bool false, h3)
              | some (.loop L2), .goto t => setH h2 l (.loop { L2 with state := .done, pending := some (.goto t) }) fun h3 => some (.bool false, h3)
              | _, _ => none)
            | none => none)
          | _ => none)
        | _ => none)
      | _ => none) else none
  | _ => none
end
/-- n: how deep calls go; m: how often a loop goes round. -/
def xpair (P : Program) (okf : FuncId → Bool) (m : Nat) : Nat → (FuncId → Array Value → IHeap → Option (Value × IHeap)) × (Nat → Array Value → IHeap → Option (Value × IHeap))
  | 0 => (fun _ _ _ => none, fun _ _ _ => none)
  | n + 1 => (fun f args h => if okf f then xfun P okf (xpair P okf m n).1 (xpair P okf m n).2 m f args h else none, fun l args h => xround P okf (xpair P okf m n).1 (xpair P okf m n).2 m l args h)
def xcall (P : Program) (okf : FuncId → Bool) (m n : Nat) : FuncId → Array Value → IHeap → Option (Value × IHeap) := (xpair P okf m n).1
end Go.Proofs.Ytmobpbhbllhdcaa.Ideal
end
noncomputable section
namespace Go.Proofs.Ytmobpbhbllhdcaa.Ideal
set_option linter.unusedVariables false
set_option linter.unusedSimpArgs false
set_option linter.unnecessarySimpa false

/-- A step that makes no loops, and leaves those that are. -/
theorem HOk.push {h : IHeap} (hk : HOk h) {o : IObj} (ho : ∀ L, o = .loop L → codeOk L.assign = true ∧ codeOk L.body = true) : HOk (h.push o) := by
  intro i L hg
  rw [IHeap.get_push] at hg
  split at hg
  · exact ho L (Option.some.inj hg)
  · exact hk i L hg
theorem HOk.set {h : IHeap} (hk : HOk h) {i : Nat} {o : IObj} (hi : i < h.size) (ho : ∀ L, o = .loop L → codeOk L.assign = true ∧ codeOk L.body = true) : HOk (h.set i o) := by
  intro j L hg
  rw [IHeap.get_set _ _ _ _ hi] at hg
  split at hg
  · exact ho L (Option.some.inj hg)
  · exact hk j L hg

theorem icopy_grow {P : Program} {t : TypeId} {d x v : Value} {h h' : IHeap} (hu : icopy P h t d x = some (v, h')) (hk : HOk h) : Grow h h' ∧ HOk h' := by
  unfold icopy at hu
  split at hu
  · cases hu
  split at hu
  · cases hu
  split at hu
  · cases hu; exact ⟨Grow.refl _, hk⟩
  · split at hu
    · cases hu; exact ⟨Grow.refl _, hk⟩
    · split at hu
      · rename_i esz cs hg
        split at hu
        · cases hu
          exact ⟨Grow.set hg rfl (by simp), hk.set (IHeap.get_lt hg) (fun L e => by cases e)⟩
        · cases hu
      · cases hu
  · cases hu; exact ⟨Grow.refl _, hk⟩
  · cases hu
theorem iupdate_grow {P : Program} {t : TypeId} {x k u : Value} {h h' : IHeap} (hu : iupdate P h t x k u = some h') (hk : HOk h) : Grow h h' ∧ HOk h' := by
  unfold iupdate at hu
  split at hu
  · split at hu
    · rename_i es ck hg
      split at hu
      · split at hu
        · split at hu
          · split at hu
            · cases hu
              exact ⟨Grow.set hg rfl (by simp), hk.set (IHeap.get_lt hg) (fun L e => by cases e)⟩
            · cases hu
          · cases hu
        · cases hu
          exact ⟨Grow.set hg rfl (by simp), hk.set (IHeap.get_lt hg) (fun L e => by cases e)⟩
        · cases hu
      · cases hu
    · cases hu
  · cases hu
theorem idelete_grow {P : Program} {t : TypeId} {x k : Value} {h h' : IHeap} (hu : idelete P h t x k = some h') (hk : HOk h) : Grow h h' ∧ HOk h' := by
  unfold idelete at hu
  split at hu
  · split at hu
    · rename_i es ck hg
      split at hu
      · split at hu
        · cases hu
          exact ⟨Grow.set hg rfl (by simp), hk.set (IHeap.get_lt hg) (fun L e => by cases e)⟩
        · cases hu
          exact ⟨Grow.set hg rfl (by simp), hk.set (IHeap.get_lt hg) (fun L e => by cases e)⟩
        · cases hu
      · cases hu
    · cases hu
  · cases hu
theorem irange_grow {P : Program} {t : TypeId} {x v : Value} {h h' : IHeap} (hu : irange P h t x = some (v, h')) (hk : HOk h) : Grow h h' ∧ HOk h' := by
  unfold irange at hu
  split at hu
  · rw [pushH_eq] at hu
    cases hu
    exact ⟨Grow.push _ _, hk.push (fun L e => by cases e)⟩
  · split at hu
    · rw [pushH_eq] at hu
      cases hu
      exact ⟨Grow.push _ _, hk.push (fun L e => by cases e)⟩
    · cases hu
  · cases hu
theorem inext_grow {x v : Value} {h h' : IHeap} (hu : inext h x = some (v, h')) (hk : HOk h) : Grow h h' ∧ HOk h' := by
  unfold inext at hu
  split at hu
  · split at hu
    · cases hu; exact ⟨Grow.refl _, hk⟩
    · rename_i m since seen last hg
      split at hu
      · split at hu
        · cases hu
        · split at hu
          · cases hu; exact ⟨Grow.refl _, hk⟩
          · split at hu
            · rw [setH_eq] at hu
              cases hu
              exact ⟨Grow.set hg rfl (by simp), hk.set (IHeap.get_lt hg) (fun L e => by cases e)⟩
            · cases hu
          · cases hu
      · cases hu
    · cases hu
  · cases hu
theorem iop_grow {P : Program} {a : Act} {o : Oper} {h h' : IHeap} {v : Value} {c : Cls} (hi : iop P a.eval o h = some (v, h', c)) (hk : HOk h) : Grow h h' ∧ HOk h' := by
  have pure_case : ∀ {r}, (ipure P a.eval o).map (fun v => (v, h, Cls.pure)) = some r → r = (v, h', c) → Grow h h' ∧ HOk h' := by
    intro r hr e
    obtain ⟨u, hu, rfl⟩ := Option.map_eq_some_iff.mp hr
    cases e
    exact ⟨Grow.refl _, hk⟩
  unfold iop at hi
  split at hi
  · unfold iload at hi
    split at hi
    · split at hi
      · obtain ⟨u, hu, e⟩ := Option.map_eq_some_iff.mp hi
        cases e
        exact ⟨Grow.refl _, hk⟩
      · cases hi
    · cases hi
  · unfold istore at hi
    split at hi
    · split at hi
      · rename_i esz cs n hg hs
        split at hi
        · rw [forceL_eq, setH_eq] at hi
          cases hi
          exact ⟨Grow.set hg rfl (by simp), hk.set (IHeap.get_lt hg) (fun L e => by cases e)⟩
        · cases hi
      · cases hi
    · cases hi
  · rw [pushH_eq] at hi
    cases hi
    exact ⟨Grow.push _ _, hk.push (fun L e => by cases e)⟩
  · unfold ialloc at hi
    split at hi
    · rw [pushH_eq] at hi
      cases hi
      exact ⟨Grow.push _ _, hk.push (fun L e => by cases e)⟩
    · cases hi
  · unfold ibuildSlice at hi
    split at hi
    · split at hi
      · split at hi
        · obtain ⟨out, hf, e⟩ := Option.bind_eq_some_iff.mp hi
          rw [pushH_eq] at e
          cases e
          exact ⟨Grow.push _ _, hk.push (fun L e => by cases e)⟩
        · cases hi
      · cases hi
    · cases hi
  · unfold imakeSlice at hi
    split at hi
    · split at hi
      · split at hi
        · rw [pushH_eq] at hi
          cases hi
          exact ⟨Grow.push _ _, hk.push (fun L e => by cases e)⟩
        · cases hi
      · cases hi
    · cases hi
  · rw [pushH_eq] at hi
    cases hi
    exact ⟨Grow.push _ _, hk.push (fun L e => by cases e)⟩
  · split at hi
    · rename_i r hr
      cases hi
      unfold islice at hr
      split at hr
      · split at hr
        · split at hr
          · cases hr
            exact ⟨Grow.refl _, hk⟩
          · cases hr
        · cases hr
      · cases hr
    · exact pure_case hi rfl
  · unfold icall at hi
    split at hi
    · obtain ⟨⟨u, hu'⟩, hu, e⟩ := Option.map_eq_some_iff.mp hi
      cases e
      unfold iappend at hu
      split at hu
      · cases hu
      split at hu
      case h_2 => cases hu
      split at hu
      case h_1 => cases hu
      split at hu
      case isFalse => cases hu
      split at hu
      · split at hu
        · cases hu; exact ⟨Grow.refl _, hk⟩
        · split at hu
          · cases hu; exact ⟨Grow.push _ _, hk.push (fun L e => by cases e)⟩
          · cases hu
      · split at hu
        · cases hu; exact ⟨Grow.refl _, hk⟩
        · split at hu
          · cases hu; exact ⟨Grow.push _ _, hk.push (fun L e => by cases e)⟩
          · cases hu
      · split at hu
        · split at hu
          · cases hu; exact ⟨Grow.refl _, hk⟩
          · split at hu
            · rename_i esz cs hg
              split at hu
              · cases hu
                exact ⟨Grow.set hg rfl (by simp), hk.set (IHeap.get_lt hg) (fun L e => by cases e)⟩
              · cases hu
            · cases hu
        · split at hu
          · split at hu
            · rename_i esz cs hg
              split at hu
              · obtain ⟨olds, hsl, he⟩ := Option.map_eq_some_iff.mp hu
                cases he
                exact ⟨(Grow.set hg rfl (by simp)).trans (Grow.push _ _), (hk.set (IHeap.get_lt hg) (fun L e => by cases e)).push (fun L e => by cases e)⟩
              · cases hu
            · cases hu
          · cases hu
      · cases hu
    · obtain ⟨⟨u, hu'⟩, hu, e⟩ := Option.map_eq_some_iff.mp hi
      cases e
      exact icopy_grow hu hk
    · obtain ⟨u, hu, e⟩ := Option.map_eq_some_iff.mp hi
      cases e
      exact idelete_grow hu hk
    · split at hi
      · split at hi
        · cases hi; exact ⟨Grow.refl _, hk⟩
        · cases hi
      · exact pure_case hi rfl
    · exact pure_case hi rfl
  · obtain ⟨⟨u, r⟩, hu, e⟩ := Option.map_eq_some_iff.mp hi
    cases e
    exact ⟨Grow.refl _, hk⟩
  · obtain ⟨u, hu, e⟩ := Option.map_eq_some_iff.mp hi
    cases e
    exact iupdate_grow hu hk
  · obtain ⟨u, hu, e⟩ := Option.map_eq_some_iff.mp hi
    cases e
    exact iupdate_grow hu hk
  · rename_i src dst x ho
    split at hi
    · rename_i hc
      cases hi
      have := icvt_ok ho hc
      dsimp only at this
      obtain ⟨n, a1, a2, a3, a4⟩ := this
      subst a3
      exact ⟨Grow.push _ _, hk.push (fun L e => absurd e (a2 L))⟩
    · rename_i hc
      cases hi
      have := icvt_ok ho hc
      rw [this.1]
      exact ⟨Grow.refl _, hk⟩
    · rename_i hc
      cases hi
      have := icvt_ok ho hc
      rw [this.1]
      exact ⟨Grow.refl _, hk⟩
    · exact pure_case hi rfl
  · obtain ⟨⟨u, hu'⟩, hu, e⟩ := Option.map_eq_some_iff.mp hi
    cases e
    exact irange_grow hu hk
  · obtain ⟨⟨u, hu'⟩, hu, e⟩ := Option.map_eq_some_iff.mp hi
    cases e
    exact inext_grow hu hk
  · obtain ⟨u, hu, e⟩ := Option.map_eq_some_iff.mp hi
    cases e
    exact ⟨Grow.refl _, hk⟩
  · exact pure_case hi rfl

section
variable {P : Program} {okf : FuncId → Bool} {cf : FuncId → Array Value → IHeap → Option (Value × IHeap)} {rf : Nat → Array Value → IHeap → Option (Value × IHeap)}
/-- What the callees are, is sound. -/
structure Sound (P : Program) (okf : FuncId → Bool) (cf : FuncId → Array Value → IHeap → Option (Value × IHeap)) (rf : Nat → Array Value → IHeap → Option (Value × IHeap)) : Prop where
  fns : FnsOk P okf
  mixed : P.follows .mixedOrders = true
  call : ∀ f args h v h', HOk h → cf f args h = some (v, h') → ICall P f args h v h' ∧ HOk h'
  round : ∀ l args h v h', HOk h → rf l args h = some (v, h') → IRound P l args h v h' ∧ HOk h'

theorem xop_ok (s : Sound P okf cf rf) {rd : Option Nat} {all : Array Oper} {a : Act} {o : Oper} {h h' : IHeap} {v : Value} {k : Kind} (hk : HOk h) (hw : Region.wanted o (yielded all a.tmps) = true) (hx : xop P okf cf rf a.eval o h = some (v, h', k)) : KOk P rd all o a h v h' k ∧ HOk h' := by
  have plain : ∀ (hd : ∀ c, o.op ≠ .defer c), (iop P a.eval o h).map (fun (v, h', c) => (v, h', kindOf c)) = some (v, h', k) → KOk P rd all o a h v h' k ∧ HOk h' := by
    intro hd hm
    obtain ⟨⟨u, hu, c⟩, h1, e⟩ := Option.map_eq_some_iff.mp hm
    cases e
    have h2 := iop_ok h1
    obtain ⟨h3, h4⟩ := iop_grow h1 hk
    refine ⟨?_, h4⟩
    cases c with
    | pure => exact ⟨hw, hd, h2.1, h2.2⟩
    | read i => exact ⟨hw, hd, h2.1, h2.2⟩
    | alloc => obtain ⟨n, a1, a2, a3⟩ := h2; exact ⟨hw, hd, n, a1, a2, a3⟩
    | heavy => exact ⟨hw, h3, HOp.of_mem hd h2⟩
  unfold xop at hx
  unfold callee1 at hx
  split at hx
  · rename_i g args hc
    split at hx
    · rename_i hok
      obtain ⟨⟨u, hu⟩, h1, e⟩ := Option.map_eq_some_iff.mp hx
      cases e
      obtain ⟨fn, c0, e1, e2, e3, e4⟩ := s.fns g hok
      obtain ⟨h2, h3⟩ := s.call _ _ _ _ _ hk h1
      split at hc
      · rename_i c ho
        split at hc
        · rename_i f hcal
          split at hc
          · rename_i g' fs cs hf
            cases hc
            exact ⟨⟨hw, h2.grow, HOp.call ho hcal hf e1 e2 (by rw [e3]; rfl) h2⟩, h3⟩
          · split at hc <;> cases hc
          · cases hc
        · cases hc
        · cases hc
      · cases hc
      · cases hc
    · obtain ⟨u, h1, e⟩ := Option.map_eq_some_iff.mp hx
      cases e
      exact ⟨⟨hw, fun c hd => (by simp [hd] at hc), rfl, iplain_ok h1⟩, hk⟩
  · rename_i l args hc
    obtain ⟨⟨u, hu⟩, h1, e⟩ := Option.map_eq_some_iff.mp hx
    cases e
    obtain ⟨h2, h3⟩ := s.round _ _ _ _ _ hk h1
    split at hc
    · rename_i c ho
      split at hc
      · rename_i f hcal
        split at hc
        · cases hc
        · rename_i l' fs cs hf
          split at hc
          · rename_i hemp
            cases hc
            obtain ⟨rfl, rfl⟩ := hemp
            exact ⟨⟨hw, h2.grow, HOp.yield ho hcal hf h2⟩, h3⟩
          · cases hc
        · cases hc
      · cases hc
      · cases hc
    · cases hc
    · cases hc
  · rename_i hc
    refine plain (fun c hd => ?_) hx
    rw [hd] at hc
    cases hc
  · cases hx

theorem quiet_same {rd : Option Nat} {all : Array Oper} {a : Act} {o : Oper} {h h' : IHeap} {v : Value} {k : Kind} (hq : quietK k = true) (hk : KOk P rd all o a h v h' k) : h' = h := by
  cases k with
  | skip => exact hk.2.2
  | pure => exact hk.2.2.1
  | read id => exact hk.2.2.1
  | alloc => cases hq
  | heavy => cases hq

theorem xops_ok (s : Sound P okf cf rf) {rd : Option Nat} {all : Array Oper} : ∀ (os : List Oper) (e e' : XEnv) (a : Act) (h h' : IHeap) (es : List Ent), HOk h → EnvRel e a → xops P okf cf rf all os e h = some (e', h', es) → ∃ a', EnvRel e' a' ∧ OpsRun P rd all os a h es a' h' ∧ HOk h'
  | [], e, e', a, h, h', es, hk, hr, hx => by
    simp only [xops, Option.some.injEq, Prod.mk.injEq] at hx
    obtain ⟨rfl, rfl, rfl⟩ := hx
    exact ⟨a, hr, .nil, hk⟩
  | o :: os, e, e', a, h, h', es, hk, hr, hx => by
    unfold xops at hx
    rw [wantedE_eq hr] at hx
    split at hx
    · rename_i hw
      split at hx
      · rename_i v h1 k h2
        rw [← hr.ev] at h2
        obtain ⟨g1, g2⟩ := xop_ok (rd := rd) s hk hw h2
        split at hx
        · rename_i hq
          have := quiet_same hq g1
          subst this
          rw [forceV_eq, putK_eq] at hx
          split at hx
          · rename_i a2 h3 es' hrec
            cases hx
            obtain ⟨a', g3, g4, g5⟩ := xops_ok s os _ _ _ _ _ _ g2 (hr.put o.dst v) hrec
            exact ⟨a', g3, .cons g1 g4, g5⟩
          · cases hx
        · rw [forceV_eq, putK_eq] at hx
          split at hx
          · rename_i a2 h3 es' hrec
            cases hx
            obtain ⟨a', g3, g4, g5⟩ := xops_ok s os _ _ _ _ _ _ g2 (hr.put o.dst v) hrec
            exact ⟨a', g3, .cons g1 g4, g5⟩
          · cases hx
      · cases hx
    · rename_i hw
      rw [putK_eq] at hx
      split at hx
      · rename_i a2 h3 es' hrec
        cases hx
        obtain ⟨a', g3, g4, g5⟩ := xops_ok s os _ _ _ _ _ _ hk (hr.put o.dst undef) hrec
        exact ⟨a', g3, .cons (k := .skip) ⟨by simpa using hw, rfl, rfl⟩ g4, g5⟩
      · cases hx

theorem xpend_ok {rd : Option Nat} {j : Option Code} {e : Exit} {a : Act} {h : IHeap} (hx : xpend j = some e) : goesOn P rd j a h e a h := by
  unfold xpend at hx
  split at hx <;> cases hx
  · exact ⟨rfl, rfl, rfl⟩
  · exact IExec.ret
  · exact IExec.exit
  · exact IExec.goto

theorem xloop_ok {rd : Option Nat} {c : Code} {body : XEnv → IHeap → Option (Exit × XEnv × IHeap)} (hb : ∀ e h x e' h' a, HOk h → EnvRel e a → body e h = some (x, e', h') → ∃ a', EnvRel e' a' ∧ IExec P rd c a h x a' h' ∧ HOk h') : ∀ (n : Nat) (e e' : XEnv) (a : Act) (h h' : IHeap) (x : Exit), HOk h → EnvRel e a → xloop body n e h = some (x, e', h') → ∃ a', EnvRel e' a' ∧ ILoop P rd c a h x a' h' ∧ HOk h'
  | 0, _, _, _, _, _, _, _, _, hx => by cases hx
  | n + 1, e, e', a, h, h', x, hk, hr, hx => by
    unfold xloop at hx
    split at hx
    · rename_i e1 h1 hrun
      obtain ⟨a1, g0, g1, g2⟩ := hb _ _ _ _ _ _ hk hr hrun
      obtain ⟨a', g3, g4, g5⟩ := xloop_ok hb n _ _ _ _ _ _ g2 g0 hx
      exact ⟨a', g3, .more g1 g4, g5⟩
    · rename_i hne
      obtain ⟨a1, g0, g1, g2⟩ := hb _ _ _ _ _ _ hk hr hx
      exact ⟨a1, g0, .stop g1 (fun he => by subst he; exact hne _ _ hx), g2⟩

theorem xops_bad {all : Array Oper} {o : Oper} (hb : badOp o = true) : ∀ {os : List Oper}, o ∈ os → ∀ {e : XEnv} {h : IHeap}, xops P okf cf rf all os e h = none
  | [], hm, _, _ => by simp at hm
  | p :: os, hm, e, h => by
    rw [List.mem_cons] at hm
    rcases hm with rfl | hm
    · unfold badOp at hb
      simp only [Bool.and_eq_true] at hb
      obtain ⟨h1, h2⟩ := hb
      split at h1
      · rename_i x ho
        split at h2
        · rename_i hg
          have hx : xop P okf cf rf e.ev o h = none := by
            simp only [xop, callee1, ho, iop_panic ho, Option.map_none]
          simp only [xops, wantedE, hg, if_true, hx]
        · cases h2
      · cases h1
    · have ih := fun e h => xops_bad (all := all) hb hm (e := e) (h := h)
      unfold xops
      split
      · split
        · split <;> simp only [forceV_eq, putK_eq, ih]
        · rfl
      · simp only [putK_eq, ih]
theorem xcode_ok (s : Sound P okf cf rf) (n : Nat) (rd : Option Nat) : ∀ (c : Code) (e : XEnv) (h : IHeap) (x : Exit) (e' : XEnv) (h' : IHeap) (a : Act), codeOk c = true → HOk h → EnvRel e a → xcode P okf cf rf n rd c e h = some (x, e', h') → ∃ a', EnvRel e' a' ∧ IExec P rd c a h x a' h' ∧ HOk h' := by
  intro c
  induction c with
  | skip => intro e h x e' h' a hc hk hr hx; simp only [xcode, Option.some.injEq, Prod.mk.injEq] at hx; obtain ⟨rfl, rfl, rfl⟩ := hx; exact ⟨a, hr, .skip, hk⟩
  | label l => intro e h x e' h' a hc hk hr hx; simp only [xcode, Option.some.injEq, Prod.mk.injEq] at hx; obtain ⟨rfl, rfl, rfl⟩ := hx; exact ⟨a, hr, .label, hk⟩
  | exit id => intro e h x e' h' a hc hk hr hx; simp only [xcode, Option.some.injEq, Prod.mk.injEq] at hx; obtain ⟨rfl, rfl, rfl⟩ := hx; exact ⟨a, hr, .exit, hk⟩
  | goto l => intro e h x e' h' a hc hk hr hx; simp only [xcode, Option.some.injEq, Prod.mk.injEq] at hx; obtain ⟨rfl, rfl, rfl⟩ := hx; exact ⟨a, hr, .goto, hk⟩
  | ret => intro e h x e' h' a hc hk hr hx; simp only [xcode, Option.some.injEq, Prod.mk.injEq] at hx; obtain ⟨rfl, rfl, rfl⟩ := hx; exact ⟨a, hr, .ret, hk⟩
  | region id ops draw =>
    intro e h x e' h' a hc hk hr hx
    simp only [xcode] at hx
    split at hx
    · rename_i e1 h1 es hrun
      split at hx
      · rename_i hni
        cases hx
        obtain ⟨a', g0, g1, g2⟩ := xops_ok (rd := rd) s _ _ _ _ _ _ _ hk hr hrun
        have hc : regionOk ops = true := by
          simp only [codeOk, Bool.or_eq_true] at hc
          rcases hc with hc | hc
          · exact hc
          · obtain ⟨o, ho, hb⟩ := Array.any_eq_true'.1 hc
            rw [xops_bad hb (Array.mem_toList_iff.2 ho)] at hrun
            cases hrun
        refine ⟨a', g0, .region s.mixed hc g1 (fun hd => niLB_ok ?_), g2⟩
        subst hd
        simpa using hni
      · cases hx
    · cases hx
  | seq c1 c2 ih1 ih2 =>
    intro e h x e' h' a hc hk hr hx
    simp only [codeOk, Bool.and_eq_true] at hc
    simp only [xcode] at hx
    split at hx
    · rename_i e1 h1 hrun
      obtain ⟨a1, g0, g1, g2⟩ := ih1 _ _ _ _ _ _ hc.1 hk hr hrun
      obtain ⟨a2, g3, g4, g5⟩ := ih2 _ _ _ _ _ _ hc.2 g2 g0 hx
      exact ⟨a2, g3, .seq g1 g4, g5⟩
    · rename_i hne
      obtain ⟨a1, g0, g1, g2⟩ := ih1 _ _ _ _ _ _ hc.1 hk hr hx
      exact ⟨a1, g0, .seq_out g1 (fun he => by subst he; exact hne _ _ hx), g2⟩
  | cond c c1 c2 ih1 ih2 =>
    intro e h x e' h' a hc hk hr hx
    simp only [codeOk, Bool.and_eq_true] at hc
    simp only [xcode] at hx
    rw [← hr.ev] at hx
    split at hx
    · rename_i ht
      obtain ⟨a1, g0, g1, g2⟩ := ih1 _ _ _ _ _ _ hc.1.2 hk hr hx
      exact ⟨a1, g0, .cond ht hc.1.1 g1, g2⟩
    · rename_i ht
      obtain ⟨a1, g0, g1, g2⟩ := ih2 _ _ _ _ _ _ hc.2 hk hr hx
      exact ⟨a1, g0, .cond ht hc.1.1 g1, g2⟩
    · cases hx
  | block id c ih =>
    intro e h x e' h' a hc hk hr hx
    simp only [codeOk] at hc
    simp only [xcode] at hx
    obtain ⟨⟨x1, e1, h1⟩, hrun, he⟩ := Option.map_eq_some_iff.mp hx
    cases he
    obtain ⟨a1, g0, g1, g2⟩ := ih _ _ _ _ _ _ hc hk hr hrun
    exact ⟨a1, g0, .block g1, g2⟩
  | scope c ih =>
    intro e h x e' h' a hc hk hr hx
    simp only [codeOk] at hc
    simp only [xcode] at hx
    split at hx
    · cases hx
    · rename_i hng
      obtain ⟨a1, g0, g1, g2⟩ := ih _ _ _ _ _ _ hc hk hr hx
      exact ⟨a1, g0, .scope g1 (fun l hl => hng l e' h' (by rw [hx, hl])), g2⟩
  | loop c ih =>
    intro e h x e' h' a hc hk hr hx
    simp only [codeOk] at hc
    simp only [xcode] at hx
    obtain ⟨a1, g0, g1, g2⟩ := xloop_ok (rd := rd) (c := c) (fun e h x e' h' a hk hr hx => ih e h x e' h' a hc hk hr hx) n _ _ _ _ _ _ hk hr hx
    exact ⟨a1, g0, .loop g1, g2⟩
  | rangeFunc g ps assign body ihx ihy =>
    intro e h x e' h' a hc hk hr hx
    simp only [codeOk, Bool.and_eq_true] at hc
    simp only [xcode, pushH_eq, setH_eq] at hx
    have hnl : newLoopE e ps assign body h.size = newLoop a ps assign body h.size := by
      unfold newLoopE newLoop
      rw [hr.arr]
    rw [hnl, ← hr.ev] at hx
    split at hx
    · rename_i f fs cs hg
      split at hx
      · rename_i hok
        split at hx
        · rename_i u h3 hcall
          split at hx
          · rename_i L3 hg3
            split at hx
            · cases hx
            · rename_i hst
              split at hx
              · rename_i x0 hp
                cases hx
                obtain ⟨fn, c0, e1, e2, e3, e4⟩ := s.fns f hok
                have hk2 : HOk ((h.push .defs).push (.loop (newLoop a ps assign body h.size))) := (hk.push (fun L e => by cases e)).push (fun L e => by cases e; exact ⟨hc.1.2, hc.2⟩)
                obtain ⟨g1, g2⟩ := s.call _ _ _ _ _ hk2 hcall
                exact ⟨{ a with defers := markOf h.size :: a.defers }, ⟨hr.size, hr.get, by rw [hr.dfr]⟩, IExec.rangeFunc hc.1.1 hg e1 e2 (by rw [e3]; rfl) g1 hg3 hst rfl (xpend_ok hp), g2.set (IHeap.get_lt hg3) (fun L e => by cases e; exact g2 _ L3 hg3)⟩
              · cases hx
          · cases hx
        · cases hx
      · cases hx
    · cases hx
  | _ => intro e h x e' h' a hc hk hr hx; simp only [xcode] at hx; cases hx

theorem iresultsE_eq {e : XEnv} {a : Act} (r : EnvRel e a) (h : IHeap) (rs : Array ResultVar) : iresultsE P e.get h rs.toList = iresults P h rs a.tmps := by
  have h1 : ires1E P e.get h = ires1 P h a.tmps := by
    funext rv
    cases rv with
    | tmp t => simp only [ires1E, ires1, r.get]
    | cell p t => simp only [ires1E, ires1, r.get]; rfl
  unfold iresultsE iresults
  rw [h1]
  rfl
theorem marksOf_ok : ∀ {ds : List Deferred} {bs : List Nat}, marksOf ds = some bs → ds = bs.map markOf
  | [], bs, h => by simp only [marksOf, Option.some.injEq] at h; subst h; rfl
  | d :: ds, bs, h => by
    unfold marksOf at h
    split at h
    · rename_i b ht
      split at h
      · rename_i ha
        obtain ⟨bs', h1, rfl⟩ := Option.map_eq_some_iff.mp h
        rw [marksOf_ok h1]
        obtain ⟨t, ar⟩ := d
        simp only at ht ha
        subst ht ha
        rfl
      · cases h
    · cases h
theorem closeMarks_ok : ∀ {bs : List Nat} {h h' : IHeap}, closeMarks bs h = some h' → HOk h → Grow h h' ∧ h'.size = h.size ∧ HOk h'
  | [], h, h', hc, hk => by simp only [closeMarks, Option.some.injEq] at hc; subst hc; exact ⟨Grow.refl _, rfl, hk⟩
  | b :: bs, h, h', hc, hk => by
    unfold closeMarks at hc
    split at hc
    · rename_i hg
      obtain ⟨g1, g2, g3⟩ := closeMarks_ok hc (hk.set (IHeap.get_lt hg) (fun L e => by cases e))
      exact ⟨(Grow.set hg rfl (by simp)).trans g1, g2, g3⟩
    · cases hc
theorem xfun_ok (s : Sound P okf cf rf) (n : Nat) {f : FuncId} (hok : okf f = true) {args : Array Value} {h h' : IHeap} {v : Value} (hk : HOk h) (hx : xfun P okf cf rf n f args h = some (v, h')) : ICall P f args h v h' ∧ HOk h' := by
  obtain ⟨fn, c, e1, e2, e3, e4⟩ := s.fns f hok
  unfold xfun at hx
  rw [e1] at hx
  dsimp only at hx
  rw [e3] at hx
  dsimp only at hx
  split at hx
  · rename_i x env h1 hr
    obtain ⟨a1, g0, g1, g2⟩ := xcode_ok s n none _ _ _ _ _ _ _ e4 hk (startE_rel fn args) hr
    have fin : (match marksOf env.dfr with
          | some bs => (match closeMarks bs h1 with
            | some h2 => (iresultsE P env.get h2 fn.results.toList).map fun v => (v, h2)
            | none => none)
          | none => none) = some (v, h') → (x = .normal ∨ x = .ret) → ICall P f args h v h' ∧ HOk h' := by
      intro hx he
      split at hx
      · rename_i bs hm
        split at hx
        · rename_i h2 hc
          obtain ⟨u, hu, ee⟩ := Option.map_eq_some_iff.mp hx
          cases ee
          obtain ⟨k1, k2, k3⟩ := closeMarks_ok hc g2
          rw [iresultsE_eq g0] at hu
          exact ⟨ICall.of_body e1 e3 g1 he (by rw [g0.dfr]; exact marksOf_ok hm) hc k1 k2 hu, k3⟩
        · cases hx
      · cases hx
    split at hx
    · exact fin hx (.inl rfl)
    · exact fin hx (.inr rfl)
    · cases hx
  · cases hx
theorem xround_ok (s : Sound P okf cf rf) (n : Nat) {l : Nat} {args : Array Value} {h h' : IHeap} {v : Value} (hk : HOk h) (hx : xround P okf cf rf n l args h = some (v, h')) : IRound P l args h v h' ∧ HOk h' := by
  unfold xround at hx
  simp only [setH_eq, envK_eq, bindK_eq] at hx
  split at hx
  · rename_i L hg
    obtain ⟨c1, c2⟩ := hk _ _ hg
    have r0 : EnvRel (bindE (L.params.zip args).toList (envOf L.tmps.toList L.tmps.toList.length)) { tmps := (L.params.zip args).foldl (fun tmps (t, x) => tmps.setIfInBounds t x) L.tmps, defers := [] } := by
      have h1 := envOf_rel L.tmps.toList 0
      simp only [Nat.add_zero, List.replicate_zero, List.append_nil, Array.toArray_toList] at h1
      have h2 := bindE_rel (L.params.zip args).toList h1
      rw [← Array.foldl_toList]
      exact h2
    split at hx
    · rename_i hsz
      split at hx
      · rename_i e1 h1 hr
        obtain ⟨a1, g0, g1, g2⟩ := xcode_ok s n (some l) _ _ _ _ _ _ _ c1 hk r0 hr
        split at hx
        · rename_i L1 hg1
          have hl1 := g2 _ _ hg1
          split at hx
          · rename_i hst
            split at hx
            · rename_i x e2 h2 hr2
              have hkb : HOk (h1.set l (.loop { L1 with state := .busy })) := g2.set (IHeap.get_lt hg1) (fun L e => by cases e; exact hl1)
              obtain ⟨a2, g6, g3, g4⟩ := xcode_ok s n (some l) _ _ _ _ _ _ _ c2 hkb g0 hr2
              have gb : Grow h1 (h1.set l (.loop { L1 with state := .busy })) := Grow.set hg1 rfl (by simp)
              have fin : ∀ (L2 : Loop) (j : Option Code), h2.get l = some (.loop L2) → Jump x j →
                  v = .bool j.isNone → h' = h2.set l (.loop { L2 with state := if j.isNone then .ready else .done, pending := j }) → IRound P l args h v h' ∧ HOk h' := by
                intro L2 j hg2 hj hv hh
                subst hv hh
                exact ⟨⟨g1.grow.trans (gb.trans (g3.grow.trans (Grow.set hg2 rfl (by simp)))), L, a1, h1, L1, x, a2, h2, L2, j, hg, hsz, g1, hg1, hst, g3, hg2, hj, rfl, rfl⟩, g4.set (IHeap.get_lt hg2) (fun L e => by cases e; exact g4 _ L2 hg2)⟩
              split at hx
              · cases hx; exact fin _ none (by assumption) rfl rfl rfl
              · cases hx; exact fin _ (some .ret) (by assumption) rfl rfl rfl
              · cases hx; exact fin _ (some (.exit _)) (by assumption) rfl rfl rfl
              · cases hx; exact fin _ (some (.goto _)) (by assumption) rfl rfl rfl
              · cases hx
            · cases hx
          · cases hx
        · cases hx
      · cases hx
    · cases hx
  · cases hx
end
theorem xpair_ok {P : Program} {okf : FuncId → Bool} (hf : FnsOk P okf) (hm : P.follows .mixedOrders = true) (m : Nat) : ∀ n, Sound P okf (xpair P okf m n).1 (xpair P okf m n).2
  | 0 => ⟨hf, hm, fun f args h v h' _ hx => (by cases hx), fun l args h v h' _ hx => (by cases hx)⟩
  | n + 1 => by
    have s := xpair_ok hf hm m n
    refine ⟨hf, hm, fun f args h v h' hk hx => ?_, fun l args h v h' hk hx => xround_ok s m hk hx⟩
    simp only [xpair] at hx
    split at hx
    · rename_i hok
      exact xfun_ok s m hok hk hx
    · cases hx
theorem xcall_ok {P : Program} {okf : FuncId → Bool} (hf : FnsOk P okf) (hm : P.follows .mixedOrders = true) {m n : Nat} {f : FuncId} {args : Array Value} {h h' : IHeap} {v : Value} (hk : HOk h) (hx : xcall P okf m n f args h = some (v, h')) : ICall P f args h v h' ∧ HOk h' :=
  (xpair_ok hf hm m n).call f args h v h' hk hx
end Go.Proofs.Ytmobpbhbllhdcaa.Ideal
end
noncomputable section
namespace Go.Proofs.Ytmobpbhbllhdcaa.Ideal
open Go.RowKit
set_option linter.unusedVariables false
set_option linter.unusedSimpArgs false
set_option linter.unnecessarySimpa false

def noHeap : IHeap := { size := 0, t := .leaf }
theorem noHeap_get (i : Nat) : noHeap.get i = none := IHeap.get_none (Nat.zero_le _)
theorem noHeap_ok : HOk noHeap := fun i L h => by rw [noHeap_get] at h; cases h
theorem noHeap_models (w : World) : Models (fun _ => none) noHeap w :=
  ⟨(fun i R o hg => by rw [noHeap_get] at hg; cases hg), (fun i j R R' h => by cases h), (fun i R h => by cases h)⟩
theorem step_below {ρ ρ' : Rho} {h h' : IHeap} {w w' : World} (s : Step ρ h w ρ' h' w') (hro : ∀ i o, h.get i = some o → o.isRo = true) : Below w.heap.size w w' :=
  ⟨s.os, s.tape, s.output, s.wsize, fun b hb => s.keep b hb (fun i R o hg _ _ => .inl (hro i o hg))⟩

def isT : Option (Value × IHeap) → Bool
  | some (.bool b, _) => b
  | _ => false
theorem isT_some {r : Option (Value × IHeap)} (h : isT r = true) : ∃ h', r = some (.bool true, h') := by
  unfold isT at h
  split at h
  · subst h; exact ⟨_, rfl⟩
  · cases h

def fnB (P : Program) (g : FuncId) : Bool := match P.funcs[g]? with
  | some fn => !(fn.name == "runtime.NumGoroutine") && (match fn.body with | some c => codeOk c | none => false)
  | none => false
def inL (L : List Nat) (g : Nat) : Bool := L.any fun k => Nat.beq k g
theorem inL_mem {L : List Nat} {g : Nat} (h : inL L g = true) : g ∈ L := by
  unfold inL at h
  rw [List.any_eq_true] at h
  obtain ⟨k, h1, h2⟩ := h
  have := Nat.eq_of_beq_eq_true h2
  subst this; exact h1
theorem fns_ok {P : Program} {L : List Nat} (h : ∀ g ∈ L, fnB P g = true) : FnsOk P (inL L) := by
  intro g hg
  have h1 := h g (inL_mem hg)
  unfold fnB at h1
  split at h1
  · rename_i fn hf
    simp only [Bool.and_eq_true, Bool.not_eq_true'] at h1
    obtain ⟨h2, h3⟩ := h1
    split at h3
    · rename_i c hc
      exact ⟨fn, c, hf, h2, hc, h3⟩
    · cases h3
  · cases h1

/-- A call whose arguments hold no address. -/
theorem calls_plain {P : Program} {f : FuncId} {args : Array Value} {h' : IHeap} (hc : ICall P f args noHeap (.bool true) h') (hp : args.all plainV = true) (W : World) : Calls P f args W fun e W' => e = .returned (.bool true) ∧ Below W.heap.size W W' := by
  rw [Array.all_eq_true_iff_forall_mem] at hp
  refine (hc.run (fun _ => none) W args ⟨rfl, fun i hi => plain_rel (hp _ (getD_mem hi))⟩ (noHeap_models W) (fun _ _ _ => rfl)).mono ?_
  rintro e W' ⟨ρ', v', rfl, s, m, hv⟩
  rw [hv.bool_inv]
  exact ⟨rfl, step_below s (fun i o hg => by rw [noHeap_get] at hg; cases hg)⟩
theorem calls_run {P : Program} {L : List Nat} (hL : ∀ g ∈ L, fnB P g = true) (hm : P.follows .mixedOrders = true) {m n : Nat} {f : FuncId} {args : Array Value} (hr : isT (xcall P (inL L) m n f args noHeap) = true) (hp : args.all plainV = true) (W : World) :
    Calls P f args W fun e W' => e = .returned (.bool true) ∧ Below W.heap.size W W' := by
  obtain ⟨h', hx⟩ := isT_some hr
  exact calls_plain (xcall_ok (fns_ok hL) hm noHeap_ok hx).1 hp W
end Go.Proofs.Ytmobpbhbllhdcaa.Ideal
end
