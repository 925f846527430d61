/- Code on the ideal heap, as a function; it is sound. -/
import Derived.Test.YtfgaggpfdckggaaI18
noncomputable section
namespace Go.Proofs.Ytfgaggpfdckggaa.Ideal
set_option linter.unusedVariables false
set_option linter.unusedSimpArgs false
set_option linter.unnecessarySimpa false

/-- Values that are the same by sight. -/
def veq : Value → Value → Bool
  | .bool a, .bool b => a == b
  | .int j a, .int k b => j == k && a == b
  | .string a, .string b => a.data.toList == b.data.toList
  | .pointer a, .pointer b => a == b
  | .slice a n c, .slice b m d => a == b && n == m && c == d
  | .map a, .map b => a == b
  | .nilFunc, .nilFunc => true
  | .nilIface, .nilIface => true
  | _, _ => false
theorem veq_ok {a b : Value} (h : veq a b = true) : a = b := by
  unfold veq at h
  split at h <;> first
    | rfl
    | (cases h; done)
    | (simp only [Bool.and_eq_true, beq_iff_eq] at h; first | rw [h] | rw [h.1, h.2] | rw [h.1.1, h.1.2, h.2])
    | skip
  all_goals
    rename_i s t
    simp only [beq_iff_eq] at h
    have h2 : s.data = t.data := Array.ext' h
    obtain ⟨x⟩ := s
    obtain ⟨y⟩ := t
    cases h2
    rfl
def leq : List Value → List Value → Bool
  | [], [] => true
  | a :: l, b :: m => veq a b && leq l m
  | _, _ => false
theorem leq_ok : ∀ {l m : List Value}, leq l m = true → l = m
  | [], [], _ => rfl
  | a :: l, b :: m, h => by
    simp only [leq, Bool.and_eq_true] at h
    rw [veq_ok h.1, leq_ok h.2]
  | [], _ :: _, h => by cases h
  | _ :: _, [], h => by cases h
def oeq : Option IObj → Option IObj → Bool
  | some (.row r e cs), some (.row r' e' cs') => r == r' && e == e' && leq cs cs'
  | some .dead, some .dead => true
  | none, none => true
  | _, _ => false
theorem oeq_ok {a b : Option IObj} (h : oeq a b = true) : a = b := by
  unfold oeq at h
  split at h
  · simp only [Bool.and_eq_true, beq_iff_eq] at h
    rw [h.1.1, h.1.2, leq_ok h.2]
  · rfl
  · rfl
  · cases h
def niEB (e e' : Ent) : Bool :=
  match e.kind, e'.kind with
  | .heavy, .heavy => false
  | .heavy, .read id => oeq (e.post.get id) (e.pre.get id)
  | .read id, .heavy => oeq (e'.post.get id) (e'.pre.get id)
  | .alloc, .heavy => oeq (e'.post.get e.pre.size) (e'.pre.get e.pre.size)
  | _, _ => true
theorem niEB_ok {e e' : Ent} (h : niEB e e' = true) : NiE e e' := by
  obtain ⟨k, p, q⟩ := e
  obtain ⟨k', p', q'⟩ := e'
  cases k <;> cases k' <;> simp only [niEB, NiE] at h ⊢ <;> first | exact oeq_ok h | (cases h; done)
def isHeavy : Kind → Bool | .heavy => true | _ => false
def niLB (ops : Array Oper) (es : List Ent) : Bool :=
  if es.all (fun e => !isHeavy e.kind) then true else
  let bs := befores ops
  es.zipIdx.all fun (e', j) => es.zipIdx.all fun (e, i) => !decide (i < j) || (niEB e e' || (bs.getD j 0).testBit i)
theorem niLB_ok {ops : Array Oper} {es : List Ent} (h : niLB ops es = true) : NiL ops es := by
  intro i j e e' hij hi hj hb
  unfold niLB at h
  split at h
  · rename_i hall
    rw [List.all_eq_true] at hall
    have h1 := hall e (List.mem_of_getElem? hi)
    have h2 := hall e' (List.mem_of_getElem? hj)
    unfold NiE
    split <;> rename_i k1 k2 <;> first | trivial | (rw [k1] at h1; cases h1; done) | (rw [k2] at h2; cases h2; done)
  · rw [List.all_eq_true] at h
    have h1 := h (e', j) (List.mem_iff_getElem?.2 ⟨j, by simp [List.getElem?_zipIdx, hj]⟩)
    simp only [List.all_eq_true] at h1
    have h2 := h1 (e, i) (List.mem_iff_getElem?.2 ⟨i, by simp [List.getElem?_zipIdx, hi]⟩)
    simp only [Bool.or_eq_true, Bool.not_eq_true', decide_eq_false_iff_not] at h2
    rcases h2 with h2 | h2 | h2
    · exact absurd hij h2
    · exact niEB_ok h2
    · unfold bef at hb
      rw [h2] at hb; cases hb

/-- A panic that is always come to. -/
def badOp (o : Oper) : Bool := (match o.op with | .panic _ => true | _ => false) && (match o.guard with | none => true | some _ => false)
/-- All regions of a code are well written (or never gone through). -/
def codeOk : Code → Bool
  | .region _ ops _ => regionOk ops || ops.any badOp
  | .seq x y => codeOk x && codeOk y
  | .cond c x y => operandOk c && codeOk x && codeOk y
  | .block _ c => codeOk c
  | .loop c => codeOk c
  | .scope c => codeOk c
  | .rangeFunc f _ x y => operandOk f && codeOk x && codeOk y
  | _ => true
def HOk (h : IHeap) : Prop := ∀ i L, h.get i = some (.loop L) → codeOk L.assign = true ∧ codeOk L.body = true

/-- Does a call go to this function: it has a body, and that is well written. -/
def FnsOk (P : Program) (okf : FuncId → Bool) : Prop := ∀ g, okf g = true → ∃ fn c, P.funcs[g]? = some fn ∧ (fn.name == "runtime.NumGoroutine") = false ∧ fn.body = some c ∧ codeOk c = true

/-- A frame's temporaries, as a tree. -/
structure XEnv where
  n : Nat
  t : Trie Value
  dfr : List Deferred
def XEnv.get (e : XEnv) (t : Nat) : Value := cond (Nat.ble (Nat.succ t) e.n) (Trie.getR undef e.t t) undef
theorem XEnv.get_def (e : XEnv) (t : Nat) : e.get t = if t < e.n then Trie.get undef t e.t t else undef := by
  unfold XEnv.get
  rw [cond_lt, Trie.getR_eq _ _ t t (Nat.le_refl _)]
def XEnv.ev (e : XEnv) : Operand → Value
  | .tmp t => e.get t
  | .const v => v
  | .global g => .pointer (some ⟨g, 0, none⟩)
  | .func f => .func (.func f) #[] #[]
def XEnv.put (e : XEnv) (d : Option Tmp) (v : Value) : XEnv :=
  match d with
  | some d => { e with t := Trie.set undef d e.t d v }
  | none => e
structure EnvRel (e : XEnv) (a : Act) : Prop where
  size : a.tmps.size = e.n
  get : ∀ t, a.tmps.getD t undef = e.get t
  dfr : a.defers = e.dfr
theorem EnvRel.ev {e : XEnv} {a : Act} (r : EnvRel e a) : a.eval = e.ev := by
  funext x
  cases x with
  | tmp t => exact r.get t
  | _ => rfl
theorem EnvRel.put {e : XEnv} {a : Act} (r : EnvRel e a) (d : Option Tmp) (v : Value) : EnvRel (e.put d v) (a.put d v) := by
  cases d with
  | none => exact r
  | some d =>
    refine ⟨?_, fun t => ?_, r.dfr⟩
    · show (a.tmps.setIfInBounds d v).size = e.n
      simpa using r.size
    · rw [put_get, r.size, r.get]
      rw [XEnv.get_def, XEnv.get_def]
      unfold XEnv.put
      dsimp only
      rw [Trie.get_set _ _ _ _ _ _ _ (Nat.le_refl _) (Nat.le_refl _)]
      by_cases h : t < e.n
      · rw [if_pos h, if_pos h]
        by_cases hd : d = t
        · rw [if_pos ⟨by rw [hd], h⟩, if_pos hd]
        · rw [if_neg (fun x => hd (Option.some.inj x.1)), if_neg hd]
      · rw [if_neg h, if_neg h, if_neg (fun x => h x.2)]
/-- A list's tree, from number i on. -/
def treeOf : List Value → Nat → Trie Value → Trie Value
  | [], _, t => t
  | v :: l, i, t => treeOf l (i + 1) (Trie.set undef i t i v)
theorem treeOf_get : ∀ (l : List Value) (i : Nat) (t : Trie Value) (j : Nat), Trie.get undef j (treeOf l i t) j = if i ≤ j ∧ j < i + l.length then l.getD (j - i) undef else Trie.get undef j t j
  | [], i, t, j => by rw [if_neg (by simp)]; rfl
  | v :: l, i, t, j => by
    unfold treeOf
    rw [treeOf_get l (i + 1) _ j, Trie.get_set _ _ _ _ _ _ _ (Nat.le_refl _) (Nat.le_refl _)]
    by_cases h : i = j
    · subst h
      rw [if_neg (by omega), if_pos rfl, if_pos (by simp), Nat.sub_self]; rfl
    · by_cases h2 : i + 1 ≤ j ∧ j < i + 1 + l.length
      · rw [if_pos h2, if_pos (by simp; omega), show j - i = (j - (i + 1)) + 1 by omega]; rfl
      · rw [if_neg h2, if_neg h, if_neg (by simp; omega)]
def envOf (l : List Value) (n : Nat) : XEnv := { n, t := treeOf l 0 .leaf, dfr := [] }
theorem leaf_get : ∀ (f j : Nat), Trie.get undef f .leaf j = undef
  | 0, _ => rfl
  | f + 1, j => by
    unfold Trie.get
    split
    · rfl
    · split <;> exact leaf_get f _
theorem envOf_rel (l : List Value) (n : Nat) : EnvRel (envOf l (l.length + n)) { tmps := (l ++ List.replicate n undef).toArray, defers := [] } := by
  refine ⟨by simp [envOf], fun t => ?_, rfl⟩
  rw [XEnv.get_def]
  unfold envOf
  dsimp only
  rw [treeOf_get, leaf_get]
  simp only [Nat.zero_add, Nat.zero_le, true_and, Nat.sub_zero]
  by_cases h : t < l.length
  · rw [if_pos (by omega), if_pos h]
    simp [List.getElem?_append_left h, h]
  · rw [if_neg h]
    have : ((l ++ List.replicate n undef).toArray.getD t undef) = undef := by
      simp only [Array.getD_eq_getD_getElem?, List.getElem?_toArray]
      rw [List.getElem?_append_right (by omega)]
      by_cases h2 : t - l.length < n
      · simp [h2]
      · simp [h2]
    rw [this]
    split <;> rfl
def startE (fn : Func) (args : Array Value) : XEnv := envOf args.toList (args.toList.length + (fn.ntmps - args.toList.length))
theorem startE_rel (fn : Func) (args : Array Value) : EnvRel (startE fn args) (startAct fn args) := by
  have := envOf_rel args.toList (fn.ntmps - args.toList.length)
  have e : (args.toList ++ List.replicate (fn.ntmps - args.toList.length) undef).toArray = args ++ Array.replicate (fn.ntmps - args.size) undef := Array.ext' (by simp)
  rw [e] at this
  exact this
/-- The temporaries as an array. -/
def XEnv.arr (e : XEnv) : Array Value := ⟨(List.range e.n).map e.get⟩
theorem EnvRel.arr {e : XEnv} {a : Act} (r : EnvRel e a) : e.arr = a.tmps := by
  apply Array.ext
  · simp [XEnv.arr, r.size]
  · intro i h1 h2
    have := r.get i
    simp only [Array.getD, h2, dif_pos] at this
    have h3 : a.tmps[i] = e.get i := this
    rw [h3]
    simp [XEnv.arr]
def bindE : List (Tmp × Value) → XEnv → XEnv
  | [], e => e
  | (t, v) :: l, e => bindE l (e.put (some t) v)
theorem bindE_rel : ∀ (l : List (Tmp × Value)) {e : XEnv} {a : Act}, EnvRel e a → EnvRel (bindE l e) { a with tmps := l.foldl (fun tmps (t, x) => tmps.setIfInBounds t x) a.tmps }
  | [], e, a, r => r
  | (t, v) :: l, e, a, r => bindE_rel l (r.put (some t) v)
def wantedE (all : Array Oper) (e : XEnv) (o : Oper) : Bool :=
  match o.guard with
  | none => true
  | some (j, want) => (match (all[j]?).bind (·.dst) with
    | some t => (match e.get t with | .bool b => b == want | _ => false)
    | none => false)
theorem wantedE_eq {e : XEnv} {a : Act} (r : EnvRel e a) (all : Array Oper) (o : Oper) : wantedE all e o = Region.wanted o (yielded all a.tmps) := by
  unfold wantedE Region.wanted
  cases o.guard with
  | none => rfl
  | some jw =>
    obtain ⟨j, want⟩ := jw
    dsimp only
    unfold yielded
    cases (all[j]?).bind (·.dst) with
    | none => simp
    | some t =>
      simp only [Option.bind_some]
      rw [← r.get t]
      by_cases h : t < a.tmps.size
      · have e1 : a.tmps[t]? = some (a.tmps.getD t undef) := by simp [Array.getD, h]
        rw [e1]
        generalize a.tmps.getD t undef = v
        cases v <;> simp
      · have e1 : a.tmps[t]? = none := Array.getElem?_eq_none (Nat.le_of_not_lt h)
        have e2 : a.tmps.getD t undef = undef := by simp only [Array.getD_eq_getD_getElem?, e1]; rfl
        rw [e1, e2]
        simp [undef]

def putK {β : Type} (e : XEnv) (d : Option Tmp) (v : Value) (k : XEnv → β) : β :=
  match d with
  | some d => Trie.setR undef e.t v d fun t' => k ⟨e.n, t', e.dfr⟩
  | none => k e
theorem putK_eq {β : Type} (e : XEnv) (d : Option Tmp) (v : Value) (k : XEnv → β) : putK e d v k = k (e.put d v) := by
  cases d with
  | none => rfl
  | some d =>
    show Trie.setR _ _ _ _ _ = _
    rw [Trie.setR_eq _ _ _ d d _ (Nat.le_refl _)]
    rfl
def treeK {β : Type} : List Value → Nat → Trie Value → (Trie Value → β) → β
  | [], _, t, k => k t
  | v :: l, i, t, k => Trie.setR undef t v i fun t' => treeK l (Nat.succ i) t' k
theorem treeK_eq {β : Type} : ∀ (l : List Value) (i : Nat) (t : Trie Value) (k : Trie Value → β), treeK l i t k = k (treeOf l i t)
  | [], _, _, _ => rfl
  | v :: l, i, t, k => by
    unfold treeK
    rw [Trie.setR_eq _ _ _ i i _ (Nat.le_refl _), treeK_eq l]
    rfl
def envK {β : Type} (l : List Value) (n : Nat) (k : XEnv → β) : β := treeK l (nat_lit 0) .leaf fun t => k ⟨n, t, []⟩
theorem envK_eq {β : Type} (l : List Value) (n : Nat) (k : XEnv → β) : envK l n k = k (envOf l n) := by
  unfold envK
  rw [treeK_eq]
  rfl
def bindK {β : Type} : List (Tmp × Value) → XEnv → (XEnv → β) → β
  | [], e, k => k e
  | (t, v) :: l, e, k => putK e (some t) v fun e' => bindK l e' k
theorem bindK_eq {β : Type} : ∀ (l : List (Tmp × Value)) (e : XEnv) (k : XEnv → β), bindK l e k = k (bindE l e)
  | [], _, _ => rfl
  | (t, v) :: l, e, k => by
    unfold bindK
    rw [putK_eq, bindK_eq l]
    rfl
def forceT {α β : Type} : Trie α → (Trie α → β) → β
  | .leaf, k => k .leaf
  | .node l v r, k => forceT l fun l' => forceT r fun r' => k (.node l' v r')
theorem forceT_eq {α β : Type} : ∀ (t : Trie α) (k : Trie α → β), forceT t k = k t
  | .leaf, _ => rfl
  | .node l v r, k => by unfold forceT; rw [forceT_eq l, forceT_eq r]
def forceH {β : Type} (h : IHeap) (k : IHeap → β) : β := forceT h.t fun t' => k ⟨h.size, t'⟩
theorem forceH_eq {β : Type} (h : IHeap) (k : IHeap → β) : forceH h k = k h := by
  unfold forceH
  rw [forceT_eq]

section
variable (P : Program) (okf : FuncId → Bool) (cf : FuncId → Array Value → IHeap → Option (Value × IHeap)) (rf : Nat → Array Value → IHeap → Option (Value × IHeap))

/-- What an operation calls. -/
inductive Callee1 where
  | fn (g : FuncId) (args : Array Value)
  | yld (l : Nat) (args : Array Value)
  | none
  | bad
def callee1 (ev : Operand → Value) (o : Oper) : Callee1 :=
  match o.op with
  | .call c => (match c.callee with
    | .value f => (match ev f with
      | .func (.func g) fs cs => .fn g (fs ++ c.args.map ev ++ cs)
      | .func (.yield l) fs cs => if fs = #[] ∧ cs = #[] then .yld l (c.args.map ev) else .bad
      | _ => .bad)
    | .builtin _ => .none
    | _ => .bad)
  | .defer _ => .bad
  | _ => .none
def kindOf : Cls → Kind
  | .pure => .pure
  | .read i => .read i
  | .alloc => .alloc
  | .heavy => .heavy
def xop (ev : Operand → Value) (o : Oper) (h : IHeap) : Option (Value × IHeap × Kind) :=
  match callee1 ev o with
  | .fn g args => if okf g then (cf g args h).map fun (v, h') => (v, h', .heavy) else (iplain P ev o).map fun v => (v, h, .pure)
  | .yld l args => (rf l args h).map fun (v, h') => (v, h', .heavy)
  | .none => (iop P ev o h).map fun (v, h', c) => (v, h', kindOf c)
  | .bad => none
def quietK : Kind → Bool | .pure | .read _ | .skip => true | _ => false
def xops (all : Array Oper) : List Oper → XEnv → IHeap → Option (XEnv × IHeap × List Ent)
  | [], e, h => some (e, h, [])
  | o :: os, e, h =>
    if wantedE all e o then
      (match xop P okf cf rf e.ev o h with
      | some (v, h', k) => if quietK k then
          forceV v fun v => putK e o.dst v fun e' => (match xops all os e' h with
          | some (e'', h'', es) => some (e'', h'', ⟨k, h, h⟩ :: es)
          | none => none)
        else forceV v fun v => putK e o.dst v fun e' => (match xops all os e' h' with
          | some (e'', h'', es) => some (e'', h'', ⟨k, h, h'⟩ :: es)
          | none => none)
      | none => none)
    else putK e o.dst undef fun e' => (match xops all os e' h with
      | some (e'', h'', es) => some (e'', h'', ⟨.skip, h, h⟩ :: es)
      | none => none)
def xloop (body : XEnv → IHeap → Option (Exit × XEnv × IHeap)) : Nat → XEnv → IHeap → Option (Exit × XEnv × IHeap)
  | 0, _, _ => none
  | n + 1, e, h => match body e h with
    | some (.normal, e', h') => xloop body n e' h'
    | r => r
def xpend : Option Code → Option Exit
  | none => some .normal
  | some .ret => some .ret
  | some (.exit id) => some (.exit id)
  | some (.goto l) => some (.goto l)
  | _ => none
def newLoopE (e : XEnv) (ps : Array Tmp) (assign body : Code) (b : Nat) : Loop := { state := .ready, pending := none, fn := 0, tmps := e.arr, params := ps, assign, body, defers := b }
def xcode (n : Nat) (rd : Option Nat) : Code → XEnv → IHeap → Option (Exit × XEnv × IHeap)
  | .skip, e, h => some (.normal, e, h)
  | .label _, e, h => some (.normal, e, h)
  | .exit id, e, h => some (.exit id, e, h)
  | .goto l, e, h => some (.goto l, e, h)
  | .ret, e, h => some (.ret, e, h)
  | .region _ ops draw, e, h => (match xops P okf cf rf ops ops.toList e h with
    | some (e', h', es) => if !draw || niLB ops es then some (.normal, e', h') else none
    | none => none)
  | .seq x y, e, h => (match xcode n rd x e h with
    | some (.normal, e', h') => xcode n rd y e' h'
    | r => r)
  | .cond c x y, e, h => (match e.ev c with
    | .bool true => xcode n rd x e h
    | .bool false => xcode n rd y e h
    | _ => none)
  | .block id c, e, h => (xcode n rd c e h).map fun (x, e', h') => (outOf id x, e', h')
  | .scope c, e, h => (match xcode n rd c e h with
    | some (.goto _, _, _) => none
    | r => r)
  | .loop c, e, h => xloop (fun e h => xcode n rd c e h) n e h
  | .rangeFunc g ps assign body, e, h => (match rd, e.ev g with
    | none, .func (.func f) fs cs => if okf f then
        pushH h .defs fun h1 => pushH h1 (.loop (newLoopE e ps assign body h.size)) fun h2 => (match cf f (fs ++ #[.func (.yield (h.size + 1)) #[] #[]] ++ cs) h2 with
        | some (_, h3) => (match h3.get (h.size + 1) with
          | some (.loop L3) => (match L3.state with
            | .busy => none
            | _ => (match xpend L3.pending with
              | some x => setH h3 (h.size + 1) (.loop { L3 with state := .exhausted }) fun h4 => some (x, { e with dfr := markOf h.size :: e.dfr }, h4)
              | none => none))
          | _ => none)
        | none => none) else none
    | _, _ => none)
  | _, _, _ => none
/-- The marks among the deferred calls. -/
def marksOf : List Deferred → Option (List Nat)
  | [] => some []
  | d :: ds => (match d.target with
    | .collected b => if d.args = #[] then (marksOf ds).map (b :: ·) else none
    | _ => none)
def ires1E (get : Nat → Value) (h : IHeap) : ResultVar → Option Value
  | .tmp t => some (get t)
  | .cell p t => match get p with
    | .pointer (some ⟨i, q, none⟩) => (match h.get i with
      | some (.row _ _ cs) => loadOf P t cs q
      | _ => none)
    | _ => none
def iresultsE (get : Nat → Value) (h : IHeap) (rs : List ResultVar) : Option Value :=
  match rs.mapM (ires1E P get h) with
  | some [v] => some v
  | some vs => some (.tuple vs.toArray)
  | none => none
def xfun (n : Nat) (f : FuncId) (args : Array Value) (h : IHeap) : Option (Value × IHeap) :=
  match P.funcs[f]? with
  | some fn => (match fn.body with
    | some c => (match xcode P okf cf rf n none c (startE fn args) h with
      | some (x, e1, h1) => (match x with
        | .normal | .ret => (match marksOf e1.dfr with
          | some bs => (match closeMarks bs h1 with
            | some h2 => (iresultsE P e1.get h2 fn.results.toList).map fun v => (v, h2)
            | none => none)
          | none => none)
        | _ => none)
      | none => none)
    | none => none)
  | none => none
def xround (n : Nat) (l : Nat) (args : Array Value) (h : IHeap) : Option (Value × IHeap) :=
  match h.get l with
  | some (.loop L) => if args.size = L.params.size then
      envK L.tmps.toList L.tmps.toList.length fun e0 => bindK (L.params.zip args).toList e0 fun e1 => (match xcode P okf cf rf n (some l) L.assign e1 h with
      | some (.normal, e1, h1) => (match h1.get l with
        | some (.loop L1) => (match L1.state with
          | .ready => setH h1 l (.loop { L1 with state := .busy }) fun hb => (match xcode P okf cf rf n (some l) L.body e1 hb with
            | some (x, _, h2) => (match h2.get l, x with
              | some (.loop L2), .normal => setH h2 l (.loop { L2 with state := .ready, pending := none }) fun h3 => some (.bool true, h3)
              | some (.loop L2), .ret => setH h2 l (.loop { L2 with state := .done, pending := some .ret }) fun h3 => some (.bool false, h3)
              | some (.loop L2), .exit id => setH h2 l (.loop { L2 with state := .done, pending := some (.exit id) }) fun h3 => some (.bool false, h3)
              | some (.loop L2), .goto t => setH h2 l (.loop { L2 with state := .done, pending := some (.goto t) }) fun h3 => some (.bool false, h3)
              | _, _ => none)
            | none => none)
          | _ => none)
        | _ => none)
      | _ => none) else none
  | _ => none
end
/-- n: how deep calls go; m: how often a loop goes round. -/
def xpair (P : Program) (okf : FuncId → Bool) (m : Nat) : Nat → (FuncId → Array Value → IHeap → Option (Value × IHeap)) × (Nat → Array Value → IHeap → Option (Value × IHeap))
  | 0 => (fun _ _ _ => none, fun _ _ _ => none)
  | n + 1 => (fun f args h => if okf f then xfun P okf (xpair P okf m n).1 (xpair P okf m n).2 m f args h else none, fun l args h => xround P okf (xpair P okf m n).1 (xpair P okf m n).2 m l args h)
def xcall (P : Program) (okf : FuncId → Bool) (m n : Nat) : FuncId → Array Value → IHeap → Option (Value × IHeap) := (xpair P okf m n).1
end Go.Proofs.Ytfgaggpfdckggaa.Ideal
