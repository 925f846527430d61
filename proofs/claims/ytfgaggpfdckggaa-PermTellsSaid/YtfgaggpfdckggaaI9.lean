/- One operation on the ideal heap, as a function. -/
import Derived.Test.YtfgaggpfdckggaaI8d
noncomputable section
namespace Go.Proofs.Ytfgaggpfdckggaa.Ideal
set_option linter.unusedVariables false
set_option linter.unusedSimpArgs false
set_option linter.unnecessarySimpa false

/-- Two whole numbers, two strings. -/
def ibin (op : BinOp) (x y : Value) : Option Value :=
  match op, x, y with
  | .shl, .int k a, .int _ b => if b < 0 then none else some (.int k (k.wrap (a * 2 ^ min b.toNat k.bits)))
  | .shr, .int k a, .int _ b => if b < 0 then none else some (.int k (a.fdiv (2 ^ min b.toNat k.bits)))
  | .add, .int k a, .int k' b => if k = k' then some (.int k (k.wrap (a + b))) else none
  | .sub, .int k a, .int k' b => if k = k' then some (.int k (k.wrap (a - b))) else none
  | .mul, .int k a, .int k' b => if k = k' then some (.int k (k.wrap (a * b))) else none
  | .quo, .int k a, .int k' b => if k = k' ∧ b ≠ 0 then some (.int k (k.wrap (a.tdiv b))) else none
  | .rem, .int k a, .int k' b => if k = k' ∧ b ≠ 0 then some (.int k (a.tmod b)) else none
  | .eql, .int k a, .int k' b => if k = k' then some (.bool (a == b)) else none
  | .neq, .int k a, .int k' b => if k = k' then some (.bool (a != b)) else none
  | .lss, .int k a, .int k' b => if k = k' then some (.bool (decide (a < b))) else none
  | .leq, .int k a, .int k' b => if k = k' then some (.bool (decide (a ≤ b))) else none
  | .gtr, .int k a, .int k' b => if k = k' then some (.bool (decide (a > b))) else none
  | .geq, .int k a, .int k' b => if k = k' then some (.bool (decide (a ≥ b))) else none
  | .and, .int k a, .int k' b => if k = k' then some (.int k (k.wrap (BitVec.ofInt k.bits a &&& BitVec.ofInt k.bits b).toNat)) else none
  | .or, .int k a, .int k' b => if k = k' then some (.int k (k.wrap (BitVec.ofInt k.bits a ||| BitVec.ofInt k.bits b).toNat)) else none
  | .xor, .int k a, .int k' b => if k = k' then some (.int k (k.wrap (BitVec.ofInt k.bits a ^^^ BitVec.ofInt k.bits b).toNat)) else none
  | .andNot, .int k a, .int k' b => if k = k' then some (.int k (k.wrap (BitVec.ofInt k.bits a &&& ~~~BitVec.ofInt k.bits b).toNat)) else none
  | _, _, _ => none
theorem ibin_run {P : Program} {op : BinOp} {x y v : Value} (h : ibin op x y = some v) (t : TypeId) (c1 c2 : Operand) (w : World) :
    (do eqGuard op t c1 c2 x y; binOp op t x y : Sem Value).run P w = .ok v w ∧ scal x = true ∧ scal y = true ∧ scal v = true := by
  unfold ibin at h
  split at h <;> first
    | (split at h <;> first | (cases h; done) | skip)
    | (cases h; done)
  all_goals
    cases h
    refine ⟨?_, rfl, rfl, rfl⟩
    first
      | (rename_i hk; obtain ⟨rfl, hb⟩ := hk; simp [Sem.run_bind, eqGuard, binOp, Op.intDiv, hb]; done)
      | (rename_i hk; subst hk; simp [Sem.run_bind, eqGuard, binOp, Op.intArith, Op.intCmp, Op.intBits]; done)
      | (rename_i hk; simp [Sem.run_bind, eqGuard, binOp, Op.shift, hk]; done)
theorem pure_bin {P : Program} {o : Oper} {a : Act} {op : BinOp} {t ty : TypeId} {x y : Operand} {v : Value} (ho : o.op = .binOp op t x y ty) (h : ibin op (a.eval x) (a.eval y) = some v) : PureOp P o a v := by
  intro ρ ar w hrel
  have hx := hrel x (by simp [ho, Op.operands])
  have hy := hrel y (by simp [ho, Op.operands])
  obtain ⟨h1, h2, h3, h4⟩ := ibin_run (P := P) h t x y w
  rw [← scal_eq h2 hx, ← scal_eq h3 hy] at h1
  refine ⟨v, ?_, .base h4⟩
  simp only [execOp, ho, Sem.run_bind] at h1 ⊢
  rw [h1]
  rfl

/-- The model's own text, where all operands are plain. -/
def iplain (P : Program) (ev : Operand → Value) (o : Oper) : Option Value :=
  match o.op with
  | .select _ _ => none
  | .panic _ => none
  | _ => if o.op.operands.all (fun x => plainV (ev x)) then (match pureVal P (execOp ev o) with
    | some (.value v) => if plainV v then some v else none
    | _ => none) else none
theorem iplain_ok {P : Program} {a : Act} {o : Oper} {v : Value} (h : iplain P a.eval o = some v) : PureOp P o a v := by
  unfold iplain at h
  split at h
  · cases h
  · cases h
  · rename_i hns _
    split at h
    · rename_i hp
      split at h
      · rename_i u hv
        split at h
        · rename_i hr
          cases h
          exact pureOp_plain (fun cs b e => hns cs b e) hp hv hr
        · cases h
      · cases h
    · cases h

/-- An operation that touches no memory. -/
def ipure (P : Program) (ev : Operand → Value) (o : Oper) : Option Value :=
  match o.op with
  | .move x => some (ev x)
  | .assign x => some (ev x)
  | .pick c x y => (match ev c with | .bool b => some (if b then ev x else ev y) | _ => none)
  | .nilCheck x => (match ev x with
    | .pointer (some ⟨i, q, none⟩) => some (.pointer (some ⟨i, q, none⟩))
    | .func (.func g) fs cs => some (.func (.func g) fs cs)
    | .func (.yield l) fs cs => if fs = #[] ∧ cs = #[] then some (.func (.yield l) #[] #[]) else none
    | _ => none)
  | .fieldAddr s x f => (match ev x with
    | .pointer (some ⟨i, q, none⟩) => (fieldOff P s f).map fun k => .pointer (some ⟨i, q + k, none⟩)
    | _ => none)
  | .indexAddr t x ix => (match ev x, ev ix with
    | .slice (some ⟨i, q, none⟩) n _, .int _ j => (match slcOf P t with
      | some (_, s) => if 0 ≤ j ∧ j < n then some (.pointer (some ⟨i, q + j.toNat * s, none⟩)) else none
      | none => none)
    | .pointer (some ⟨i, q, none⟩), .int _ j => (match arrOf P t with
      | some (n, s) => if 0 ≤ j ∧ j < n then some (.pointer (some ⟨i, q + j.toNat * s, none⟩)) else none
      | none => none)
    | _, _ => none)
  | .field t x f => (match ev x, P.underlying t with
    | .agg cs, some (.struct fs) => (match fs[f]? with | some fl => partOf P fl.type cs fl.offset | none => none)
    | _, _ => none)
  | .index t x ix => (match ev x, ev ix, P.underlying t with
    | .agg cs, .int _ j, some (.array n e) => (match tsize P e with | some s => if 0 ≤ j ∧ j < n then partOf P e cs (j.toNat * s) else none | none => none)
    | _, _, _ => iplain P ev o)
  | .extract x f => (match ev x with | .tuple cs => cs[f]? | _ => none)
  | .build t ps => buildOf P t (ps.map fun (i, x) => (i, ev x)).toList
  | .makeFunc (.func g) fs cs => some (.func (.func g) (fs.map ev) (cs.map ev))
  | .makeInterface t x => (match P.underlying t with | some (.interface _) => none | some _ => some (.iface t (ev x)) | none => none)
  | .binOp op t x y _ => (match ibin op (ev x) (ev y) with
    | some v => some v
    | none => (match op, P.underlying t with
      | .eql, some d => (match nilEq d (ev x) (ev y) with | some b => some (.bool b) | none => iplain P ev o)
      | .neq, some d => (match nilEq d (ev x) (ev y) with | some b => some (.bool (!b)) | none => iplain P ev o)
      | _, _ => iplain P ev o))
  | .slice t x lo hi mx => (match ev x with
    | .pointer (some ⟨i, q, none⟩) => (match arrOf P t with
      | some (N, s) => (match bounds N N (lo.map ev) (hi.map ev) (mx.map ev) with
        | some (l, h, m) => some (.slice (some (cutAddr i q l s h m true)) (h - l) (m - l))
        | none => none)
      | none => none)
    | .slice (some ⟨i, q, some u⟩) 0 0 => (match slcOf P t, bounds 0 0 (lo.map ev) (hi.map ev) (mx.map ev) with
      | some _, some _ => some (.slice (some ⟨i, q, some u⟩) 0 0)
      | _, _ => none)
    | _ => iplain P ev o)
  | .call c => (match c.callee, c.args.toList, (c.argTypes[0]?).bind P.underlying with
    | .builtin .len, [x], some (.slice _) => (match ev x with
      | .slice _ n _ => some (.int .i64 n)
      | _ => none)
    | .builtin .len, [x], some (.map _ _) => (match ev x with
      | .map none => some (.int .i64 0)
      | _ => none)
    | .builtin _, _, _ => iplain P ev o
    | _, _, _ => none)
  | .sliceToArrayPointer t x => (match ev x, P.underlying t with
    | .slice (some ⟨i, q, none⟩) n _, some (.array N _) => if N ≤ n ∧ 0 < N then some (.pointer (some ⟨i, q, none⟩)) else none
    | _, _ => none)
  | _ => iplain P ev o

theorem ipure_ok {P : Program} {a : Act} {o : Oper} {v : Value} (h : ipure P a.eval o = some v) : PureOp P o a v := by
  unfold ipure at h
  split at h
  case h_1 x ho => cases h; exact pure_move (.inl ho)
  case h_2 x ho => cases h; exact pure_move (.inr ho)
  case h_3 c x y ho =>
    split at h
    · rename_i b hb
      cases h
      exact pure_pick ho hb
    · cases h
  case h_4 x ho =>
    split at h
    · rename_i i q hx; cases h; rw [← hx]; exact pure_nilCheck ho hx
    · rename_i g fs cs hx; cases h; rw [← hx]; exact pure_nilCheckF ho hx
    · rename_i l fs cs hx
      split at h
      · rename_i hc
        obtain ⟨rfl, rfl⟩ := hc
        cases h; rw [← hx]; exact pure_nilCheckY ho hx
      · cases h
    · cases h
  case h_5 s x f ho =>
    split at h
    · rename_i i q hx
      obtain ⟨k, hk, rfl⟩ := Option.map_eq_some_iff.mp h
      exact pure_fieldAddr ho hx hk
    · cases h
  case h_6 t x ix ho =>
    split at h
    · rename_i i q n c k j hx hi
      split at h
      · rename_i e s hs
        split at h
        · rename_i hb
          cases h
          exact pure_indexAddrS ho hx hi hs hb.1 hb.2
        · cases h
      · cases h
    · rename_i i q k j hx hi
      split at h
      · rename_i n s hs
        split at h
        · rename_i hb
          cases h
          exact pure_indexAddrA ho hx hi hs hb.1 hb.2
        · cases h
      · cases h
    · cases h
  case h_7 t x f ho =>
    split at h
    · rename_i cs fs hx hu
      split at h
      · rename_i fl hf
        exact pure_field ho hx hu hf h
      · cases h
    · cases h
  case h_8 t x ix ho =>
    split at h
    · rename_i cs k j n e hx hi hu
      split at h
      · rename_i s hs
        split at h
        · rename_i hb
          exact pure_indexA ho hx hi hu hs hb.1 hb.2 h
        · cases h
      · cases h
    · exact iplain_ok h
  case h_9 x f ho =>
    split at h
    · rename_i cs hx
      exact pure_extract ho hx h
    · cases h
  case h_10 t ps ho => exact pure_build ho h
  case h_11 g fs cs ho => cases h; exact pure_makeFunc ho
  case h_12 t x ho =>
    split at h
    · cases h
    · rename_i d hn hu
      cases h
      exact pure_makeInterface ho hu (by cases d <;> first | rfl | (exact absurd rfl (hn _)))
    · cases h
  case h_13 op t x y ty ho =>
    split at h
    · rename_i u hb
      cases h
      exact pure_bin ho hb
    · split at h
      · split at h
        · rename_i b hb
          cases h
          refine pure_eqNil ho ?_ hb
          assumption
        · exact iplain_ok h
      · split at h
        · rename_i b hb
          cases h
          refine pure_neNil ho ?_ hb
          assumption
        · exact iplain_ok h
      · exact iplain_ok h
  case h_14 t x lo hi mx ho =>
    split at h
    · rename_i i q hx
      split at h
      · rename_i N s hs
        split at h
        · rename_i l hh m hb
          cases h
          exact pure_sliceA ho hx hs hb
        · cases h
      · cases h
    · rename_i i q u hx
      split at h
      · rename_i es r hs hb
        cases h
        obtain ⟨e, s⟩ := es
        obtain ⟨l, hh, m⟩ := r
        exact pure_sliceE ho hx hs hb
      · cases h
    · exact iplain_ok h
  case h_15 c ho =>
    split at h
    · rename_i x e hc ha hu
      split at h
      · rename_i q n k hx
        cases h
        obtain ⟨t, ht, hu'⟩ := Option.bind_eq_some_iff.mp hu
        exact pure_lenS (ts := #[]) ho hc (by rw [← Array.toArray_toList (xs := c.args), ha]) ht hx hu'
      · cases h
    · rename_i x kt et hc ha hu
      split at h
      · rename_i hx
        cases h
        obtain ⟨t, ht, hu'⟩ := Option.bind_eq_some_iff.mp hu
        exact pure_lenMnil ho hc (by rw [← Array.toArray_toList (xs := c.args), ha]) ht hx hu'
      · cases h
    · exact iplain_ok h
    · cases h
  case h_16 t x ho =>
    split at h
    · rename_i i q n k N e hx hu
      split at h
      · rename_i hN
        cases h
        exact pure_toArray ho hx hu hN.1 hN.2
      · cases h
    · cases h
  case h_17 => exact iplain_ok h

theorem ipure_panic {P : Program} {ev : Operand → Value} {o : Oper} {x : Operand} (ho : o.op = .panic x) : ipure P ev o = none := by
  simp only [ipure, ho, iplain]

/-- What an operation does to memory: nothing; it reads one block; it makes one; whatever it says. -/
inductive Cls where
  | pure
  | read (i : Nat)
  | alloc
  | heavy
  deriving DecidableEq, Inhabited

/-! For the kernel's sake: what has come up is laid out. -/
def forceV {β : Type} (v : Value) (k : Value → β) : β :=
  match v with
  | .int q n => k (.int q n)
  | .bool b => k (.bool b)
  | .pointer none => k (.pointer none)
  | .pointer (some ⟨i, o, s⟩) => k (.pointer (some ⟨i, o, s⟩))
  | .slice none n c => k (.slice none n c)
  | .slice (some ⟨i, o, s⟩) n c => k (.slice (some ⟨i, o, s⟩) n c)
  | .map (some i) => k (.map (some i))
  | v => k v
theorem forceV_eq {β : Type} (v : Value) (k : Value → β) : forceV v k = k v := by
  unfold forceV
  split <;> rfl
/-- A list's values, laid out. -/
def forceL {β : Type} : List Value → (List Value → β) → β
  | [], k => k []
  | v :: l, k => forceV v fun v' => forceL l fun l' => k (v' :: l')
theorem forceL_eq {β : Type} : ∀ (l : List Value) (k : List Value → β), forceL l k = k l
  | [], _ => rfl
  | v :: l, k => by unfold forceL; rw [forceV_eq, forceL_eq l]
def iload (P : Program) (h : IHeap) (t : TypeId) (x : Value) : Option (Value × IHeap × Cls) :=
  match x with
  | .pointer (some ⟨i, q, none⟩) => (match h.get i with
    | some (.row _ _ cs) => (loadOf P t cs q).map fun v => (v, h, .read i)
    | _ => none)
  | _ => none
def istore (P : Program) (h : IHeap) (t : TypeId) (x y : Value) : Option (Value × IHeap × Cls) :=
  match x with
  | .pointer (some ⟨i, q, none⟩) => (match h.get i, tsize P t with
    | some (.row false esz cs), some n => if y.cells.size = n ∧ q + n ≤ cs.length ∧ y.cells.toList.all (·.oneCell') = true then forceL (splice cs q y.cells.toList) fun cs' => setH h i (.row false esz cs') fun h' => some (undef, h', .heavy) else none
    | _, _ => none)
  | _ => none
def ialloc (P : Program) (h : IHeap) (t : TypeId) : Option (Value × IHeap × Cls) :=
  match zeroOf P t with
  | some z => pushH h (.row false 0 z.toList) fun h' => some (.pointer (some ⟨h.size, 0, none⟩), h', .alloc)
  | none => none
def ibuildSlice (P : Program) (h : IHeap) (t : TypeId) (n : Nat) (ps : List (Nat × Value)) : Option (Value × IHeap × Cls) :=
  match slcOf P t with
  | some (e, s) => (match zeroOf P e with
    | some z => if z.size = s ∧ n * s ≤ 16777216 then (Instr.fill (fun i => some (i * s, s)) (zeros z n).toArray ps).bind fun out => pushH h (.row false s out.toList) fun h' => some (.slice (some ⟨h.size, 0, none⟩) n n, h', .alloc) else none
    | none => none)
  | none => none
def imakeSlice (P : Program) (h : IHeap) (t : TypeId) (x y : Value) : Option (Value × IHeap × Cls) :=
  match slcOf P t, x, y with
  | some (e, s), .int _ n, .int _ c => (match zeroOf P e, (P.info? e).map (fun i => (i.bytes : Nat)) with
    | some z, some bytes => if z.size = s ∧ 0 ≤ n ∧ n ≤ c ∧ c < 9223372036854775808 ∧ ((bytes : Nat) : Int) * c ≤ 140737488355328 then
        pushH h (.row false s (zeros z c.toNat)) fun h' => some (.slice (some ⟨h.size, 0, none⟩) n.toNat c.toNat, h', .alloc) else none
    | _, _ => none)
  | _, _, _ => none
def islice (P : Program) (h : IHeap) (t : TypeId) (x : Value) (lo hi mx : Option Value) : Option (Value × IHeap × Cls) :=
  match x with
  | .slice (some ⟨i, q, none⟩) n c => (match slcOf P t, bounds n c lo hi mx, h.get i with
    | some (_, s), some (l, hh, m), some (.row _ esz _) => if esz = 0 ∨ esz = s then some (.slice (some (cutAddr i q l s hh m mx.isSome)) (hh - l) (m - l), h, .read i) else none
    | _, _, _ => none)
  | _ => none
/-- A call of the language's own functions. -/
def icall (P : Program) (ev : Operand → Value) (o : Oper) (c : Call) (h : IHeap) : Option (Value × IHeap × Cls) :=
  match c.callee, c.args.toList, c.argTypes.toList with
  | .builtin .append, [s, x], [t, t2] => (iappend P h t t2 (ev s) (ev x)).map fun (v, h') => (v, h', .heavy)
  | .builtin .copy, [d, x], [t, _] => (icopy P h t (ev d) (ev x)).map fun (v, h') => (v, h', .heavy)
  | .builtin .delete, [x, k], [t, _] => (idelete P h t (ev x) (ev k)).map fun h' => (undef, h', .heavy)
  | .builtin .len, [x], [t] => (match ev x, mapOf P t with
    | .map (some i), some _ => (match h.get i with
      | some (.map es _) => some (.int .i64 es.length, h, .read i)
      | _ => none)
    | _, _ => (ipure P ev o).map fun v => (v, h, .pure))
  | _, _, _ => (ipure P ev o).map fun v => (v, h, .pure)
/-- An operation. -/
def iop (P : Program) (ev : Operand → Value) (o : Oper) (h : IHeap) : Option (Value × IHeap × Cls) :=
  match o.op with
  | .load t x => iload P h t (ev x)
  | .store t x y => istore P h t (ev x) (ev y)
  | .box _ x => pushH h (.row false 0 (ev x).cells.toList) fun h' => some (.pointer (some ⟨h.size, 0, none⟩), h', .alloc)
  | .alloc t => ialloc P h t
  | .buildSlice t n ps => ibuildSlice P h t n (ps.map fun (i, x) => (i, ev x)).toList
  | .makeSlice t x y => imakeSlice P h t (ev x) (ev y)
  | .makeMap _ none => pushH h (.map [] 0) fun h' => some (.map (some h.size), h', .alloc)
  | .slice t x lo hi mx => (match islice P h t (ev x) (lo.map ev) (hi.map ev) (mx.map ev) with
    | some r => some r
    | none => (ipure P ev o).map fun v => (v, h, .pure))
  | .call c => icall P ev o c h
  | .lookup t x k ok => (ilookup P h t (ev x) (ev k) ok).map fun r => (r.1, h, match r.2 with | some i => .read i | none => .pure)
  | .mapUpdate t x k u => (iupdate P h t (ev x) (ev k) (ev u)).map fun h' => (undef, h', .heavy)
  | .insert t x k u => (iupdate P h t (ev x) (ev k) (ev u)).map fun h' => (undef, h', .heavy)
  | .convert src dst x => (match icvt P h src dst (ev x) with
    | some (v, h', none) => some (v, h', .alloc)
    | some (v, h', some none) => some (v, h', .pure)
    | some (v, h', some (some i)) => some (v, h', .read i)
    | none => (ipure P ev o).map fun v => (v, h, .pure))
  | .range t x => (irange P h t (ev x)).map fun (v, h') => (v, h', .heavy)
  | .next x false => (inext h (ev x)).map fun (v, h') => (v, h', .heavy)
  | .entry x => (ientry h (ev x)).map fun v => (v, h, .heavy)
  | _ => (ipure P ev o).map fun v => (v, h, .pure)

theorem iop_panic {P : Program} {ev : Operand → Value} {o : Oper} {x : Operand} {h : IHeap} (ho : o.op = .panic x) : iop P ev o h = none := by
  simp only [iop, ho, ipure_panic ho, Option.map_none]

/-- What the class says is so. -/
def ClsOk (P : Program) (o : Oper) (a : Act) (h : IHeap) (v : Value) (h' : IHeap) : Cls → Prop
  | .pure => h' = h ∧ PureOp P o a v
  | .read i => h' = h ∧ ROp P o a h v [i]
  | .alloc => ∃ n, n ≠ .dead ∧ h' = h.push n ∧ AOp P o a h.size v n
  | .heavy => MOp P o a h v h'

theorem iop_ok {P : Program} {a : Act} {o : Oper} {h h' : IHeap} {v : Value} {c : Cls} (hi : iop P a.eval o h = some (v, h', c)) : ClsOk P o a h v h' c := by
  have pure_case : ∀ {r}, (ipure P a.eval o).map (fun v => (v, h, Cls.pure)) = some r → r = (v, h', c) → ClsOk P o a h v h' c := by
    intro r hr e
    obtain ⟨u, hu, rfl⟩ := Option.map_eq_some_iff.mp hr
    cases e
    exact ⟨rfl, ipure_ok hu⟩
  unfold iop at hi
  split at hi
  · rename_i t x ho
    unfold iload at hi
    split at hi
    · rename_i i q hx
      split at hi
      · rename_i ro esz cs hg
        obtain ⟨u, hu, e⟩ := Option.map_eq_some_iff.mp hi
        cases e
        exact ⟨rfl, read_load ho hx hg hu⟩
      · cases hi
    · cases hi
  · rename_i t x y ho
    unfold istore at hi
    split at hi
    · rename_i i q hx
      split at hi
      · rename_i esz cs n hg hs
        split at hi
        · rename_i hc
          rw [forceL_eq, setH_eq] at hi
          cases hi
          exact mem_store ho hx hg hs hc.1 hc.2.1 hc.2.2
        · cases hi
      · cases hi
    · cases hi
  · rename_i t x ho
    rw [pushH_eq] at hi
    cases hi
    exact ⟨_, by simp, rfl, alloc_box ho⟩
  · rename_i t ho
    unfold ialloc at hi
    split at hi
    · rename_i z hz
      rw [pushH_eq] at hi
      cases hi
      exact ⟨_, by simp, rfl, alloc_alloc ho hz⟩
    · cases hi
  · rename_i t n ps ho
    unfold ibuildSlice at hi
    split at hi
    · rename_i e s hs
      split at hi
      · rename_i z hz
        split at hi
        · rename_i hc
          obtain ⟨out, hf, e⟩ := Option.bind_eq_some_iff.mp hi
          rw [pushH_eq] at e
          cases e
          exact ⟨_, by simp, rfl, alloc_buildSlice ho hs hz hc.1 hc.2 hf⟩
        · cases hi
      · cases hi
    · cases hi
  · rename_i t x y ho
    unfold imakeSlice at hi
    split at hi
    · rename_i e s k n k' c' hs hx hy
      split at hi
      · rename_i z bytes hz hb
        split at hi
        · rename_i hc
          rw [pushH_eq] at hi
          cases hi
          exact ⟨_, by simp, rfl, alloc_makeSlice ho hs hz hc.1 hb hx hy hc.2.1 hc.2.2.1 hc.2.2.2.1 hc.2.2.2.2⟩
        · cases hi
      · cases hi
    · cases hi
  · rename_i t ho
    rw [pushH_eq] at hi
    cases hi
    exact ⟨_, by simp, rfl, alloc_makeMap ho⟩
  · rename_i t x lo hi' mx ho
    split at hi
    · rename_i r hr
      cases hi
      unfold islice at hr
      split at hr
      · rename_i i q n cc hx
        split at hr
        · rename_i e s l hh m ro esz cs hs hb hg
          split at hr
          · rename_i hc
            cases hr
            have := read_sliceS ho hx hs hb hg hc
            simp only [Option.isSome_map] at this ⊢
            exact ⟨rfl, this⟩
          · cases hr
        · cases hr
      · cases hr
    · exact pure_case hi rfl
  · rename_i cl ho
    unfold icall at hi
    split at hi
    · rename_i s x t t2 hc ha ht
      obtain ⟨⟨u, hu'⟩, hu, e⟩ := Option.map_eq_some_iff.mp hi
      cases e
      exact mem_append ho hc (by rw [← Array.toArray_toList (xs := cl.args), ha]) (by rw [← Array.toArray_toList (xs := cl.argTypes), ht]) hu
    · rename_i s x t t2 hc ha ht
      obtain ⟨⟨u, hu'⟩, hu, e⟩ := Option.map_eq_some_iff.mp hi
      cases e
      exact mem_copy ho hc (by rw [← Array.toArray_toList (xs := cl.args), ha]) (by rw [← Array.toArray_toList (xs := cl.argTypes), ht]) hu
    · rename_i s x t t2 hc ha ht
      obtain ⟨u, hu, e⟩ := Option.map_eq_some_iff.mp hi
      cases e
      exact mem_delete ho hc (by rw [← Array.toArray_toList (xs := cl.args), ha]) (by rw [← Array.toArray_toList (xs := cl.argTypes), ht]) hu
    · rename_i x t hc ha ht
      split at hi
      · rename_i i p hx hmp
        split at hi
        · rename_i es ck hg
          cases hi
          obtain ⟨kt, et⟩ := p
          exact ⟨rfl, read_lenM ho hc (by rw [← Array.toArray_toList (xs := cl.args), ha]) (by rw [← Array.toArray_toList (xs := cl.argTypes), ht]; rfl) hx (mapOf_inv hmp) hg⟩
        · cases hi
      · exact pure_case hi rfl
    · exact pure_case hi rfl
  · rename_i t x k ok ho
    obtain ⟨⟨u, r⟩, hu, e⟩ := Option.map_eq_some_iff.mp hi
    cases e
    have := read_lookup ho hu
    cases r with
    | none => exact ⟨rfl, fun ρ ar w hrel => this ρ ar w (fun i hi => by simp at hi) hrel⟩
    | some i => exact ⟨rfl, this⟩
  · rename_i t x k y ho
    obtain ⟨u, hu, e⟩ := Option.map_eq_some_iff.mp hi
    cases e
    exact mem_update (.inl ho) hu
  · rename_i t x k y ho
    obtain ⟨u, hu, e⟩ := Option.map_eq_some_iff.mp hi
    cases e
    exact mem_update (.inr ho) hu
  · rename_i src dst x ho
    split at hi
    · rename_i hc
      cases hi
      have := icvt_ok ho hc
      dsimp only at this
      obtain ⟨n, a1, a2, a3, a4⟩ := this
      exact ⟨n, a1, a3, a4⟩
    · rename_i hc
      cases hi
      have := icvt_ok ho hc
      exact this
    · rename_i hc
      cases hi
      have := icvt_ok ho hc
      exact this
    · exact pure_case hi rfl
  · rename_i t x ho
    obtain ⟨⟨u, hu'⟩, hu, e⟩ := Option.map_eq_some_iff.mp hi
    cases e
    exact mem_range ho hu
  · rename_i x ho
    obtain ⟨⟨u, hu'⟩, hu, e⟩ := Option.map_eq_some_iff.mp hi
    cases e
    exact mem_next ho hu
  · rename_i x ho
    obtain ⟨u, hu, e⟩ := Option.map_eq_some_iff.mp hi
    cases e
    exact mem_entry ho hu
  · exact pure_case hi rfl
end Go.Proofs.Ytfgaggpfdckggaa.Ideal
