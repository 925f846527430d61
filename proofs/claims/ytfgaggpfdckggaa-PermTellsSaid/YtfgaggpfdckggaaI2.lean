/- The operations that touch no memory, on the ideal heap's values. -/
import Derived.Test.YtfgaggpfdckggaaI1
noncomputable section
namespace Go.Proofs.Ytfgaggpfdckggaa.Ideal
set_option linter.unusedVariables false
set_option linter.unusedSimpArgs false
set_option linter.unnecessarySimpa false

/-- What a computation that asks nothing of the world comes to. -/
def pureVal {α : Type} (P : Program) : Sem α → Option α
  | .pure a => some a
  | .program k => pureVal P (k P)
  | .mark _ k => pureVal P k
  | _ => none
theorem run_pureVal {α : Type} {P : Program} : ∀ {s : Sem α} {a : α}, pureVal P s = some a → ∀ w, s.run P w = .ok a w
  | .pure _, a, h, w => by simp [pureVal] at h; subst h; rfl
  | .program k, a, h, w => by simp [pureVal] at h; exact run_pureVal (s := k P) h w
  | .mark _ k, a, h, w => by simp [pureVal] at h; exact run_pureVal (s := k) h w

/-- A value without an address, one level deep. -/
def plainV : Value → Bool
  | .agg cs => cs.all scal
  | .tuple cs => cs.all scal
  | .iface _ v => scal v
  | .func (.func _) fs cs => fs.isEmpty && cs.isEmpty
  | v => scal v

theorem scal_eq {ρ : Rho} {v v' : Value} (hs : scal v = true) (h : VRel ρ v v') : v' = v := by
  cases h <;> first | rfl | (simp [scal] at hs)

theorem arr_eq {cs cs' : Array Value} (hs : cs.size = cs'.size) (h : ∀ i, i < cs.size → cs'.getD i undef = cs.getD i undef) : cs' = cs := by
  refine Array.ext hs.symm (fun i h1 h2 => ?_)
  have := h i h2
  simpa [Array.getD, h1, h2] using this
theorem getD_mem {cs : Array Value} {i : Nat} (h : i < cs.size) : cs.getD i undef ∈ cs := by
  simp [Array.getD, h]
theorem plain_eq {ρ : Rho} {v v' : Value} (hs : plainV v = true) (h : VRel ρ v v') : v' = v := by
  cases h with
  | base h => rfl
  | agg hz hp =>
    simp only [plainV, Array.all_eq_true_iff_forall_mem] at hs
    rw [arr_eq hz (fun i hi => scal_eq (hs _ (getD_mem hi)) (hp i hi))]
  | tup hz hp =>
    simp only [plainV, Array.all_eq_true_iff_forall_mem] at hs
    rw [arr_eq hz (fun i hi => scal_eq (hs _ (getD_mem hi)) (hp i hi))]
  | ifc hp => simp only [plainV] at hs; rw [scal_eq hs hp]
  | fn hf h1 hz h2 =>
    rename_i g fs fs' cs cs'
    simp only [plainV, Bool.and_eq_true, Array.isEmpty_iff] at hs
    obtain ⟨rfl, rfl⟩ := hs
    rw [arr_eq hf (fun i hi => absurd hi (by simp)), arr_eq hz (fun i hi => absurd hi (by simp))]
  | _ => simp [plainV, scal] at hs
theorem plain_rel {ρ : Rho} {v : Value} (hs : plainV v = true) : VRel ρ v v := by
  cases v with
  | agg cs =>
    simp only [plainV, Array.all_eq_true_iff_forall_mem] at hs
    exact .agg rfl (fun i hi => .base (hs _ (getD_mem hi)))
  | tuple cs =>
    simp only [plainV, Array.all_eq_true_iff_forall_mem] at hs
    exact .tup rfl (fun i hi => .base (hs _ (getD_mem hi)))
  | iface t v => exact .ifc (.base hs)
  | func fn fs cs =>
    cases fn with
    | func g =>
      simp only [plainV, Bool.and_eq_true, Array.isEmpty_iff] at hs
      obtain ⟨rfl, rfl⟩ := hs
      exact .fn rfl (fun i hi => absurd hi (by simp)) rfl (fun i hi => absurd hi (by simp))
    | _ => simp [plainV, scal] at hs
  | _ => exact .base hs

/-- Operands alike. -/
def OpsRel (ρ : Rho) (o : Oper) (a ar : Act) : Prop := ∀ x ∈ o.op.operands, VRel ρ (a.eval x) (ar.eval x)

/-- An operation that touches no memory: its value. -/
def PureOp (P : Program) (o : Oper) (a : Act) (v : Value) : Prop :=
  ∀ (ρ : Rho) (ar : Act) (w : World), OpsRel ρ o a ar → ∃ v', (execOp ar.eval o).run P w = .ok (.value v') w ∧ VRel ρ v v'

/-- All operands plain: what the model's own text comes to. -/
theorem pureOp_plain {P : Program} {o : Oper} {a : Act} {v : Value} (hs : ∀ cs b, o.op ≠ .select cs b) (hp : o.op.operands.all (fun x => plainV (a.eval x)) = true)
    (hv : pureVal P (execOp a.eval o) = some (.value v)) (hr : plainV v = true) : PureOp P o a v := by
  intro ρ ar w hrel
  refine ⟨v, ?_, plain_rel hr⟩
  rw [execOp_congr o hs (ρ' := a.eval) (fun x hx => ?_)]
  · exact run_pureVal hv w
  · rw [Array.all_eq_true_iff_forall_mem] at hp
    exact plain_eq (hp x hx) (hrel x hx)

section inv
variable {ρ : Rho} {v' : Value}
theorem VRel.ptr_inv {i o : Nat} (h : VRel ρ (.pointer (some ⟨i, o, none⟩)) v') : ∃ R, ρ i = some R ∧ v' = .pointer (some ⟨R.block, R.off + o, none⟩) := by
  cases h with
  | base h => simp [scal] at h
  | ptr h => exact ⟨_, h, rfl⟩
theorem VRel.bool_inv {b : Bool} (h : VRel ρ (.bool b) v') : v' = .bool b := scal_eq rfl h
theorem VRel.int_inv {k : IntKind} {n : Int} (h : VRel ρ (.int k n) v') : v' = .int k n := scal_eq rfl h
theorem VRel.agg_inv {cs : Array Value} (h : VRel ρ (.agg cs) v') : ∃ cs', v' = .agg cs' ∧ cs.size = cs'.size ∧ ∀ i, i < cs.size → VRel ρ (cs.getD i undef) (cs'.getD i undef) := by
  cases h with
  | base h => simp [scal] at h
  | agg hs h => exact ⟨_, rfl, hs, h⟩
theorem VRel.tup_inv {cs : Array Value} (h : VRel ρ (.tuple cs) v') : ∃ cs', v' = .tuple cs' ∧ cs.size = cs'.size ∧ ∀ i, i < cs.size → VRel ρ (cs.getD i undef) (cs'.getD i undef) := by
  cases h with
  | base h => simp [scal] at h
  | tup hs h => exact ⟨_, rfl, hs, h⟩
theorem VRel.slc_inv {i o n c : Nat} (h : VRel ρ (.slice (some ⟨i, o, none⟩) n c) v') :
    (∃ R c', ρ i = some R ∧ (c' = c ∨ (c ≤ c' ∧ 0 < R.esz ∧ R.off + o + c' * R.esz ≤ R.room)) ∧ v' = .slice (some ⟨R.block, R.off + o, none⟩) n c') ∨ (n = 0 ∧ c = 0 ∧ ∃ a', v' = .slice (some a') 0 0) := by
  cases h with
  | base h => simp [scal] at h
  | slc h hc => exact .inl ⟨_, _, h, hc, rfl⟩
  | slc0 => exact .inr ⟨rfl, rfl, _, rfl⟩
theorem VRel.map_inv {i : Nat} (h : VRel ρ (.map (some i)) v') : ∃ R, ρ i = some R ∧ v' = .map (some R.block) := by
  cases h with
  | base h => simp [scal] at h
  | mp h => exact ⟨_, h, rfl⟩
theorem VRel.fn_inv {g : FuncId} {fs cs : Array Value} (h : VRel ρ (.func (.func g) fs cs) v') : ∃ fs' cs', v' = .func (.func g) fs' cs' ∧ fs.size = fs'.size ∧ (∀ i, i < fs.size → VRel ρ (fs.getD i undef) (fs'.getD i undef)) ∧ cs.size = cs'.size ∧ ∀ i, i < cs.size → VRel ρ (cs.getD i undef) (cs'.getD i undef) := by
  cases h with
  | base h => simp [scal] at h
  | fn h1 h2 h3 h4 => exact ⟨_, _, rfl, h1, h2, h3, h4⟩
theorem VRel.yld_inv {i : Nat} (h : VRel ρ (.func (.yield i) #[] #[]) v') : ∃ R, ρ i = some R ∧ v' = .func (.yield R.block) #[] #[] := by
  cases h with
  | base h => simp [scal] at h
  | yld h => exact ⟨_, h, rfl⟩
theorem VRel.nilslice_inv (h : VRel ρ (.slice none 0 0) v') : v' = .slice none 0 0 := scal_eq rfl h
theorem VRel.nilptr_inv (h : VRel ρ (.pointer none) v') : v' = .pointer none := scal_eq rfl h
end inv

/-- The size of a type's variables, in cells. -/
def tsize (P : Program) (t : TypeId) : Option Nat := (P.info? t).map (·.size)
def isAggB (d : TypeDesc) : Bool := match d with | .struct _ | .array _ _ => true | _ => false
def tagg (P : Program) (t : TypeId) : Option Bool := (P.underlying t).map isAggB

theorem run_under {P : Program} {t : TypeId} {d : TypeDesc} (h : P.underlying t = some d) (w : World) : (underlying t).run P w = .ok d w := by
  simp [underlying, program, Sem.run_bind, Sem.run, h, Result.andThen]
theorem run_size {P : Program} {t : TypeId} {n : Nat} (h : tsize P t = some n) (w : World) : (sizeOf t).run P w = .ok n w := by
  unfold tsize at h
  obtain ⟨i, h1, rfl⟩ := Option.map_eq_some_iff.mp h
  simp [sizeOf, typeInfo, program, Sem.run_bind, Sem.run, h1, Result.andThen]
theorem run_isAggB {P : Program} {t : TypeId} {b : Bool} (h : tagg P t = some b) (w : World) : (isAgg t).run P w = .ok b w := by
  unfold tagg at h
  obtain ⟨d, h1, rfl⟩ := Option.map_eq_some_iff.mp h
  unfold isAgg
  simp only [Sem.run_bind, run_under h1, Result.andThen_ok]
  cases d <;> rfl

section ops
variable {P : Program} {o : Oper} {a : Act}
theorem opsRel_mem {ρ : Rho} {ar : Act} (h : OpsRel ρ o a ar) (x : Operand) (hx : x ∈ o.op.operands) : VRel ρ (a.eval x) (ar.eval x) := h x hx
theorem pure_move {x : Operand} (ho : o.op = .move x ∨ o.op = .assign x) : PureOp P o a (a.eval x) := by
  intro ρ ar w hrel
  refine ⟨ar.eval x, ?_, hrel x (by rcases ho with h | h <;> simp [h, Op.operands])⟩
  rcases ho with h | h <;> simp only [execOp, h] <;> rfl
theorem pure_pick {c x y : Operand} {b : Bool} (ho : o.op = .pick c x y) (hc : a.eval c = .bool b) : PureOp P o a (if b then a.eval x else a.eval y) := by
  intro ρ ar w hrel
  have h0 := hrel c (by simp [ho, Op.operands])
  have h1 := hrel x (by simp [ho, Op.operands])
  have h2 := hrel y (by simp [ho, Op.operands])
  rw [hc] at h0
  refine ⟨if b then ar.eval x else ar.eval y, ?_, by cases b <;> simpa⟩
  simp [execOp, ho, h0.bool_inv, asBool, Sem.run_bind]
theorem pure_nilCheck {x : Operand} {i k : Nat} (ho : o.op = .nilCheck x) (hx : a.eval x = .pointer (some ⟨i, k, none⟩)) : PureOp P o a (a.eval x) := by
  intro ρ ar w hrel
  have h0 := hrel x (by simp [ho, Op.operands])
  refine ⟨ar.eval x, ?_, h0⟩
  rw [hx] at h0
  obtain ⟨R, _, e⟩ := h0.ptr_inv
  simp [execOp, ho, e]
theorem pure_nilCheckF {x : Operand} {g : FuncId} {fs cs : Array Value} (ho : o.op = .nilCheck x) (hx : a.eval x = .func (.func g) fs cs) : PureOp P o a (a.eval x) := by
  intro ρ ar w hrel
  have h0 := hrel x (by simp [ho, Op.operands])
  refine ⟨ar.eval x, ?_, h0⟩
  rw [hx] at h0
  obtain ⟨fs', cs', e, _⟩ := h0.fn_inv
  simp [execOp, ho, e]
theorem pure_nilCheckY {x : Operand} {i : Nat} (ho : o.op = .nilCheck x) (hx : a.eval x = .func (.yield i) #[] #[]) : PureOp P o a (a.eval x) := by
  intro ρ ar w hrel
  have h0 := hrel x (by simp [ho, Op.operands])
  refine ⟨ar.eval x, ?_, h0⟩
  rw [hx] at h0
  obtain ⟨R, _, e⟩ := h0.yld_inv
  simp [execOp, ho, e]

/-- Where a field lies in its struct. -/
def fieldOff (P : Program) (s : TypeId) (f : Nat) : Option Nat :=
  match P.underlying s with
  | some (.struct fs) => (match fs[f]? with
    | some fl => (match tsize P fl.type with
      | some n => if n = 0 then none else some fl.offset
      | none => none)
    | none => none)
  | _ => none
theorem add_none (b o n : Nat) : (⟨b, o, none⟩ : Addr).add n = ⟨b, o + n, none⟩ := by unfold Addr.add; split <;> simp_all
theorem run_fieldAt {s : TypeId} {f k b q : Nat} (h : fieldOff P s f = some k) (w : World) : (Instr.fieldAt s (.pointer (some ⟨b, q, none⟩)) f).run P w = .ok (.pointer (some ⟨b, q + k, none⟩)) w := by
  unfold fieldOff at h
  split at h
  · rename_i fs hu
    split at h
    · rename_i fl hf
      split at h
      · rename_i n hn
        split at h
        · cases h
        · rename_i hne
          obtain rfl := Option.some.inj h
          simp [Instr.fieldAt, Sem.run_bind, run_under hu, hf, Instr.sureAddr, fieldPlace, run_size hn, hne, add_none]
      · cases h
    · cases h
  · cases h
theorem pure_fieldAddr {s : TypeId} {x : Operand} {f i q k : Nat} (ho : o.op = .fieldAddr s x f) (hx : a.eval x = .pointer (some ⟨i, q, none⟩)) (hk : fieldOff P s f = some k) : PureOp P o a (.pointer (some ⟨i, q + k, none⟩)) := by
  intro ρ ar w hrel
  have h0 := hrel x (by simp [ho, Op.operands])
  rw [hx] at h0
  obtain ⟨R, hR, e⟩ := h0.ptr_inv
  refine ⟨.pointer (some ⟨R.block, R.off + q + k, none⟩), ?_, by rw [Nat.add_assoc]; exact .ptr hR⟩
  simp [execOp, ho, e, Sem.run_bind, run_fieldAt hk]

/-- An element's size: of an array's (and how many), of a slice's. -/
def arrOf (P : Program) (t : TypeId) : Option (Nat × Nat) :=
  match P.underlying t with
  | some (.array n e) => (tsize P e).map fun s => (n, s)
  | _ => none
def slcOf (P : Program) (t : TypeId) : Option (TypeId × Nat) :=
  match P.underlying t with
  | some (.slice e) => (tsize P e).map fun s => (e, s)
  | _ => none
theorem arrOf_inv {t : TypeId} {n s : Nat} (h : arrOf P t = some (n, s)) : ∃ e, P.underlying t = some (.array n e) ∧ tsize P e = some s := by
  unfold arrOf at h
  split at h
  · rename_i n' e hu
    obtain ⟨s', h1, h2⟩ := Option.map_eq_some_iff.mp h
    cases h2
    exact ⟨e, hu, h1⟩
  · cases h
theorem slcOf_inv {t e : TypeId} {s : Nat} (h : slcOf P t = some (e, s)) : P.underlying t = some (.slice e) ∧ tsize P e = some s := by
  unfold slcOf at h
  split at h
  · rename_i e' hu
    obtain ⟨s', h1, h2⟩ := Option.map_eq_some_iff.mp h
    cases h2
    exact ⟨hu, h1⟩
  · cases h
theorem pure_indexAddrS {t e : TypeId} {x ix : Operand} {i q n c s : Nat} {k : IntKind} {j : Int} (ho : o.op = .indexAddr t x ix) (hx : a.eval x = .slice (some ⟨i, q, none⟩) n c) (hi : a.eval ix = .int k j)
    (ht : slcOf P t = some (e, s)) (h0 : 0 ≤ j) (h1 : j < n) : PureOp P o a (.pointer (some ⟨i, q + j.toNat * s, none⟩)) := by
  intro ρ ar w hrel
  have g0 := hrel x (by simp [ho, Op.operands])
  have g1 := hrel ix (by simp [ho, Op.operands])
  rw [hx] at g0
  rw [hi] at g1
  obtain ⟨hu, hs⟩ := slcOf_inv ht
  rcases g0.slc_inv with ⟨R, c', hR, _, e0⟩ | ⟨rfl, _⟩
  · refine ⟨.pointer (some ⟨R.block, R.off + q + j.toNat * s, none⟩), ?_, by rw [Nat.add_assoc]; exact .ptr hR⟩
    simp [execOp, ho, e0, g1.int_inv, Sem.run_bind, Instr.indexAt, asIntOf, run_under hu, h0, h1, run_size hs, add_none]
  · omega
theorem pure_indexAddrA {t : TypeId} {x ix : Operand} {i q n s : Nat} {k : IntKind} {j : Int} (ho : o.op = .indexAddr t x ix) (hx : a.eval x = .pointer (some ⟨i, q, none⟩)) (hi : a.eval ix = .int k j)
    (ht : arrOf P t = some (n, s)) (h0 : 0 ≤ j) (h1 : j < n) : PureOp P o a (.pointer (some ⟨i, q + j.toNat * s, none⟩)) := by
  intro ρ ar w hrel
  have g0 := hrel x (by simp [ho, Op.operands])
  have g1 := hrel ix (by simp [ho, Op.operands])
  rw [hx] at g0
  rw [hi] at g1
  obtain ⟨e, hu, hs⟩ := arrOf_inv ht
  obtain ⟨R, hR, e0⟩ := g0.ptr_inv
  refine ⟨.pointer (some ⟨R.block, R.off + q + j.toNat * s, none⟩), ?_, by rw [Nat.add_assoc]; exact .ptr hR⟩
  simp [execOp, ho, e0, g1.int_inv, Sem.run_bind, Instr.indexAt, Instr.sureAddr, asIntOf, run_under hu, h0, h1, run_size hs, add_none]

/-- A part of a struct or an array. -/
def partOf (P : Program) (t : TypeId) (cs : Array Value) (off : Nat) : Option Value :=
  match tagg P t, tsize P t with
  | some true, some n => some (.agg (cs.extract off (off + n)))
  | some false, some _ => cs[off]?
  | _, _ => none
theorem get_rel {ρ : Rho} {cs cs' : Array Value} (hs : cs.size = cs'.size) (h : ∀ i, i < cs.size → VRel ρ (cs.getD i undef) (cs'.getD i undef)) {i : Nat} {v : Value} (hv : cs[i]? = some v) : ∃ v', cs'[i]? = some v' ∧ VRel ρ v v' := by
  obtain ⟨hi, e⟩ := Array.getElem?_eq_some_iff.1 hv
  have h1 := h i hi
  have hi' : i < cs'.size := by omega
  refine ⟨cs'[i], by simp [hi'], ?_⟩
  simpa [Array.getD, hi, hi', e] using h1
theorem rel_of_get {ρ : Rho} {cs cs' : Array Value} (h : ∀ (i : Nat) (v : Value), cs[i]? = some v → ∃ v', cs'[i]? = some v' ∧ VRel ρ v v') : ∀ i, i < cs.size → VRel ρ (cs.getD i undef) (cs'.getD i undef) := by
  intro i hi
  obtain ⟨v', h1, h2⟩ := h i cs[i] (by simp [hi])
  obtain ⟨hi', e⟩ := Array.getElem?_eq_some_iff.1 h1
  simpa [Array.getD, hi, hi', e] using h2
theorem part_run {t : TypeId} {cs cs' : Array Value} {off : Nat} {v : Value} {ρ : Rho} (hs : cs.size = cs'.size) (h : ∀ i, i < cs.size → VRel ρ (cs.getD i undef) (cs'.getD i undef)) (hp : partOf P t cs off = some v) (w : World) :
    ∃ v', (part t cs' off).run P w = .ok v' w ∧ VRel ρ v v' := by
  unfold partOf at hp
  split at hp
  · rename_i n h1 h2
    obtain rfl := Option.some.inj hp
    refine ⟨.agg (cs'.extract off (off + n)), by simp [part, Sem.run_bind, run_isAggB h1, run_size h2], .agg (by simp [hs]) (rel_of_get (fun i v hv => ?_))⟩
    rw [Array.getElem?_extract] at hv ⊢
    split at hv
    · rename_i hlt
      rw [hs] at hlt
      rw [if_pos hlt]
      exact get_rel hs h hv
    · cases hv
  · rename_i n h1 h2
    obtain ⟨v', e1, e2⟩ := get_rel hs h hp
    refine ⟨v', ?_, e2⟩
    simp [part, Sem.run_bind, run_isAggB h1, e1]
  · cases hp
theorem pure_field {t : TypeId} {x : Operand} {f : Nat} {cs : Array Value} {fs : Array Field} {fl : Field} {v : Value} (ho : o.op = .field t x f) (hx : a.eval x = .agg cs) (hu : P.underlying t = some (.struct fs)) (hf : fs[f]? = some fl)
    (hp : partOf P fl.type cs fl.offset = some v) : PureOp P o a v := by
  intro ρ ar w hrel
  have g0 := hrel x (by simp [ho, Op.operands])
  rw [hx] at g0
  obtain ⟨cs', e, hs, h⟩ := g0.agg_inv
  obtain ⟨v', h1, h2⟩ := part_run hs h hp w
  refine ⟨v', ?_, h2⟩
  simp [execOp, ho, e, Sem.run_bind, Instr.field, run_under hu, hf, asAgg, h1]
theorem pure_indexA {t e : TypeId} {x ix : Operand} {n s : Nat} {cs : Array Value} {v : Value} {k : IntKind} {j : Int} (ho : o.op = .index t x ix) (hx : a.eval x = .agg cs) (hi : a.eval ix = .int k j) (hu : P.underlying t = some (.array n e)) (hs : tsize P e = some s)
    (h0 : 0 ≤ j) (h1 : j < n) (hp : partOf P e cs (j.toNat * s) = some v) : PureOp P o a v := by
  intro ρ ar w hrel
  have g0 := hrel x (by simp [ho, Op.operands])
  have g1 := hrel ix (by simp [ho, Op.operands])
  rw [hx] at g0
  rw [hi] at g1
  obtain ⟨cs', e, hz, h⟩ := g0.agg_inv
  obtain ⟨v', k1, k2⟩ := part_run hz h hp w
  refine ⟨v', ?_, k2⟩
  simp [execOp, ho, e, g1.int_inv, Sem.run_bind, Instr.index, asIntOf, run_under hu, h0, h1, run_size hs, k1]
theorem pure_extract {x : Operand} {f : Nat} {cs : Array Value} {v : Value} (ho : o.op = .extract x f) (hx : a.eval x = .tuple cs) (hp : cs[f]? = some v) : PureOp P o a v := by
  intro ρ ar w hrel
  have g0 := hrel x (by simp [ho, Op.operands])
  rw [hx] at g0
  obtain ⟨cs', e, hs, h⟩ := g0.tup_inv
  obtain ⟨v', h1, h2⟩ := get_rel hs h hp
  refine ⟨v', ?_, h2⟩
  simp [execOp, ho, e, Sem.run_bind, Instr.extract, h1]
theorem pure_makeFunc {g : FuncId} {fs cs : Array Operand} (ho : o.op = .makeFunc (.func g) fs cs) : PureOp P o a (.func (.func g) (fs.map a.eval) (cs.map a.eval)) := by
  intro ρ ar w hrel
  have hm : ∀ (l : Array Operand), (∀ x ∈ l, x ∈ o.op.operands) → ∀ i, i < (l.map a.eval).size → VRel ρ ((l.map a.eval).getD i undef) ((l.map ar.eval).getD i undef) := by
    intro l hl
    refine rel_of_get (fun i v hv => ?_)
    rw [Array.getElem?_map] at hv ⊢
    obtain ⟨x, h1, rfl⟩ := Option.map_eq_some_iff.mp hv
    exact ⟨_, by rw [h1]; rfl, hrel x (hl x (Array.mem_of_getElem? h1))⟩
  refine ⟨.func (.func g) (fs.map ar.eval) (cs.map ar.eval), ?_, .fn (by simp) (hm fs (fun x hx => by simp [ho, Op.operands, hx])) (by simp) (hm cs (fun x hx => by simp [ho, Op.operands, hx]))⟩
  simp [execOp, ho, Sem.run_bind, Instr.makeFunc]
theorem pure_makeInterface {t : TypeId} {x : Operand} {d : TypeDesc} (ho : o.op = .makeInterface t x) (hu : P.underlying t = some d) (hd : (match d with | .interface _ => true | _ => false) = false) : PureOp P o a (.iface t (a.eval x)) := by
  intro ρ ar w hrel
  refine ⟨.iface t (ar.eval x), ?_, .ifc (hrel x (by simp [ho, Op.operands]))⟩
  simp only [execOp, ho, Sem.run_bind, Instr.makeInterface, run_under hu, Result.andThen_ok]
  cases d <;> first | (simp at hd; done) | rfl

/-- Of two values one of which is nil: are they the same. -/
def nilEq (d : TypeDesc) (x y : Value) : Option Bool :=
  match d with
  | .pointer _ => (match x, y with
    | .pointer none, .pointer none => some true
    | .pointer none, .pointer (some _) => some false
    | .pointer (some _), .pointer none => some false
    | _, _ => none)
  | .slice _ => (match x, y with
    | .slice none 0 0, .slice none 0 0 => some true
    | .slice none 0 0, .slice (some _) _ _ => some false
    | .slice (some _) _ _, .slice none 0 0 => some false
    | _, _ => none)
  | .map _ _ => (match x, y with
    | .map none, .map none => some true
    | .map none, .map (some _) => some false
    | .map (some _), .map none => some false
    | _, _ => none)
  | .func _ _ _ => (match x, y with
    | .nilFunc, .nilFunc => some true
    | .nilFunc, .func _ _ _ => some false
    | .func _ _ _, .nilFunc => some false
    | _, _ => none)
  | _ => none
theorem VRel.someptr {ρ : Rho} {q : Addr} {v' : Value} (h : VRel ρ (.pointer (some q)) v') : ∃ q', v' = .pointer (some q') := by
  cases h with
  | base h => simp [scal] at h
  | ptr h => exact ⟨_, rfl⟩
theorem VRel.someslc {ρ : Rho} {q : Addr} {n c : Nat} {v' : Value} (h : VRel ρ (.slice (some q) n c) v') : ∃ q' c', v' = .slice (some q') n c' := by
  cases h with
  | base h => simp [scal] at h
  | slc h hc => exact ⟨_, _, rfl⟩
  | slc0 => exact ⟨_, _, rfl⟩
  | slcE => exact ⟨_, _, rfl⟩
theorem VRel.somemap {ρ : Rho} {q : Nat} {v' : Value} (h : VRel ρ (.map (some q)) v') : ∃ q', v' = .map (some q') := by
  obtain ⟨R, _, e⟩ := h.map_inv
  exact ⟨_, e⟩
theorem VRel.somefn {ρ : Rho} {f : Fn} {fs cs : Array Value} {v' : Value} (h : VRel ρ (.func f fs cs) v') : ∃ f' fs' cs', v' = .func f' fs' cs' := by
  cases h with
  | base h => simp [scal] at h
  | fn h1 h2 h3 h4 => exact ⟨_, _, _, rfl⟩
  | yld h => exact ⟨_, _, _, rfl⟩
theorem nilEq_run {t : TypeId} {d : TypeDesc} (hu : P.underlying t = some d) {x y x' y' : Value} {b : Bool} {ρ : Rho} (h : nilEq d x y = some b) (hx : VRel ρ x x') (hy : VRel ρ y y') (k : Nat) (w : World) :
    (Op.equalIn (k + 1) t x' y').run P w = .ok b w := by
  unfold nilEq at h
  split at h <;> first | (cases h; done) | (split at h <;> first | (cases h; done) | obtain rfl := Option.some.inj h)
  · rw [scal_eq rfl hx, scal_eq rfl hy]; simp [Op.equalIn, run_under hu]
  · obtain ⟨q, rfl⟩ := hy.someptr; rw [scal_eq rfl hx]; simp [Op.equalIn, run_under hu]
  · obtain ⟨q, rfl⟩ := hx.someptr; rw [scal_eq rfl hy]; simp [Op.equalIn, run_under hu]
  · rw [scal_eq rfl hx, scal_eq rfl hy]; simp [Op.equalIn, run_under hu]
  · obtain ⟨q, c, rfl⟩ := hy.someslc; rw [scal_eq rfl hx]; simp [Op.equalIn, run_under hu]
  · obtain ⟨q, c, rfl⟩ := hx.someslc; rw [scal_eq rfl hy]; simp [Op.equalIn, run_under hu]
  · rw [scal_eq rfl hx, scal_eq rfl hy]; simp [Op.equalIn, run_under hu]
  · obtain ⟨q, rfl⟩ := hy.somemap; rw [scal_eq rfl hx]; simp [Op.equalIn, run_under hu]
  · obtain ⟨q, rfl⟩ := hx.somemap; rw [scal_eq rfl hy]; simp [Op.equalIn, run_under hu]
  · rw [scal_eq rfl hx, scal_eq rfl hy]; simp [Op.equalIn, run_under hu]
  · obtain ⟨f, fs, cs, rfl⟩ := hy.somefn; rw [scal_eq rfl hx]; simp [Op.equalIn, run_under hu]
  · obtain ⟨f, fs, cs, rfl⟩ := hx.somefn; rw [scal_eq rfl hy]; simp [Op.equalIn, run_under hu]
theorem nilEq_shape (P : Program) {d : TypeDesc} {x y x' y' : Value} {b : Bool} {ρ : Rho} (h : nilEq d x y = some b) (hx : VRel ρ x x') (hy : VRel ρ y y') (t : TypeId) (c1 c2 : Operand) (w : World) :
    (eqGuard .eql t c1 c2 x' y').run P w = .ok () w ∧ (eqGuard .neq t c1 c2 x' y').run P w = .ok () w ∧ binOp .eql t x' y' = (do pure (.bool (← Op.equal t x' y'))) ∧ binOp .neq t x' y' = (do pure (.bool (!(← Op.equal t x' y')))) := by
  unfold nilEq at h
  split at h <;> first | (cases h; done) | (split at h <;> first | (cases h; done) | obtain rfl := Option.some.inj h)
  · rw [scal_eq rfl hx, scal_eq rfl hy]; exact ⟨rfl, rfl, rfl, rfl⟩
  · obtain ⟨q, rfl⟩ := hy.someptr; rw [scal_eq rfl hx]; exact ⟨rfl, rfl, rfl, rfl⟩
  · obtain ⟨q, rfl⟩ := hx.someptr; rw [scal_eq rfl hy]; exact ⟨rfl, rfl, rfl, rfl⟩
  · rw [scal_eq rfl hx, scal_eq rfl hy]; exact ⟨rfl, rfl, rfl, rfl⟩
  · obtain ⟨q, c, rfl⟩ := hy.someslc; rw [scal_eq rfl hx]; exact ⟨rfl, rfl, rfl, rfl⟩
  · obtain ⟨q, c, rfl⟩ := hx.someslc; rw [scal_eq rfl hy]; exact ⟨rfl, rfl, rfl, rfl⟩
  · rw [scal_eq rfl hx, scal_eq rfl hy]; exact ⟨rfl, rfl, rfl, rfl⟩
  · obtain ⟨q, rfl⟩ := hy.somemap; rw [scal_eq rfl hx]; exact ⟨rfl, rfl, rfl, rfl⟩
  · obtain ⟨q, rfl⟩ := hx.somemap; rw [scal_eq rfl hy]; exact ⟨rfl, rfl, rfl, rfl⟩
  · rw [scal_eq rfl hx, scal_eq rfl hy]; exact ⟨rfl, rfl, rfl, rfl⟩
  · obtain ⟨f, fs, cs, rfl⟩ := hy.somefn; rw [scal_eq rfl hx]; exact ⟨rfl, rfl, rfl, rfl⟩
  · obtain ⟨f, fs, cs, rfl⟩ := hx.somefn; rw [scal_eq rfl hy]; exact ⟨rfl, rfl, rfl, rfl⟩
theorem pure_eqNil {t ty : TypeId} {d : TypeDesc} {x y : Operand} {b : Bool} (ho : o.op = .binOp .eql t x y ty) (hu : P.underlying t = some d) (h : nilEq d (a.eval x) (a.eval y) = some b) : PureOp P o a (.bool b) := by
  intro ρ ar w hrel
  have hx := hrel x (by simp [ho, Op.operands])
  have hy := hrel y (by simp [ho, Op.operands])
  obtain ⟨g1, _, g2, _⟩ := nilEq_shape P h hx hy t x y w
  refine ⟨.bool b, ?_, .base rfl⟩
  simp [execOp, ho, Sem.run_bind, g1, g2, Op.equal, Op.maxDepth, nilEq_run hu h hx hy]
theorem pure_neNil {t ty : TypeId} {d : TypeDesc} {x y : Operand} {b : Bool} (ho : o.op = .binOp .neq t x y ty) (hu : P.underlying t = some d) (h : nilEq d (a.eval x) (a.eval y) = some b) : PureOp P o a (.bool (!b)) := by
  intro ρ ar w hrel
  have hx := hrel x (by simp [ho, Op.operands])
  have hy := hrel y (by simp [ho, Op.operands])
  obtain ⟨_, g1, _, g2⟩ := nilEq_shape P h hx hy t x y w
  refine ⟨.bool !b, ?_, .base rfl⟩
  simp [execOp, ho, Sem.run_bind, g1, g2, Op.equal, Op.maxDepth, nilEq_run hu h hx hy]

/-- 'len' of a slice. -/
theorem pure_lenS {x : Operand} {t : TypeId} {ts : Array TypeId} {c : Call} {q : Option Addr} {n k : Nat} {e : TypeId} (ho : o.op = .call c) (hc : c.callee = .builtin .len) (ha : c.args = #[x]) (ht : c.argTypes[0]? = some t)
    (hx : a.eval x = .slice q n k) (hu : P.underlying t = some (.slice e)) : PureOp P o a (.int .i64 n) := by
  intro ρ ar w hrel
  have hx' := hrel x (by simp [ho, Op.operands, Call.operands, ha])
  rw [hx] at hx'
  have : ∃ q' k', ar.eval x = .slice q' n k' := by
    cases q with
    | none =>
      generalize ar.eval x = z at hx'
      cases hx' with
      | base h => exact ⟨_, _, rfl⟩
    | some q => obtain ⟨q', c', e⟩ := hx'.someslc; exact ⟨_, _, e⟩
  obtain ⟨q', k', e⟩ := this
  refine ⟨.int .i64 n, ?_, .base rfl⟩
  simp [execOp, ho, Sem.run_bind, resolve, hc, ha, invoke, builtin, Builtin.len_, ht, e, run_under hu, goInt]
end ops
end Go.Proofs.Ytfgaggpfdckggaa.Ideal
