/- More operations: copies, maps, bytes and strings. -/
import Derived.Test.YtfgaggpfdckggaaI8
noncomputable section
namespace Go.Proofs.Ytfgaggpfdckggaa.Ideal
set_option linter.unusedVariables false
set_option linter.unusedSimpArgs false
set_option linter.unnecessarySimpa false

theorem LRel.take {ρ : Rho} {a a' : List Value} (h : LRel ρ a a') (n : Nat) : LRel ρ (a.take n) (a'.take n) := by
  refine ⟨by simp [h.1], fun i v hv => ?_⟩
  rw [List.getElem?_take] at hv ⊢
  split at hv
  · rename_i hi; rw [if_pos hi]; exact h.2 i v hv
  · cases hv
theorem all_take {l : List Value} {p : Value → Bool} (h : l.all p = true) (n : Nat) : (l.take n).all p = true := by
  rw [List.all_eq_true] at *
  exact fun x hx => h x (List.mem_of_mem_take hx)

/-- A copy. -/
def icopy (P : Program) (h : IHeap) (t : TypeId) (d x : Value) : Option (Value × IHeap) :=
  match slcOf P t with
  | none => none
  | some (_, size) =>
  match srcOf h size x with
  | none => none
  | some (m, vs) =>
  match d with
  | .slice none 0 0 => some (.int .i64 0, h)
  | .slice (some ⟨i, q, none⟩) n _ =>
    if min m n = 0 then some (.int .i64 0, h) else
    (match h.get i with
    | some (.row false esz cs) => if q + (vs.take (min m n * size)).length ≤ cs.length ∧ vs.all (·.oneCell') = true then some (.int .i64 (min m n : Nat), h.set i (.row false esz (splice cs q (vs.take (min m n * size))))) else none
    | _ => none)
  | .slice (some ⟨_, _, some _⟩) 0 0 => some (.int .i64 0, h)
  | _ => none
theorem mem_copy {P : Program} {o : Oper} {a : Act} {h h' : IHeap} {c : Call} {t t2 : TypeId} {d x : Operand} {v : Value} (ho : o.op = .call c) (hc : c.callee = .builtin .copy) (ha : c.args = #[d, x]) (hat : c.argTypes = #[t, t2])
    (hv : icopy P h t (a.eval d) (a.eval x) = some (v, h')) : MOp P o a h v h' := by
  intro ρ ar w hm hfr hrel
  have gd := hrel d (by simp [ho, Op.operands, Call.operands, hc, ha])
  have gx := hrel x (by simp [ho, Op.operands, Call.operands, hc, ha])
  have hexec : ∀ (v' : Value) (w' : World), (Builtin.copy_ #[t, t2] o.type #[ar.eval d, ar.eval x]).run P w = .ok v' w' → (execOp ar.eval o).run P w = .ok (.value v') w' := by
    intro v' w' hr
    simp only [execOp, ho, resolve, hc, ha, hat, Sem.run_bind, Sem.run_pure, Result.andThen_ok, invoke, builtin, List.map_toArray, List.map_cons, List.map_nil, hr]
  unfold icopy at hv
  split at hv
  · cases hv
  rename_i e size hslc
  obtain ⟨hu, hsz⟩ := slcOf_inv hslc
  split at hv
  · cases hv
  rename_i m vs hsrc
  obtain ⟨vs', k1, k2, k3, k4⟩ := src_run (P := P) hsrc hm gx
  have copy_run : ∀ (base : Option Addr) (n c : Nat) (w' : World), ar.eval d = .slice base n c → (∀ b, base = some b → (storeCells b (vs'.take (min m n * size))).run P w = .ok () w') → (base = none → w' = w) →
      (Builtin.copy_ #[t, t2] o.type #[ar.eval d, ar.eval x]).run P w = .ok (.int .i64 (min m n : Nat)) w' := by
    intro base n c w' ed hst hb
    have g0 : (#[t, t2] : Array TypeId)[0]? = some t := rfl
    rw [ed]
    have g2 : (#[.slice base n c, ar.eval x] : Array Value)[0]? = some (.slice base n c) := rfl
    have g3 : (#[.slice base n c, ar.eval x] : Array Value)[1]? = some (ar.eval x) := rfl
    have hmin : Nat.min m n = min m n := rfl
    have hf := k4 (min m n) (Nat.min_le_left _ _) w rfl
    simp only [Builtin.copy_, g0, g2, g3, Sem.run_bind, run_under hu, Result.andThen_ok, k1, run_size hsz, hmin, hf]
    cases base with
    | none => rw [hb rfl]; rfl
    | some b => simp only [hst b rfl, Sem.run_bind, Result.andThen_ok]; rfl
  split at hv
  · rename_i hd
    cases hv
    rw [hd] at gd
    have ed := gd.nilslice_inv
    refine ⟨_, w, ρ, _, hexec _ _ (copy_run none 0 0 w ed (fun b hb => by cases hb) (fun _ => rfl)), .inl rfl, Step.refl _ _ _, hm, ?_⟩
    rw [Nat.min_zero]; exact .base rfl
  · rename_i i q n c hd
    rw [hd] at gd
    split at hv
    · rename_i h0
      cases hv
      obtain ⟨a', c', ed⟩ := gd.someslc
      refine ⟨_, w, ρ, _, hexec _ _ (copy_run (some a') n c' w ed (fun b hb => by rw [h0]; simp [storeCells]) (fun hb => by cases hb)), .inl rfl, Step.refl _ _ _, hm, ?_⟩
      rw [h0]; exact .base rfl
    · rename_i h0
      split at hv
      · rename_i esz cs hg
        split at hv
        · rename_i hfit
          cases hv
          rcases gd.slc_inv with ⟨R, c', hR, _, ed⟩ | ⟨e0, _⟩
          · obtain ⟨ob, hb, hor⟩ := hm.obj i R _ hg hR
            obtain ⟨w', ob', g1, g2, g3, g4, g5, g6, g7, g8⟩ := storeCells_run (P := P) (q := q) hb hor (k2.take (min m n * size)) hfit.1 (all_take hfit.2 _)
            obtain ⟨s1, m1⟩ := hm.write hg rfl (by simp) hR g2 g3 g4 g5 g6 g7 g8
            exact ⟨_, w', ρ, _, hexec _ _ (copy_run _ n c' w' ed (fun b hb => by cases hb; exact g1) (fun hb => by cases hb)), .inl rfl, s1, m1, .base rfl⟩
          · exact absurd (by rw [e0, Nat.min_zero]) h0
        · cases hv
      · cases hv
  · rename_i i q u hd
    cases hv
    have ed : ∃ a', ar.eval d = .slice (some a') 0 0 := by
      rw [hd] at gd
      generalize ar.eval d = y at gd
      cases gd with
      | base h => simp [scal] at h
      | slcE => exact ⟨_, rfl⟩
    obtain ⟨a', ed⟩ := ed
    refine ⟨_, w, ρ, _, hexec _ _ (copy_run (some a') 0 0 w ed (fun b hb => by rw [Nat.min_zero, Nat.zero_mul]; simp [storeCells]) (fun hb => by cases hb)), .inl rfl, Step.refl _ _ _, hm, ?_⟩
    rw [Nat.min_zero]; exact .base rfl
  · cases hv

/-- A slice's array. -/
theorem pure_toArray {P : Program} {o : Oper} {a : Act} {t e : TypeId} {x : Operand} {i q n c N : Nat} (ho : o.op = .sliceToArrayPointer t x) (hx : a.eval x = .slice (some ⟨i, q, none⟩) n c) (hu : P.underlying t = some (.array N e)) (hn : N ≤ n) (hN : 0 < N) : PureOp P o a (.pointer (some ⟨i, q, none⟩)) := by
  intro ρ ar w hrel
  have g0 := hrel x (by simp [ho, Op.operands])
  rw [hx] at g0
  rcases g0.slc_inv with ⟨R, c', hR, _, e0⟩ | ⟨e0, _⟩
  · refine ⟨.pointer (some ⟨R.block, R.off + q, none⟩), ?_, .ptr hR⟩
    have : ¬ (n < N) := by omega
    simp [execOp, ho, e0, Sem.run_bind, Instr.arrayAt, run_under hu, this]
  · omega

/-! ### Maps -/
/-- An entry without its value. -/
def bareE (e : MapEntry) : MapEntry := { key := e.key, val := undef, born := 0 }
theorem find_bare_now (d : TypeDesc) (k : Value) : ∀ (es es' : List MapEntry) (n : Nat), es.map bareE = es'.map bareE → ∀ (r : Option (Option (Nat × Value))), Instr.findNow d k (es.map bareE) n = r → match r with
    | none => Instr.findNow d k es' n = none
    | some none => Instr.findNow d k es' n = some none
    | some (some (i, _)) => ∃ e, es'[i - n]? = some e ∧ n ≤ i ∧ Instr.findNow d k es' n = some (some (i, e.val))
  | [], es', n, he, r, hr => by
    cases es' with
    | nil => simp only [List.map_nil, Instr.findNow] at hr; subst hr; rfl
    | cons e es' => simp at he
  | e :: es, [], n, he, r, hr => by simp at he
  | e :: es, e' :: es', n, he, r, hr => by
    simp only [List.map_cons, List.cons.injEq] at he
    obtain ⟨h1, h2⟩ := he
    have hk : e.key = e'.key := by have := congrArg MapEntry.key h1; exact this
    simp only [List.map_cons, Instr.findNow] at hr ⊢
    have hk2 : (bareE e).key = e'.key := hk
    rw [hk2] at hr
    cases hs : Instr.sameNow d k e'.key with
    | none => rw [hs] at hr; subst hr; rfl
    | some b =>
      rw [hs] at hr
      cases b with
      | true =>
        simp only at hr
        subst hr
        exact ⟨e', by simp, Nat.le_refl _, rfl⟩
      | false =>
        simp only at hr
        have ih := find_bare_now d k es es' (n + 1) h2 r hr
        cases r with
        | none => exact ih
        | some r =>
          cases r with
          | none => exact ih
          | some p =>
            obtain ⟨i, u⟩ := p
            obtain ⟨e2, g1, g2, g3⟩ := ih
            refine ⟨e2, ?_, by omega, g3⟩
            rw [show i - n = (i - (n + 1)) + 1 by omega]
            simpa using g1
theorem pureVal_bind {α β : Type} {P : Program} (s : Sem α) (f : α → Sem β) : pureVal P (s >>= f) = (pureVal P s).bind fun a => pureVal P (f a) := by
  show pureVal P (Sem.bind s f) = _
  induction s with
  | pure a => rfl
  | program k ih => simp only [Sem.bind, pureVal]; exact ih P
  | mark m k ih => simp only [Sem.bind, pureVal]; exact ih
  | _ => rfl
theorem find_bare_ask {P : Program} (kt : TypeId) (k : Value) : ∀ (es es' : List MapEntry) (n : Nat), es.map bareE = es'.map bareE → ∀ (r : Option (Nat × Value)), pureVal P (Instr.findAsking kt k (es.map bareE) n) = some r → match r with
    | none => ∀ w, (Instr.findAsking kt k es' n).run P w = .ok none w
    | some (i, _) => ∃ e, es'[i - n]? = some e ∧ n ≤ i ∧ ∀ w, (Instr.findAsking kt k es' n).run P w = .ok (some (i, e.val)) w
  | [], es', n, he, r, hr => by
    cases es' with
    | nil => simp only [List.map_nil, Instr.findAsking] at hr; cases hr; exact fun w => rfl
    | cons e es' => simp at he
  | e :: es, [], n, he, r, hr => by simp at he
  | e :: es, e' :: es', n, he, r, hr => by
    simp only [List.map_cons, List.cons.injEq] at he
    obtain ⟨h1, h2⟩ := he
    have hk : e.key = e'.key := by have := congrArg MapEntry.key h1; exact this
    have hk2 : (bareE e).key = e'.key := hk
    simp only [List.map_cons, Instr.findAsking] at hr ⊢
    rw [pureVal_bind, hk2] at hr
    obtain ⟨b, hb, hr2⟩ := Option.bind_eq_some_iff.mp hr
    have hrun := fun w => run_pureVal hb w
    cases b with
    | true =>
      simp only [if_true] at hr2
      cases hr2
      exact ⟨e', by simp, Nat.le_refl _, fun w => by simp only [Sem.run_bind, hrun, Result.andThen_ok, if_true]; rfl⟩
    | false =>
      simp only [Bool.false_eq_true, if_false] at hr2
      have ih := find_bare_ask kt k es es' (n + 1) h2 r hr2
      cases r with
      | none => exact fun w => by simp only [Sem.run_bind, hrun, Result.andThen_ok, Bool.false_eq_true, if_false, ih w]
      | some p =>
        obtain ⟨i, u⟩ := p
        obtain ⟨e2, g1, g2, g3⟩ := ih
        refine ⟨e2, ?_, by omega, fun w => by simp only [Sem.run_bind, hrun, Result.andThen_ok, Bool.false_eq_true, if_false, g3 w]⟩
        rw [show i - n = (i - (n + 1)) + 1 by omega]
        simpa using g1
/-- Where a key is: none: it cannot be told; some none: nowhere. -/
def ifind (P : Program) (kt : TypeId) (k : Value) (es : List MapEntry) : Option (Option Nat) :=
  (pureVal P (Instr.findKey kt k (es.map bareE))).map fun r => r.map (·.1)
theorem ifind_run {P : Program} {kt : TypeId} {k : Value} {es es' : List MapEntry} {r : Option Nat} (he : es.map bareE = es'.map bareE) (hf : ifind P kt k es = some r) : match r with
    | none => ∀ w, (Instr.findKey kt k es').run P w = .ok none w
    | some i => ∃ e, es'[i]? = some e ∧ ∀ w, (Instr.findKey kt k es').run P w = .ok (some (i, e.val)) w := by
  unfold ifind at hf
  obtain ⟨r0, h0, rfl⟩ := Option.map_eq_some_iff.mp hf
  unfold Instr.findKey at h0
  rw [pureVal_bind] at h0
  obtain ⟨d, hd, h1⟩ := Option.bind_eq_some_iff.mp h0
  have hdr := fun w => run_pureVal hd w
  cases hn : Instr.findNow d k (es.map bareE) 0 with
  | some r1 =>
    rw [hn] at h1
    cases h1
    have := find_bare_now d k es es' 0 he _ hn
    cases r0 with
    | none =>
      simp only [Option.map_none]
      intro w
      unfold Instr.findKey
      simp only at this
      simp only [Sem.run_bind, hdr, Result.andThen_ok, this]
      rfl
    | some p =>
      obtain ⟨i, u⟩ := p
      obtain ⟨e, g1, g2, g3⟩ := this
      simp only [Option.map_some]
      refine ⟨e, by simpa using g1, fun w => ?_⟩
      unfold Instr.findKey
      simp only [Sem.run_bind, hdr, Result.andThen_ok, g3]
      rfl
  | none =>
    rw [hn] at h1
    simp only at h1
    have hnow := find_bare_now d k es es' 0 he _ hn
    simp only at hnow
    have := find_bare_ask (P := P) kt k es es' 0 he _ h1
    cases r0 with
    | none =>
      simp only [Option.map_none]
      intro w
      unfold Instr.findKey
      simp only [Sem.run_bind, hdr, Result.andThen_ok, hnow]
      exact this w
    | some p =>
      obtain ⟨i, u⟩ := p
      obtain ⟨e, g1, g2, g3⟩ := this
      simp only [Option.map_some]
      refine ⟨e, by simpa using g1, fun w => ?_⟩
      unfold Instr.findKey
      simp only [Sem.run_bind, hdr, Result.andThen_ok, hnow]
      exact g3 w

/-- All keys are plain. -/
def keysPlain (es : List MapEntry) : Bool := es.all fun e => plainV e.key
theorem map_real {ρ : Rho} {h : IHeap} {w : World} {i : Nat} {R : Ren} {es : List MapEntry} {ck : Nat} (hm : ∃ ob, w.heap[R.block]? = some ob ∧ ORel ρ R (.map es ck) ob) (hp : keysPlain es = true) :
    ∃ es' : Array MapEntry, w.heap[R.block]? = some (.map es' ck) ∧ es.length = es'.size ∧ (∀ (i : Nat) (e : MapEntry), es[i]? = some e → ∃ e', es'[i]? = some e' ∧ ERel ρ e e') ∧ es.map bareE = es'.toList.map bareE := by
  obtain ⟨ob, hb, hor⟩ := hm
  cases hor with
  | @map _ es' _ hs hh =>
    refine ⟨es', hb, hs, hh, ?_⟩
    apply List.ext_getElem?
    intro k
    rw [List.getElem?_map, List.getElem?_map, show es'.toList[k]? = es'[k]? from Array.getElem?_toList]
    cases hk : es[k]? with
    | none =>
      have h1 : es.length ≤ k := List.getElem?_eq_none_iff.1 hk
      have : es'[k]? = none := Array.getElem?_eq_none (by omega)
      rw [this]
    | some e =>
      obtain ⟨e', g1, g2⟩ := hh k e hk
      rw [g1]
      unfold keysPlain at hp
      rw [List.all_eq_true] at hp
      have := plain_eq (hp e (List.mem_of_getElem? hk)) g2.key
      simp only [Option.map_some, bareE, this]
theorem run_getMap {P : Program} {w : World} {b : Nat} {es : Array MapEntry} {ck : Nat} (hb : w.heap[b]? = some (.map es ck)) : (getObj b).run P w = .ok (.map es ck) w := by
  simp [getObj, Sem.run, hb]

/-- The zero value of a type, if it is plain. -/
def zeroV (P : Program) (t : TypeId) : Option Value := match (P.info? t).bind (·.zero) with
  | some z => if plainV z then some z else none
  | none => none
theorem zeroV_inv {P : Program} {t : TypeId} {z : Value} (h : zeroV P t = some z) : plainV z = true ∧ ∀ w, (zeroValue t).run P w = .ok z w := by
  unfold zeroV at h
  split at h
  · rename_i z0 hz
    split at h
    · rename_i hp
      cases h
      refine ⟨hp, fun w => ?_⟩
      obtain ⟨i, h1, h2⟩ := Option.bind_eq_some_iff.mp hz
      simp [zeroValue, typeInfo, program, Sem.run_bind, Sem.run, h1, h2]
    · cases h
  · cases h
def mapOf (P : Program) (t : TypeId) : Option (TypeId × TypeId) := match P.underlying t with | some (.map k e) => some (k, e) | _ => none
theorem mapOf_inv {P : Program} {t k e : TypeId} (h : mapOf P t = some (k, e)) : P.underlying t = some (.map k e) := by
  unfold mapOf at h
  split at h
  · rename_i k' e' hu; cases h; exact hu
  · cases h
def keyChecked (P : Program) (b : Bool) (kt : TypeId) (k : Value) : Bool := (pureVal P (Instr.checkKey b 10000 kt k)).isSome
theorem keyChecked_run {P : Program} {b : Bool} {kt : TypeId} {k : Value} (h : keyChecked P b kt k = true) (w : World) : (Instr.checkKey b 10000 kt k).run P w = .ok () w := by
  unfold keyChecked at h
  obtain ⟨u, hu⟩ := Option.isSome_iff_exists.1 h
  exact run_pureVal hu w

/-- A look-up. -/
def ilookup (P : Program) (h : IHeap) (t : TypeId) (x k : Value) (ok : Bool) : Option (Value × Option Nat) :=
  match mapOf P t with
  | none => none
  | some (kt, et) =>
  match x with
  | .map none => if plainV k && keyChecked P true kt k then (zeroV P et).map fun z => (if ok then .tuple #[z, .bool false] else z, none) else none
  | .map (some i) => (match h.get i with
    | some (.map es _) => if plainV k && keysPlain es && keyChecked P es.isEmpty kt k then
        (match ifind P kt k es with
        | some (some j) => (match es[j]? with | some e => some (if ok then .tuple #[e.val, .bool true] else e.val, some i) | none => none)
        | some none => (zeroV P et).map fun z => (if ok then .tuple #[z, .bool false] else z, some i)
        | none => none) else none
    | _ => none)
  | _ => none
theorem tup2 {ρ : Rho} {v v' : Value} (b : Bool) (h : VRel ρ v v') : VRel ρ (.tuple #[v, .bool b]) (.tuple #[v', .bool b]) := by
  refine .tup rfl (fun i hi => ?_)
  match i, hi with
  | 0, _ => exact h
  | 1, _ => exact .base rfl
theorem read_lookup {P : Program} {o : Oper} {a : Act} {h : IHeap} {t : TypeId} {x k : Operand} {ok : Bool} {v : Value} {r : Option Nat} (ho : o.op = .lookup t x k ok) (hv : ilookup P h t (a.eval x) (a.eval k) ok = some (v, r)) : ROp P o a h v r.toList := by
  intro ρ ar w hm hrel
  have gx := hrel x (by simp [ho, Op.operands])
  have gk := hrel k (by simp [ho, Op.operands])
  unfold ilookup at hv
  split at hv
  · cases hv
  rename_i kt et hmo
  have hu := mapOf_inv hmo
  split at hv
  · rename_i hx
    split at hv
    · rename_i hc
      simp only [Bool.and_eq_true] at hc
      obtain ⟨z, hz, e⟩ := Option.map_eq_some_iff.mp hv
      cases e
      obtain ⟨hp, hzr⟩ := zeroV_inv hz
      rw [hx] at gx
      have ex := scal_eq rfl gx
      have ek := plain_eq hc.1 gk
      refine ⟨if ok then .tuple #[z, .bool false] else z, ?_, ?_⟩
      · simp only [execOp, ho, ex, ek, Sem.run_bind, Instr.lookup, run_under hu, Sem.run_pure, Result.andThen_ok]
        have hck := keyChecked_run (w := w) hc.2
        have hfk : (Instr.findKey kt (a.eval k) []).run P w = .ok none w := by
          unfold Instr.findKey
          have hku : ∃ d, P.underlying kt = some d := by
            have := hc.2
            unfold keyChecked at this
            obtain ⟨u, hu⟩ := Option.isSome_iff_exists.1 this
            unfold Instr.checkKey at hu
            rw [pureVal_bind] at hu
            obtain ⟨d, hd, _⟩ := Option.bind_eq_some_iff.mp hu
            have h1 := run_pureVal hd w
            unfold underlying at h1
            cases hdd : P.underlying kt with
            | some d => exact ⟨d, rfl⟩
            | none => simp [program, Sem.run_bind, Sem.run, hdd, stuck] at h1
          obtain ⟨d, hd⟩ := hku
          simp only [Sem.run_bind, run_under hd, Result.andThen_ok, Instr.findNow]
          rfl
        simp only [show (#[] : Array MapEntry).isEmpty = true from rfl, hck, Result.andThen_ok, hfk, hzr, Sem.run_pure]
        simp only [Sem.run_bind, hzr, Result.andThen_ok, Sem.run_pure]
      · cases ok with
        | true => exact tup2 false (plain_rel hp)
        | false => exact plain_rel hp
    · cases hv
  · rename_i i hx
    rw [hx] at gx
    obtain ⟨R, hR, ex⟩ := gx.map_inv
    split at hv
    · rename_i es ck hg
      split at hv
      · rename_i hc
        simp only [Bool.and_eq_true] at hc
        obtain ⟨⟨hpk, hpl⟩, hck0⟩ := hc
        have ek := plain_eq hpk gk
        have fin : ∀ (v0 : Value), v0 = v → r = some i → ∃ v', (execOp ar.eval o).run P w = .ok (.value v') w ∧ VRel ρ v v' := by
          intro v0 e0 er
          obtain ⟨es', hb, hs, hh, hbare⟩ := map_real (h := h) (i := i) (hm i (by rw [er]; simp) R _ hg hR) hpl
          have hemp : es'.isEmpty = es.isEmpty := by
            show decide (es'.size = 0) = _
            rw [← hs]
            cases es <;> rfl
          have hck := keyChecked_run (w := w) hck0
          rw [← hemp] at hck
          split at hv
          · rename_i j hf
            have := ifind_run hbare hf
            obtain ⟨e', g1, g2⟩ := this
            split at hv
            · rename_i e he
              cases hv
              obtain ⟨e2, k1, k2⟩ := hh j e he
              rw [Array.getElem?_toList] at g1
              rw [k1] at g1
              cases g1
              refine ⟨if ok then .tuple #[e'.val, .bool true] else e'.val, ?_, ?_⟩
              · simp only [execOp, ho, ex, ek, Sem.run_bind, Instr.lookup, run_under hu, Sem.run_pure, Result.andThen_ok, run_getMap hb, hck, g2]
              · cases ok with
                | true => exact tup2 true k2.val
                | false => exact k2.val
            · cases hv
          · rename_i hf
            have := ifind_run hbare hf
            simp only at this
            obtain ⟨z, hz, e⟩ := Option.map_eq_some_iff.mp hv
            cases e
            obtain ⟨hp, hzr⟩ := zeroV_inv hz
            refine ⟨if ok then .tuple #[z, .bool false] else z, ?_, ?_⟩
            · simp only [execOp, ho, ex, ek, Sem.run_bind, Instr.lookup, run_under hu, Sem.run_pure, Result.andThen_ok, run_getMap hb, hck, this, hzr]
            · cases ok with
              | true => exact tup2 false (plain_rel hp)
              | false => exact plain_rel hp
          · cases hv
        refine fin v rfl ?_
        split at hv
        · split at hv
          · cases hv; rfl
          · cases hv
        · obtain ⟨z, hz, e⟩ := Option.map_eq_some_iff.mp hv
          cases e; rfl
        · cases hv
      · cases hv
    · cases hv
  · cases hv

/-- A store into a map. -/
def iupdate (P : Program) (h : IHeap) (t : TypeId) (x k u : Value) : Option IHeap :=
  match mapOf P t, x with
  | some (kt, _), .map (some i) => (match h.get i with
    | some (.map es ck) => if plainV k && keysPlain es && keyChecked P false kt k then
        (match ifind P kt k es with
        | some (some j) => (match es[j]? with
          | some e => if Instr.sameBits 10000 e.key k then some (h.set i (.map (es.set j { e with key := k, val := u }) ck)) else none
          | none => none)
        | some none => some (h.set i (.map (es ++ [{ key := k, val := u, born := ck }]) (ck + 1)))
        | none => none) else none
    | _ => none)
  | _, _ => none
theorem map_write {ρ : Rho} {h : IHeap} {w : World} {i : Nat} {R : Ren} {es fs : List MapEntry} {ck ck' : Nat} {es' fs' : Array MapEntry} (hm : Models ρ h w) (hg : h.get i = some (.map es ck)) (hR : ρ i = some R) (hb : w.heap[R.block]? = some (.map es' ck))
    (hs : fs.length = fs'.size) (hh : ∀ (j : Nat) (e : MapEntry), fs[j]? = some e → ∃ e', fs'[j]? = some e' ∧ ERel ρ e e') : Step ρ h w ρ (h.set i (.map fs ck')) { w with heap := w.heap.setIfInBounds R.block (.map fs' ck') } ∧ Models ρ (h.set i (.map fs ck')) { w with heap := w.heap.setIfInBounds R.block (.map fs' ck') } := by
  have hlt := hm.lt i R hR
  refine hm.write (w' := { w with heap := w.heap.setIfInBounds R.block (.map fs' ck') }) hg rfl (by simp) hR (by simp) rfl rfl rfl (ob := .map fs' ck') (by simp [Array.getElem?_setIfInBounds, hlt]) (.map hs hh) (fun b' hb' => ?_)
  show (w.heap.setIfInBounds R.block (.map fs' ck'))[b']? = _
  rw [Array.getElem?_setIfInBounds, if_neg (fun e => hb' e.symm)]
theorem run_setMap {P : Program} {w : World} {b : Nat} {es fs : Array MapEntry} {ck ck' : Nat} (hb : w.heap[b]? = some (.map es ck)) : (setObj b (.map fs ck')).run P w = .ok () { w with heap := w.heap.setIfInBounds b (.map fs ck') } := by
  simp [setObj, Sem.run, hb]
theorem mem_update {P : Program} {o : Oper} {a : Act} {h h' : IHeap} {t : TypeId} {x k u : Operand} (ho : o.op = .mapUpdate t x k u ∨ o.op = .insert t x k u) (hv : iupdate P h t (a.eval x) (a.eval k) (a.eval u) = some h') : MOp P o a h undef h' := by
  intro ρ ar w hm _ hrel
  have gx := hrel x (by rcases ho with h | h <;> simp [h, Op.operands])
  have gk := hrel k (by rcases ho with h | h <;> simp [h, Op.operands])
  have gu := hrel u (by rcases ho with h | h <;> simp [h, Op.operands])
  have hexec : ∀ w', (Instr.mapUpdate t (ar.eval x) (ar.eval k) (ar.eval u)).run P w = .ok () w' → (execOp ar.eval o).run P w = .ok .skip w' := by
    intro w' hr
    rcases ho with h | h <;> simp only [execOp, h, Sem.run_bind, hr, Result.andThen_ok] <;> rfl
  unfold iupdate at hv
  split at hv
  · rename_i kt et i hmo hx
    have hu := mapOf_inv hmo
    rw [hx] at gx
    obtain ⟨R, hR, ex⟩ := gx.map_inv
    split at hv
    · rename_i es ck hg
      split at hv
      · rename_i hc
        simp only [Bool.and_eq_true] at hc
        obtain ⟨⟨hpk, hpl⟩, hck0⟩ := hc
        have ek := plain_eq hpk gk
        obtain ⟨es', hb, hs, hh, hbare⟩ := map_real (h := h) (i := i) (hm.obj i R _ hg hR) hpl
        have hck := keyChecked_run (w := w) hck0
        split at hv
        · rename_i j hf
          obtain ⟨e', g1, g2⟩ := ifind_run hbare hf
          rw [show es'.toList[j]? = es'[j]? from Array.getElem?_toList] at g1
          split at hv
          · rename_i e he
            split at hv
            · rename_i hsb
              cases hv
              obtain ⟨e2, k1, k2⟩ := hh j e he
              rw [k1] at g1
              cases g1
              have hkey : e'.key = e.key := by
                unfold keysPlain at hpl
                rw [List.all_eq_true] at hpl
                exact plain_eq (hpl e (List.mem_of_getElem? he)) k2.key
              have hj : j < es'.size := (Array.getElem?_eq_some_iff.1 k1).1
              have hfs : ∀ (n : Nat) (e0 : MapEntry), (es.set j { e with key := a.eval k, val := a.eval u })[n]? = some e0 → ∃ e1, (es'.modify j fun e => { e with key := a.eval k, val := ar.eval u })[n]? = some e1 ∧ ERel ρ e0 e1 := by
                intro n e0 hn
                rw [List.getElem?_set] at hn
                rw [Array.getElem?_modify]
                by_cases hjn : j = n
                · subst hjn
                  rw [if_pos rfl] at hn ⊢
                  rw [k1]
                  split at hn
                  · cases hn
                    exact ⟨_, rfl, ⟨plain_rel hpk, gu, k2.born⟩⟩
                  · cases hn
                · rw [if_neg hjn] at hn ⊢
                  exact hh n e0 hn
              obtain ⟨s, m⟩ := map_write (ck' := ck) hm hg hR hb (fs' := es'.modify j fun e => { e with key := a.eval k, val := ar.eval u }) (by simpa using hs) hfs
              refine ⟨.skip, _, ρ, undef, hexec _ ?_, .inr ⟨rfl, rfl⟩, s, m, VRel.undef_rel⟩
              have hst : (Instr.keyThatStays (((es'[j]?).map (·.key)).getD (a.eval k)) (a.eval k)).run P w = .ok (a.eval k) w := by
                rw [k1]
                simp only [Option.map_some, Option.getD_some, hkey, Instr.keyThatStays, hsb, if_true]
                rfl
              simp only [ex, ek, Instr.mapUpdate, Sem.run_bind, run_under hu, Result.andThen_ok, run_getMap hb, hck, g2, hst, run_setMap hb]
            · cases hv
          · cases hv
        · rename_i hf
          cases hv
          have hnone := ifind_run hbare hf
          simp only at hnone
          have hfs : ∀ (n : Nat) (e0 : MapEntry), (es ++ [{ key := a.eval k, val := a.eval u, born := ck }])[n]? = some e0 → ∃ e1, (es'.push { key := a.eval k, val := ar.eval u, born := ck })[n]? = some e1 ∧ ERel ρ e0 e1 := by
            intro n e0 hn
            rw [Array.getElem?_push]
            by_cases hlt : n < es.length
            · rw [List.getElem?_append_left hlt] at hn
              rw [if_neg (by omega)]
              exact hh n e0 hn
            · rw [List.getElem?_append_right (by omega)] at hn
              have hn0 : n = es'.size := by
                have := (List.getElem?_eq_some_iff.1 hn).1
                simp at this; omega
              rw [if_pos hn0]
              have : n - es.length = 0 := by omega
              rw [this] at hn
              simp at hn
              subst hn
              exact ⟨_, rfl, ⟨plain_rel hpk, gu, rfl⟩⟩
          obtain ⟨s, m⟩ := map_write (ck' := ck + 1) hm hg hR hb (fs' := es'.push { key := a.eval k, val := ar.eval u, born := ck }) (by simp [hs]) hfs
          refine ⟨.skip, _, ρ, undef, hexec _ ?_, .inr ⟨rfl, rfl⟩, s, m, VRel.undef_rel⟩
          simp only [ex, ek, Instr.mapUpdate, Sem.run_bind, run_under hu, Result.andThen_ok, run_getMap hb, hck, hnone, run_setMap hb]
        · cases hv
      · cases hv
    · cases hv
  · cases hv

/-- 'delete'. -/
def idelete (P : Program) (h : IHeap) (t : TypeId) (x k : Value) : Option IHeap :=
  match mapOf P t, x with
  | some (kt, _), .map (some i) => (match h.get i with
    | some (.map es ck) => if plainV k && keysPlain es && keyChecked P es.isEmpty kt k then
        (match ifind P kt k es with
        | some (some j) => some (h.set i (.map (es.eraseIdx j) ck))
        | some none => some (h.set i (.map es ck))
        | none => none) else none
    | _ => none)
  | _, _ => none
theorem mem_delete {P : Program} {o : Oper} {a : Act} {h h' : IHeap} {c : Call} {t t2 : TypeId} {x k : Operand} (ho : o.op = .call c) (hc : c.callee = .builtin .delete) (ha : c.args = #[x, k]) (hat : c.argTypes = #[t, t2])
    (hv : idelete P h t (a.eval x) (a.eval k) = some h') : MOp P o a h undef h' := by
  intro ρ ar w hm hfr hrel
  have gx := hrel x (by simp [ho, Op.operands, Call.operands, hc, ha])
  have gk := hrel k (by simp [ho, Op.operands, Call.operands, hc, ha])
  have hexec : ∀ (v' : Value) (w' : World), (Builtin.delete_ #[t, t2] o.type #[ar.eval x, ar.eval k]).run P w = .ok v' w' → (execOp ar.eval o).run P w = .ok (.value v') w' := by
    intro v' w' hr
    simp only [execOp, ho, resolve, hc, ha, hat, Sem.run_bind, Sem.run_pure, Result.andThen_ok, invoke, builtin, List.map_toArray, List.map_cons, List.map_nil, hr]
  unfold idelete at hv
  split at hv
  · rename_i kt et i hmo hx
    have hu := mapOf_inv hmo
    rw [hx] at gx
    obtain ⟨R, hR, ex⟩ := gx.map_inv
    split at hv
    · rename_i es ck hg
      split at hv
      · rename_i hcc
        simp only [Bool.and_eq_true] at hcc
        obtain ⟨⟨hpk, hpl⟩, hck0⟩ := hcc
        have ek := plain_eq hpk gk
        obtain ⟨es', hb, hs, hh, hbare⟩ := map_real (h := h) (i := i) (hm.obj i R _ hg hR) hpl
        have hemp : es'.isEmpty = es.isEmpty := by
          show decide (es'.size = 0) = _
          rw [← hs]
          cases es <;> rfl
        have hck := keyChecked_run (w := w) hck0
        rw [← hemp] at hck
        have g0 : (#[t, t2] : Array TypeId)[0]? = some t := rfl
        have g2 : (#[.map (some R.block), a.eval k] : Array Value)[0]? = some (.map (some R.block)) := rfl
        have g3 : (#[.map (some R.block), a.eval k] : Array Value)[1]? = some (a.eval k) := rfl
        split at hv
        · rename_i j hf
          cases hv
          obtain ⟨e', g1, g4⟩ := ifind_run hbare hf
          have hfs : ∀ (n : Nat) (e0 : MapEntry), (es.eraseIdx j)[n]? = some e0 → ∃ e1, (es'.eraseIdxIfInBounds j)[n]? = some e1 ∧ ERel ρ e0 e1 := by
            intro n e0 hn
            rw [List.getElem?_eraseIdx] at hn
            rw [← Array.getElem?_toList, Array.toList_eraseIdxIfInBounds, List.getElem?_eraseIdx]
            split at hn
            · rename_i hlt; rw [if_pos hlt, Array.getElem?_toList]; exact hh _ _ hn
            · rename_i hlt; rw [if_neg hlt, Array.getElem?_toList]; exact hh _ _ hn
          have hsz : (es.eraseIdx j).length = (es'.eraseIdxIfInBounds j).size := by
            have h1 : (es'.eraseIdxIfInBounds j).size = (es'.toList.eraseIdx j).length := by rw [← Array.toList_eraseIdxIfInBounds, Array.length_toList]
            have hl : es.length = es'.toList.length := hs.trans Array.length_toList.symm
            rw [h1, List.length_eraseIdx, List.length_eraseIdx, hl]
          obtain ⟨s, m⟩ := map_write (ck' := ck) hm hg hR hb (fs' := es'.eraseIdxIfInBounds j) hsz hfs
          refine ⟨_, _, ρ, _, hexec (.tuple #[]) _ ?_, .inl rfl, s, m, VRel.undef_rel⟩
          rw [ex, ek]
          simp only [Builtin.delete_, g0, g2, g3, Sem.run_bind, run_under hu, Result.andThen_ok, run_getMap hb, hck, g4, run_setMap hb]
          rfl
        · rename_i hf
          cases hv
          have hnone := ifind_run hbare hf
          simp only at hnone
          obtain ⟨s, m⟩ := map_write (ck' := ck) hm hg hR hb (fs' := es') hs hh
          refine ⟨_, _, ρ, _, hexec (.tuple #[]) _ ?_, .inl rfl, s, m, VRel.undef_rel⟩
          rw [ex, ek]
          simp only [Builtin.delete_, g0, g2, g3, Sem.run_bind, run_under hu, Result.andThen_ok, run_getMap hb, hck, hnone, run_setMap hb]
          rfl
        · cases hv
      · cases hv
    · cases hv
  · cases hv

/-- 'len' of a map. -/
theorem read_lenM {P : Program} {o : Oper} {a : Act} {h : IHeap} {x : Operand} {t : TypeId} {c : Call} {i : Nat} {es : List MapEntry} {ck : Nat} {kt et : TypeId} (ho : o.op = .call c) (hc : c.callee = .builtin .len) (ha : c.args = #[x]) (ht : c.argTypes[0]? = some t)
    (hx : a.eval x = .map (some i)) (hu : P.underlying t = some (.map kt et)) (hg : h.get i = some (.map es ck)) : ROp P o a h (.int .i64 es.length) [i] := by
  intro ρ ar w hm hrel
  have gx := hrel x (by simp [ho, Op.operands, Call.operands, ha])
  rw [hx] at gx
  obtain ⟨R, hR, ex⟩ := gx.map_inv
  obtain ⟨ob, hb, hor⟩ := hm i (by simp) R _ hg hR
  cases hor with
  | @map _ es' _ hs hh =>
    refine ⟨.int .i64 es'.size, ?_, by rw [hs]; exact .base rfl⟩
    simp [execOp, ho, Sem.run_bind, resolve, hc, ha, invoke, builtin, Builtin.len_, ht, ex, run_under hu, goInt, run_getMap hb]
theorem pure_lenMnil {P : Program} {o : Oper} {a : Act} {x : Operand} {t : TypeId} {c : Call} {kt et : TypeId} (ho : o.op = .call c) (hc : c.callee = .builtin .len) (ha : c.args = #[x]) (ht : c.argTypes[0]? = some t)
    (hx : a.eval x = .map none) (hu : P.underlying t = some (.map kt et)) : PureOp P o a (.int .i64 0) := by
  intro ρ ar w hrel
  have gx := hrel x (by simp [ho, Op.operands, Call.operands, ha])
  rw [hx] at gx
  have ex := scal_eq rfl gx
  refine ⟨.int .i64 0, ?_, .base rfl⟩
  simp [execOp, ho, Sem.run_bind, resolve, hc, ha, invoke, builtin, Builtin.len_, ht, ex, run_under hu, goInt]
end Go.Proofs.Ytfgaggpfdckggaa.Ideal
