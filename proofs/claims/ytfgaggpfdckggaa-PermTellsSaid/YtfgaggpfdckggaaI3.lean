/- Building structs and arrays; slicing. -/
import Derived.Test.YtfgaggpfdckggaaI2
noncomputable section
namespace Go.Proofs.Ytfgaggpfdckggaa.Ideal
set_option linter.unusedVariables false
set_option linter.unusedSimpArgs false
set_option linter.unnecessarySimpa false

/-- Arrays of values, pointwise. -/
def ARel (ρ : Rho) (cs cs' : Array Value) : Prop := cs.size = cs'.size ∧ ∀ i, i < cs.size → VRel ρ (cs.getD i undef) (cs'.getD i undef)
theorem ARel.get {ρ : Rho} {cs cs' : Array Value} (h : ARel ρ cs cs') {i : Nat} {v : Value} (hv : cs[i]? = some v) : ∃ v', cs'[i]? = some v' ∧ VRel ρ v v' := get_rel h.1 h.2 hv
theorem ARel.of {ρ : Rho} {cs cs' : Array Value} (hs : cs.size = cs'.size) (h : ∀ (i : Nat) (v : Value), cs[i]? = some v → ∃ v', cs'[i]? = some v' ∧ VRel ρ v v') : ARel ρ cs cs' := ⟨hs, rel_of_get h⟩
theorem ARel.set {ρ : Rho} {cs cs' : Array Value} (h : ARel ρ cs cs') (k : Nat) {v v' : Value} (hv : VRel ρ v v') : ARel ρ (cs.setIfInBounds k v) (cs'.setIfInBounds k v') := by
  refine .of (by simp [h.1]) (fun i x hx => ?_)
  rw [Array.getElem?_setIfInBounds] at hx ⊢
  by_cases e : k = i
  · subst e
    rw [if_pos rfl] at hx ⊢
    by_cases hk : k < cs.size
    · rw [if_pos hk] at hx
      rw [if_pos (by rw [← h.1]; exact hk)]
      cases hx
      exact ⟨_, rfl, hv⟩
    · rw [if_neg hk] at hx
      cases hx
  · rw [if_neg e] at hx ⊢
    exact h.get hx
theorem ARel.cells {ρ : Rho} {v v' : Value} (h : VRel ρ v v') : ARel ρ v.cells v'.cells := by
  have one : ∀ {x x' : Value}, VRel ρ x x' → ARel ρ #[x] #[x'] := fun hx => .of rfl (fun i y hy => by
    match i, hy with
    | 0, hy => simp at hy; subst hy; exact ⟨_, rfl, hx⟩
    | i + 1, hy => simp at hy)
  cases h with
  | agg hs h => exact ⟨hs, h⟩
  | base h =>
    cases v <;> first | exact one (.base h) | (simp [scal] at h)
  | ptr h => exact one (.ptr h)
  | slc h hc => exact one (.slc h hc)
  | slc0 => exact one .slc0
  | slcE => exact one .slcE
  | mp h => exact one (.mp h)
  | tup a b => exact one (.tup a b)
  | fn a b c d => exact one (.fn a b c d)
  | yld h => exact one (.yld h)
  | ifc h => exact one (.ifc h)
theorem ARel.plain {ρ : Rho} {cs : Array Value} (h : cs.all scal = true) : ARel ρ cs cs := by
  rw [Array.all_eq_true_iff_forall_mem] at h
  exact ⟨rfl, fun i hi => .base (h _ (getD_mem hi))⟩

theorem foldl_rel {ρ : Rho} (off : Nat) : ∀ (l l' : List Value) (n : Nat) (A A' : Array Value), LRel ρ l l' → ARel ρ A A' →
    ARel ρ ((l.zipIdx n).foldl (fun cs (x : Value × Nat) => cs.setIfInBounds (off + x.2) x.1) A) ((l'.zipIdx n).foldl (fun cs (x : Value × Nat) => cs.setIfInBounds (off + x.2) x.1) A')
  | [], l', n, A, A', h, hA => by
    have : l' = [] := List.eq_nil_of_length_eq_zero h.1.symm
    subst this; exact hA
  | x :: l, l', n, A, A', h, hA => by
    cases l' with
    | nil => exact absurd h.1 (by simp)
    | cons x' l' =>
      obtain ⟨y, hy, hr⟩ := h.2 0 x rfl
      simp at hy
      subst hy
      simp only [List.zipIdx_cons, List.foldl_cons]
      exact foldl_rel off l l' (n + 1) _ _ ⟨by simpa using h.1, fun i v hv => by simpa using h.2 (i + 1) v (by simpa using hv)⟩ (hA.set _ hr)
theorem LRel.of_arr {ρ : Rho} {cs cs' : Array Value} (h : ARel ρ cs cs') : LRel ρ cs.toList cs'.toList :=
  ⟨by simp [h.1], fun i v hv => by
    rw [Array.getElem?_toList] at hv
    obtain ⟨v', h1, h2⟩ := h.get hv
    exact ⟨v', by rw [Array.getElem?_toList]; exact h1, h2⟩⟩
theorem ARel.of_list {ρ : Rho} {cs cs' : List Value} (h : LRel ρ cs cs') : ARel ρ cs.toArray cs'.toArray :=
  .of (by simp [h.1]) (fun i v hv => by simpa using h.2 i v (by simpa using hv))

/-- Parts, pointwise. -/
inductive PRel (ρ : Rho) : List (Nat × Value) → List (Nat × Value) → Prop
  | nil : PRel ρ [] []
  | cons {i : Nat} {v v' : Value} {l l' : List (Nat × Value)} (h : VRel ρ v v') (t : PRel ρ l l') : PRel ρ ((i, v) :: l) ((i, v') :: l')
theorem fill_rel {ρ : Rho} (place : Nat → Option (Nat × Nat)) : ∀ (l l' : List (Nat × Value)) (A A' out : Array Value), PRel ρ l l' → ARel ρ A A' → Instr.fill place A l = some out → ∃ out', Instr.fill place A' l' = some out' ∧ ARel ρ out out' := by
  intro l l' A A' out h
  induction h generalizing A A' with
  | nil =>
    intro hA hf
    simp only [Instr.fill, Option.some.injEq] at hf
    subst hf
    exact ⟨A', rfl, hA⟩
  | cons hv _ ih =>
    rename_i i v v' l l' _
    intro hA hf
    have hc := ARel.cells hv
    simp only [Instr.fill] at hf ⊢
    split at hf
    · cases hf
    · rename_i off size hp
      split at hf
      · cases hf
      · rename_i hne
        rw [if_neg (by rw [← hc.1, ← hA.1]; exact hne)]
        have hz := foldl_rel off v.cells.toList v'.cells.toList 0 A A' (.of_arr hc) hA
        refine ih _ _ ?_ hf
        rw [← Array.foldl_toList, ← Array.foldl_toList, Array.toList_zipIdx, Array.toList_zipIdx]
        exact hz
theorem parts_rel {ρ : Rho} {a ar : Act} (ps : Array (Nat × Operand)) (h : ∀ p ∈ ps, VRel ρ (a.eval p.2) (ar.eval p.2)) : PRel ρ (ps.map fun (i, x) => (i, a.eval x)).toList (ps.map fun (i, x) => (i, ar.eval x)).toList := by
  rw [Array.toList_map, Array.toList_map]
  have hl : ∀ p ∈ ps.toList, VRel ρ (a.eval p.2) (ar.eval p.2) := fun p hp => h p (by simpa using hp)
  generalize ps.toList = l at hl
  induction l with
  | nil => exact .nil
  | cons p l ih => exact .cons (hl p (by simp)) (ih (fun q hq => hl q (by simp [hq])))

/-- The cells of a type's zero value. -/
def zeroOf (P : Program) (t : TypeId) : Option (Array Value) :=
  match (P.info? t).bind (·.zero) with
  | some z => if z.cells.all scal then some z.cells else none
  | none => none
theorem zeroOf_inv {P : Program} {t : TypeId} {cs : Array Value} (h : zeroOf P t = some cs) : ∃ z, z.cells = cs ∧ cs.all scal = true ∧ ∀ w, (zeroValue t).run P w = .ok z w := by
  unfold zeroOf at h
  split at h
  · rename_i z hz
    split at h
    · rename_i hs
      obtain rfl := Option.some.inj h
      refine ⟨z, rfl, hs, fun w => ?_⟩
      obtain ⟨i, h1, h2⟩ := Option.bind_eq_some_iff.mp hz
      simp [zeroValue, typeInfo, program, Sem.run_bind, Sem.run, h1, h2]
    · cases h
  · cases h
/-- Where the fields of a struct, or the elements of an array, lie. -/
def placesOf (P : Program) (t : TypeId) : Option (Nat → Option (Nat × Nat)) :=
  match P.underlying t with
  | some (.struct fs) => (pureVal P (fs.mapM fun f => (do pure (f.offset, ← sizeOf f.type) : Sem (Nat × Nat)))).map fun ps => (ps[·]?)
  | some (.array _ e) => (tsize P e).map fun s => fun i => some (i * s, s)
  | _ => none
def buildOf (P : Program) (t : TypeId) (parts : List (Nat × Value)) : Option Value :=
  match zeroOf P t, placesOf P t with
  | some z, some pl => (Instr.fill pl z parts).map .agg
  | _, _ => none
theorem build_run {P : Program} {t : TypeId} {ps ps' : Array (Nat × Value)} {v : Value} {ρ : Rho} (h : PRel ρ ps.toList ps'.toList) (hb : buildOf P t ps.toList = some v) (w : World) :
    ∃ v', (Instr.build t ps').run P w = .ok v' w ∧ VRel ρ v v' := by
  unfold buildOf at hb
  split at hb
  · rename_i z pl hz hpl
    obtain ⟨out, hf, rfl⟩ := Option.map_eq_some_iff.mp hb
    obtain ⟨z0, rfl, hsc, hzr⟩ := zeroOf_inv hz
    obtain ⟨out', hf', hr⟩ := fill_rel pl _ _ _ _ _ h (.plain hsc) hf
    refine ⟨.agg out', ?_, .agg hr.1 hr.2⟩
    unfold placesOf at hpl
    split at hpl
    · rename_i fs hu
      obtain ⟨pls, hp, rfl⟩ := Option.map_eq_some_iff.mp hpl
      have := run_pureVal hp w
      simp only [Instr.build, Sem.run_bind, hzr, Result.andThen_ok, run_under hu, this, hf']
      rfl
    · rename_i n e hu
      obtain ⟨s, hs, rfl⟩ := Option.map_eq_some_iff.mp hpl
      simp only [Instr.build, Sem.run_bind, hzr, Result.andThen_ok, run_under hu, run_size hs, hf']
      rfl
    · cases hpl
  · cases hb
theorem pure_build {P : Program} {o : Oper} {a : Act} {t : TypeId} {ps : Array (Nat × Operand)} {v : Value} (ho : o.op = .build t ps) (hb : buildOf P t (ps.map fun (i, x) => (i, a.eval x)).toList = some v) : PureOp P o a v := by
  intro ρ ar w hrel
  obtain ⟨v', h1, h2⟩ := build_run (parts_rel ps (fun p hp => hrel p.2 (by simp [ho, Op.operands]; exact ⟨p.1, hp⟩))) hb w
  refine ⟨v', ?_, h2⟩
  simp only [execOp, ho, Sem.run_bind, h1, Result.andThen_ok]
  rfl

/-- A bound of a slice. -/
def bnd (v : Value) (y : Nat) : Option Nat := match v with | .int _ i => if 0 ≤ i ∧ i ≤ y then some i.toNat else none | _ => none
def bounds (n cap : Nat) (lo hi mx : Option Value) : Option (Nat × Nat × Nat) :=
  match (match mx with | some v => bnd v cap | none => some cap) with
  | some m => (match (match hi with | some v => bnd v m | none => (match mx with | some _ => none | none => some n)) with
    | some h => if h ≤ m then (match (match lo with | some v => bnd v h | none => some 0) with
      | some l => some (l, h, m)
      | none => none) else none
    | none => none)
  | none => none
theorem bnd_inv {v : Value} {y k : Nat} (h : bnd v y = some k) : ∃ q i, v = .int q i ∧ 0 ≤ i ∧ i ≤ y ∧ k = i.toNat := by
  unfold bnd at h
  split at h
  · rename_i q i
    split at h
    · rename_i hc
      exact ⟨q, i, rfl, hc.1, hc.2, (Option.some.inj h).symm⟩
    · cases h
  · cases h
theorem bnd_run {P : Program} {v : Value} {y y' k : Nat} (h : bnd v y = some k) (hy : y ≤ y') (code : BoundsCode) (w : World) : (Instr.sliceBound v y' code).run P w = .ok k w := by
  obtain ⟨q, i, rfl, h0, h1, rfl⟩ := bnd_inv h
  have : i ≤ y' := by omega
  simp [Instr.sliceBound, Sem.run_bind, asIntOf, h0, this]
theorem bnd_le {v : Value} {y k : Nat} (h : bnd v y = some k) : k ≤ y := by
  obtain ⟨q, i, rfl, h0, h1, rfl⟩ := bnd_inv h
  omega
theorem bounds_run {P : Program} {n cap cap' l h m : Nat} {lo hi mx : Option Value} (hb : bounds n cap lo hi mx = some (l, h, m)) (hc : cap ≤ cap') (isS : Bool) (w : World) :
    ∃ m', (Instr.sliceBounds isS n cap' lo hi mx).run P w = .ok (l, h, m') w ∧ l ≤ h ∧ h ≤ m ∧ m ≤ m' ∧ (m' = m ∨ (m = cap ∧ m' = cap')) ∧ (mx.isSome = true → m' = m) := by
  unfold bounds at hb
  split at hb
  · rename_i m0 hm
    split at hb
    · rename_i h0 hh
      split at hb
      · rename_i hle
        split at hb
        · rename_i l0 hl
          cases hb
          have hl0 : l ≤ h := by
            split at hl
            · exact bnd_le hl
            · cases hl; omega
          cases mx with
          | none =>
            simp only [Option.some.injEq] at hm
            subst hm
            refine ⟨cap', ?_, hl0, hle, hc, .inr ⟨rfl, rfl⟩, fun h => by cases h⟩
            cases hi with
            | none =>
              simp only [Option.some.injEq] at hh
              subst hh
              cases lo with
              | none => simp only [Option.some.injEq] at hl; subst hl; simp [Instr.sliceBounds, Sem.run_bind]
              | some vl => simp [Instr.sliceBounds, Sem.run_bind, bnd_run hl (Nat.le_refl _)]
            | some vh =>
              cases lo with
              | none => simp only [Option.some.injEq] at hl; subst hl; simp [Instr.sliceBounds, Sem.run_bind, bnd_run hh hc]
              | some vl => simp [Instr.sliceBounds, Sem.run_bind, bnd_run hh hc, bnd_run hl (Nat.le_refl _)]
          | some vm =>
            refine ⟨m, ?_, hl0, hle, Nat.le_refl _, .inl rfl, fun _ => rfl⟩
            cases hi with
            | none => cases hh
            | some vh =>
              cases lo with
              | none => simp only [Option.some.injEq] at hl; subst hl; simp [Instr.sliceBounds, Sem.run_bind, bnd_run hm hc, bnd_run hh (Nat.le_refl _)]
              | some vl => simp [Instr.sliceBounds, Sem.run_bind, bnd_run hm hc, bnd_run hh (Nat.le_refl _), bnd_run hl (Nat.le_refl _)]
        · cases hb
      · cases hb
    · cases hb
  · cases hb
end Go.Proofs.Ytfgaggpfdckggaa.Ideal
