/- Equality of structs and arrays whose parts are equal by sight. -/
import Derived.Test.YtfgaggpfdckggaaI34
noncomputable section
namespace Go.Proofs.Ytfgaggpfdckggaa.Ideal
open Go.RowKit
set_option linter.unusedVariables false
set_option linter.unusedSimpArgs false
set_option linter.unnecessarySimpa false
variable {P : Program}
/-- A field, its two values, and whether they are equal. -/
structure EqF (P : Program) (d : Nat) (xs ys : Array Value) (f : Field) (b : Bool) : Prop where
  name : f.name ≠ "_"
  val : ∃ x y, pureVal P (part f.type xs f.offset) = some x ∧ pureVal P (part f.type ys f.offset) = some y ∧ pureVal P (Op.equalIn d f.type x y) = some b
inductive EqFs (P : Program) (d : Nat) (xs ys : Array Value) : List Field → List Bool → Prop
  | nil : EqFs P d xs ys [] []
  | cons {f : Field} {b : Bool} {fs : List Field} {bs : List Bool} : EqF P d xs ys f b → EqFs P d xs ys fs bs → EqFs P d xs ys (f :: fs) (b :: bs)
theorem pv_eqStructL (d : Nat) (t : TypeId) (fs : List Field) (xs ys : Array Value) (bs : List Bool) (h : P.underlying t = some (.struct ⟨fs⟩)) (hp : P.stoodInHeld t = false) (hf : EqFs P d xs ys fs bs) :
    pureVal P (Op.equalIn (d + 1) t (.agg xs) (.agg ys)) = some (bs.all id) := by
  simp only [Op.equalIn]
  rw [pureVal_bind, pv_under h]
  simp only [Option.bind_some]
  rw [pureVal_bind, pv_program]
  simp only [Option.bind_some, hp, Bool.false_eq_true, if_false]
  rw [← Array.forIn_toList]
  clear h
  induction hf with
  | nil => simp [pv_pure, pureVal_bind]
  | @cons f b fs bs hh ht ih =>
    obtain ⟨hn, x, y, h1, h2, h3⟩ := hh
    simp only [List.forIn_cons, hn, ne_eq, not_false_eq_true, if_true, pureVal_bind, h1, h2, h3, Option.bind_some]
    cases b
    · simp [pureVal_bind, pv_pure]
    · simp [pureVal_bind, pv_pure] at ih ⊢
      exact ih
/-- The fields of a struct type: names that count, types, places. -/
def fldsOf (P : Program) (t : TypeId) : Option (List Field) := match P.underlying t with
  | some (.struct fs) => some fs.toList
  | _ => none
theorem fldsOf_inv {t : TypeId} {fs : List Field} (h : fldsOf P t = some fs) : P.underlying t = some (.struct ⟨fs⟩) := by
  unfold fldsOf at h
  split at h
  · rename_i fs' hu
    cases h
    exact hu
  · cases h
def fldSig (f : Field) : Bool × TypeId × Nat := (f.name != "_", f.type, f.offset)
/-- Structs of whole numbers, one behind the other. -/
theorem EqFs.ints {d : Nat} {xs ys : Array Value} : ∀ {fs : List Field} {i : Nat} {L : List (TypeId × IntKind × Int × Int)}, fs.map fldSig = (L.zipIdx i).map (fun p => (true, p.1.1, p.2)) →
    (∀ p ∈ L, P.underlying p.1 = some (.int p.2.1) ∧ pureVal P (isAgg p.1) = some false) → (∀ (j : Nat) p, L[j]? = some p → xs[i + j]? = some (.int p.2.1 p.2.2.1) ∧ ys[i + j]? = some (.int p.2.1 p.2.2.2)) →
    EqFs P (d + 1) xs ys fs (L.map fun p => p.2.2.1 == p.2.2.2)
  | [], i, [], _, _, _ => .nil
  | [], i, p :: L, h, _, _ => by simp at h
  | f :: fs, i, [], h, _, _ => by simp at h
  | f :: fs, i, p :: L, h, hu, hv => by
    simp only [List.map_cons, List.zipIdx_cons, List.cons.injEq, fldSig, Prod.mk.injEq, bne_iff_ne, ne_eq] at h
    obtain ⟨⟨h1, h2, h3⟩, h4⟩ := h
    obtain ⟨u1, u2⟩ := hu p (by simp)
    obtain ⟨v1, v2⟩ := hv 0 p rfl
    refine .cons ⟨h1, .int p.2.1 p.2.2.1, .int p.2.1 p.2.2.2, ?_, ?_, ?_⟩ (EqFs.ints (i := i + 1) h4 (fun q hq => hu q (by simp [hq])) (fun j q hq => ?_))
    · rw [h2, h3]; exact pv_isAgg u1 _ u2 rfl _ _ _ (by simpa using v1)
    · rw [h2, h3]; exact pv_isAgg u1 _ u2 rfl _ _ _ (by simpa using v2)
    · rw [h2]; exact pv_eqInt d p.1 p.2.1 p.2.1 _ _ u1
    · have := hv (j + 1) q (by simpa using hq)
      rw [show i + 1 + j = i + (j + 1) by omega]
      exact this
/-- Whether two structs of whole numbers are equal. -/
theorem pv_eqInts {t : TypeId} {fs : List Field} (hf : fldsOf P t = some fs) (hp : P.stoodInHeld t = false) (L : List (TypeId × IntKind × Int × Int)) (hs : fs.map fldSig = L.zipIdx.map (fun p => (true, p.1.1, p.2))) (hu : ∀ p ∈ L, P.underlying p.1 = some (.int p.2.1) ∧ pureVal P (isAgg p.1) = some false) :
    pureVal P (Op.equal t (.agg ⟨L.map fun p => .int p.2.1 p.2.2.1⟩) (.agg ⟨L.map fun p => .int p.2.1 p.2.2.2⟩)) = some (L.all fun p => p.2.2.1 == p.2.2.2) := by
  have := pv_eqStructL (P := P) 9999 t fs ⟨L.map fun p => .int p.2.1 p.2.2.1⟩ ⟨L.map fun p => .int p.2.1 p.2.2.2⟩ _ (fldsOf_inv hf) hp (EqFs.ints (d := 9998) (i := 0) hs hu (fun j p hj => by simp [hj]))
  show pureVal P (Op.equalIn 10000 t _ _) = _
  rw [this]
  congr 1
  rw [List.all_map]; rfl
theorem aggEq_ints {t : TypeId} {fs : List Field} (hf : fldsOf P t = some fs) (hp : P.stoodInHeld t = false) (hg : P.eqGuardType P.depth t = false) (L : List (TypeId × IntKind × Int × Int)) (hs : fs.map fldSig = L.zipIdx.map (fun p => (true, p.1.1, p.2))) (hu : ∀ p ∈ L, P.underlying p.1 = some (.int p.2.1) ∧ pureVal P (isAgg p.1) = some false) :
    aggEq P t .eql (.agg ⟨L.map fun p => .int p.2.1 p.2.2.1⟩) (.agg ⟨L.map fun p => .int p.2.1 p.2.2.2⟩) = some (.bool (L.all fun p => p.2.2.1 == p.2.2.2)) ∧ aggEq P t .neq (.agg ⟨L.map fun p => .int p.2.1 p.2.2.1⟩) (.agg ⟨L.map fun p => .int p.2.1 p.2.2.2⟩) = some (.bool (!(L.all fun p => p.2.2.1 == p.2.2.2))) := by
  have h := pv_eqInts hf hp L hs hu
  have p1 : ∀ g : TypeId × IntKind × Int × Int → Int, plainV (.agg ⟨L.map fun p => .int p.2.1 (g p)⟩) = true := fun g => by
    simp [plainV, scal]
  constructor
  · unfold aggEq
    rw [if_pos ⟨hg, p1 (fun p => p.2.2.1), p1 (fun p => p.2.2.2)⟩]
    simp only [h, Option.map_some]
  · unfold aggEq
    rw [if_pos ⟨hg, p1 (fun p => p.2.2.1), p1 (fun p => p.2.2.2)⟩]
    simp only [h, Option.map_some]
end Go.Proofs.Ytfgaggpfdckggaa.Ideal
