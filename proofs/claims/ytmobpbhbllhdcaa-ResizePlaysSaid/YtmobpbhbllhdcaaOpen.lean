/- Arguments opened by their type: a struct or an array of whole numbers, bools, strings and rows of bytes is a row of cells, each of its kind; a slice of such is rows of cells in memory. -/
import Derived.Test.YtmobpbhbllhdcaaBase
import Derived.OpenShut
import Derived.ProofKit
import Derived.Deep.Slices
import Derived.DeepKeys
namespace Go.Proofs.Ytmobpbhbllhdcaa
set_option linter.unusedVariables false
set_option linter.unusedSimpArgs false
open Go.ChangeShapes Go.WideShapes Go.ChangeAt Go.RowKit

/-- What a cell may hold. -/
inductive Leaf where
  | int (k : IntKind)
  | bool
  | str
  | bytes
/-- A value of a leaf. -/
def Leaf.ok (w : World) : Leaf → Value → Prop
  | .int k, v => ∃ n : Int, v = .int k n ∧ (Lit.int k n).wf = true
  | .bool, v => ∃ b : Bool, v = .bool b
  | .str, v => ∃ s : ByteArray, v = .string s ∧ s.size ≤ maxLen
  | .bytes, v => ∃ (A : Option Addr) (c : Nat) (xs : List UInt8), v = .slice A xs.length c ∧ Cells w A (encB xs) ∧ (A = none → xs.length = 0 ∧ c = 0) ∧ xs.length ≤ 9223372036854775807 ∧ xs.length ≤ c ∧ ∀ x, A = some x → c ≠ 0 → ∃ v, w.cell? x = some v

def fieldLeaves (g : TypeId → Option (List Leaf)) (P : Program) : List Field → Nat → Option (List Leaf)
  | [], _ => some []
  | f :: fs, off => if f.offset = off then (g f.type).bind fun l => if P.cellsOf f.type = l.length then (fieldLeaves g P fs (off + l.length)).map (l ++ ·) else none else none
/-- The leaves of a type. -/
def leaves (P : Program) : Nat → TypeId → Option (List Leaf)
  | 0, _ => none
  | k + 1, t =>
    match P.underlying t with
    | some .bool => some [.bool]
    | some (.int q) => some [.int q]
    | some .string => some [.str]
    | some (.slice e) => match P.underlying e with
      | some (.int .u8) => if P.cellsOf e = 1 then some [.bytes] else none
      | _ => none
    | some (.struct fs) => if P.cellsOf t = ((fieldLeaves (leaves P k) P fs.toList 0).getD []).length then fieldLeaves (leaves P k) P fs.toList 0 else none
    | some (.array n e) => (leaves P k e).bind fun l => if P.cellsOf e = l.length ∧ P.cellsOf t = n * l.length then some (List.replicate n l).flatten else none
    | _ => none

/-- Cells that are what leaves say. -/
def Leaves (w : World) (ls : List Leaf) (cs : List Value) : Prop := cs.length = ls.length ∧ ∀ (i : Nat) (l : Leaf), ls[i]? = some l → ∃ v, cs[i]? = some v ∧ l.ok w v

theorem Leaves.nil (w : World) : Leaves w [] [] := ⟨rfl, fun i l h => by simp at h⟩
theorem Leaves.append {w : World} {l1 l2 : List Leaf} {c1 c2 : List Value} (h1 : Leaves w l1 c1) (h2 : Leaves w l2 c2) : Leaves w (l1 ++ l2) (c1 ++ c2) := by
  refine ⟨by rw [List.length_append, List.length_append, h1.1, h2.1], fun i l h => ?_⟩
  by_cases hi : i < l1.length
  · rw [List.getElem?_append_left hi] at h
    obtain ⟨v, hv, ho⟩ := h1.2 i l h
    exact ⟨v, by rw [List.getElem?_append_left (by rw [h1.1]; exact hi)]; exact hv, ho⟩
  · rw [List.getElem?_append_right (by omega)] at h
    obtain ⟨v, hv, ho⟩ := h2.2 _ l h
    exact ⟨v, by rw [List.getElem?_append_right (by rw [h1.1]; omega), h1.1]; exact hv, ho⟩
theorem Leaves.one {w : World} {l : Leaf} {v : Value} (h : l.ok w v) : Leaves w [l] [v] := ⟨rfl, fun i m hm => by
  cases i with
  | zero => simp at hm; subst hm; exact ⟨v, rfl, h⟩
  | succ i => simp at hm⟩

section
variable {H : Type} {enc : TypeId × Value → H} {P : Program} {w : World} {base : Nat} {held : Bool}

theorem cells_at {a : Addr} {n : Nat} {cs : List Value} (h : w.cells? base a n = some cs) : cs.length = n ∧ ∀ (i : Nat) (v : Value), cs[i]? = some v → w.cell? (a.add i) = some v := by
  unfold World.cells? at h
  split at h
  · have key : ∀ (l : List Nat) (ys : List Value), l.mapM (fun i => w.cell? (a.add i)) = some ys → ys.length = l.length ∧ ∀ (i : Nat) (v : Value) (j : Nat), ys[i]? = some v → l[i]? = some j → w.cell? (a.add j) = some v := by
      intro l
      induction l with
      | nil => intro ys hy; simp at hy; subst hy; exact ⟨rfl, fun i v j hv => by simp at hv⟩
      | cons x l ih =>
        intro ys hy
        rw [List.mapM_cons] at hy
        cases hx : w.cell? (a.add x) with
        | none => rw [hx] at hy; simp at hy
        | some y =>
          rw [hx] at hy
          cases hl : l.mapM (fun i => w.cell? (a.add i)) with
          | none => rw [hl] at hy; simp at hy
          | some zs =>
            rw [hl] at hy
            simp at hy
            subst hy
            obtain ⟨h1, h2⟩ := ih zs hl
            refine ⟨by simp [h1], fun i v j hv hj => ?_⟩
            cases i with
            | zero => simp at hv hj; subst hv; subst hj; exact hx
            | succ i => exact h2 i v j (by simpa using hv) (by simpa using hj)
    obtain ⟨h1, h2⟩ := key _ _ h
    rw [List.length_range] at h1
    refine ⟨h1, fun i v hv => h2 i v i hv ?_⟩
    have hlt : i < cs.length := by
      refine Nat.lt_of_not_le (fun c => ?_)
      rw [List.getElem?_eq_none c] at hv
      exact absurd hv (by simp)
    rw [List.getElem?_range (by omega)]
  · simp at h

theorem spot_none {a : Addr} {v : Value} (h : w.cell? (a.add 0) = some v) : ∃ b o, a = ⟨b, o, none⟩ := by
  obtain ⟨b, o, sp⟩ := a
  cases sp with
  | none => exact ⟨b, o, rfl⟩
  | some s =>
    exfalso
    have e : (⟨b, o, some s⟩ : Addr).add 0 = ⟨b, o, some s⟩ := rfl
    rw [e] at h
    unfold World.cell? at h
    split at h <;> simp at h

theorem fields_ok (g : TypeId → Option (List Leaf)) : ∀ (fs : List Field) (off : Nat) (ls : List Leaf) (cs : List Value), fieldLeaves g P fs off = some ls → cs.length = off + ls.length →
    (∀ (i : Nat) (f : Field), fs[i]? = some f → ∀ l, g f.type = some l → Leaves w l ((cs.drop f.offset).take (P.cellsOf f.type))) → Leaves w ls (cs.drop off)
  | [], off, ls, cs, h, hl, _ => by
    simp [fieldLeaves] at h
    subst h
    rw [List.drop_eq_nil_of_le (by simp at hl; omega)]
    exact Leaves.nil w
  | f :: fs, off, ls, cs, h, hl, hf => by
    unfold fieldLeaves at h
    split at h
    · rename_i ho
      obtain ⟨l, hg, h2⟩ := Option.bind_eq_some_iff.mp h
      split at h2
      · rename_i hc
        obtain ⟨ls', h3, rfl⟩ := Option.map_eq_some_iff.mp h2
        have h0 := hf 0 f rfl l hg
        rw [ho, hc] at h0
        rw [List.length_append] at hl
        have hr := fields_ok g fs (off + l.length) ls' cs h3 (by omega) (fun i f' hi => hf (i + 1) f' (by simpa using hi))
        have e : cs.drop off = (cs.drop off).take l.length ++ cs.drop (off + l.length) := by
          rw [← List.drop_drop]; exact (List.take_append_drop _ _).symm
        rw [e]
        exact h0.append hr
      · simp at h2
    · simp at h
theorem reps_ok (l : List Leaf) : ∀ (n : Nat) (cs : List Value), cs.length = n * l.length → (∀ i, i < n → Leaves w l ((cs.drop (i * l.length)).take l.length)) → Leaves w (List.replicate n l).flatten cs
  | 0, cs, hl, _ => by
    rw [Nat.zero_mul] at hl
    rw [List.eq_nil_of_length_eq_zero hl]
    exact Leaves.nil w
  | n + 1, cs, hl, hf => by
    have h0 := hf 0 (by omega)
    rw [Nat.zero_mul, List.drop_zero] at h0
    rw [Nat.succ_mul] at hl
    have hr := reps_ok l n (cs.drop l.length) (by rw [List.length_drop]; omega) (fun i hi => by
      have := hf (i + 1) (by omega)
      rw [Nat.succ_mul, Nat.add_comm, ← List.drop_drop] at this
      exact this)
    rw [List.replicate_succ, List.flatten_cons]
    have e : cs = cs.take l.length ++ cs.drop l.length := (List.take_append_drop _ _).symm
    rw [e]
    exact h0.append hr
theorem wf_nat {k : IntKind} {n : Int} (h : (Lit.int k n).wf = true) : k.min ≤ n ∧ n ≤ k.max := by simpa [Lit.wf] using h

theorem leaves_of_trod : ∀ (k n : Nat) (t : TypeId) (ls : List Leaf) (cs : List Value) (x : DataW H × List MemPlace), leaves P k t = some ls → DataW.trod enc P w base (fun _ => true) held n t cs = some x → Leaves w ls cs := by
  intro k
  induction k with
  | zero => intro n t ls cs x hl; simp [leaves] at hl
  | succ k ih =>
    intro n t ls cs x hl hx
    unfold leaves at hl
    split at hl
    · rename_i hu
      obtain rfl := Option.some.inj hl
      obtain ⟨b, rfl, _⟩ := DataW.trod_bool hu hx
      exact Leaves.one ⟨b, rfl⟩
    · rename_i q hu
      obtain rfl := Option.some.inj hl
      obtain ⟨m, rfl, _, hw⟩ := DataW.trod_int hu hx
      exact Leaves.one ⟨m, rfl, hw⟩
    · rename_i hu
      obtain rfl := Option.some.inj hl
      obtain ⟨s, rfl, _, hs⟩ := DataW.trod_string hu hx
      exact Leaves.one ⟨s, rfl, hs⟩
    · rename_i e hu
      split at hl
      · rename_i he
        split at hl
        · rename_i hc
          obtain rfl := Option.some.inj hl
          rcases open_ints hu he hc hx with ⟨rfl, _⟩ | ⟨a, l, c, zs, rfl, _, hl', hm, hz, _, hcell, hwz⟩
          · exact Leaves.one ⟨none, 0, [], rfl, Cells.nil _ _, fun _ => ⟨rfl, rfl⟩, by simp, by simp, fun x h => by cases h⟩
          · obtain ⟨ys, a1, a2, a3⟩ := row_some a l zs w (by rw [hz]; split <;> omega) (by rw [hz]; split <;> omega) hcell hwz
            subst a1
            refine Leaves.one ⟨some a, c, ys, rfl, a2, fun h => absurd h (by simp), a3, hl', fun x hx h0 => ?_⟩
            obtain rfl := Option.some.inj hx
            rw [if_pos rfl] at hz
            have := hcell 0 (by omega)
            have e : a.add 0 = a := rfl
            rw [e] at this
            exact ⟨_, this⟩
        · simp at hl
      · simp at hl
    · rename_i fs hu
      obtain ⟨xs, m, _, _, hlen, hxl, hf⟩ := DataW.trod_struct hu hx
      split at hl
      · rename_i hcl
        refine fields_ok (P := P) (w := w) (leaves P k) fs.toList 0 ls cs hl (by rw [hlen, hcl, hl]; simp) (fun i f hi l hg => ?_)
        have hi' : fs[i]? = some f := by simpa using hi
        have hlt : i < fs.size := (Array.getElem?_eq_some_iff.1 hi').1
        have h1 := hf i f hi'
        rw [List.getElem?_eq_getElem (by omega)] at h1
        exact ih m f.type l _ _ hg h1
      · simp at hl
    · rename_i na e hu
      obtain ⟨xs, m, _, _, hlen, hxl, hf⟩ := DataW.trod_array hu hx
      obtain ⟨l, hl1, hl2⟩ := Option.bind_eq_some_iff.mp hl
      split at hl2
      · rename_i hcl
        obtain rfl := Option.some.inj hl2
        refine reps_ok (w := w) l na cs (by rw [hlen, hcl.2]) (fun i hi => ?_)
        have h1 := hf i hi
        rw [hcl.1, List.getElem?_eq_getElem (by omega)] at h1
        exact ih m e l _ _ hl1 h1
      · simp at hl2
    · simp at hl

theorem flatten_get {α : Type} (sz : Nat) : ∀ (rows : List (List α)), (∀ r ∈ rows, r.length = sz) → ∀ (i : Nat) (v : α), rows.flatten[i]? = some v → ∃ (q j : Nat) (r : List α), i = q * sz + j ∧ j < sz ∧ rows[q]? = some r ∧ r[j]? = some v
  | [], _, i, v, h => by simp at h
  | r :: rows, hs, i, v, h => by
    have hr := hs r (List.mem_cons_self ..)
    rw [List.flatten_cons] at h
    by_cases hi : i < sz
    · rw [List.getElem?_append_left (by omega)] at h
      exact ⟨0, i, r, by omega, hi, rfl, h⟩
    · rw [List.getElem?_append_right (by omega), hr] at h
      obtain ⟨q, j, r', e, hj, h1, h2⟩ := flatten_get sz rows (fun r' hm => hs r' (List.mem_cons_of_mem _ hm)) (i - sz) v h
      refine ⟨q + 1, j, r', ?_, hj, by simpa using h1, h2⟩
      rw [Nat.succ_mul]; omega

theorem choose_rows {β : Type} (Pr : Nat → β → Prop) : ∀ (n : Nat), (∀ i, i < n → ∃ r, Pr i r) → ∃ rows : List β, rows.length = n ∧ ∀ (i : Nat) (r : β), rows[i]? = some r → Pr i r
  | 0, _ => ⟨[], rfl, fun i r h => by simp at h⟩
  | n + 1, h => by
    obtain ⟨rows, h1, h2⟩ := choose_rows Pr n (fun i hi => h i (by omega))
    obtain ⟨r, hr⟩ := h n (by omega)
    refine ⟨rows ++ [r], by simp [h1], fun i r' hi => ?_⟩
    by_cases hlt : i < rows.length
    · rw [List.getElem?_append_left hlt] at hi
      exact h2 i r' hi
    · rw [List.getElem?_append_right (by omega)] at hi
      have e : i = n := by
        refine Nat.le_antisymm ?_ (by omega)
        refine Nat.le_of_not_lt (fun c => ?_)
        rw [List.getElem?_eq_none (by simp; omega)] at hi
        exact absurd hi (by simp)
      subst e
      simp [h1] at hi
      subst hi; exact hr

theorem rows_of_trod {k n : Nat} {t e : TypeId} {ls : List Leaf} {cs : List Value} {x : DataW H × List MemPlace} (ht : P.underlying t = some (.slice e)) (hl : leaves P k e = some ls) (hc : P.cellsOf e = ls.length) (hpos : 0 < ls.length)
    (h : DataW.trod enc P w base (fun _ => true) held n t cs = some x) :
    ∃ (A : Option Addr) (len cap : Nat) (rows : List (List Value)), cs = [.slice A len cap] ∧ rows.length = len ∧ len ≤ cap ∧ (A = none → len = 0 ∧ cap = 0) ∧ cap ≤ maxLen ∧ (∀ r ∈ rows, Leaves w ls r) ∧ Cells w A rows.flatten := by
  rcases Go.Deep.open_slice ht h with ⟨rfl, _⟩ | ⟨a, len, cap, m, n', D, Pl, rfl, hb, hlc, hcm, hm, _, hall⟩
  · exact ⟨none, 0, 0, [], rfl, rfl, Nat.le_refl _, fun _ => ⟨rfl, rfl⟩, by decide, fun r hr => absurd hr (by simp), Cells.nil _ _⟩
  · have hlm : len ≤ m := by rw [hm]; split <;> omega
    obtain ⟨rows, hr1, hr2⟩ := choose_rows (fun i r => w.cells? base (a.add (i * P.cellsOf e)) (P.cellsOf e) = some r ∧ Leaves w ls r) len (fun i hi => by
      obtain ⟨cs', h1, h2⟩ := hall i (by omega)
      exact ⟨cs', h1, leaves_of_trod k n' e ls cs' _ hl h2⟩)
    have hmem : ∀ r ∈ rows, r.length = ls.length ∧ Leaves w ls r := fun r hr => by
      obtain ⟨i, hi⟩ := List.getElem?_of_mem hr
      exact ⟨(hr2 i r hi).2.1, (hr2 i r hi).2⟩
    refine ⟨some a, len, cap, rows, rfl, hr1, hlc, fun h => absurd h (by simp), hcm, fun r hr => (hmem r hr).2, fun hp => ?_⟩
    have hne : ∃ r, rows[0]? = some r := by
      cases rows with
      | nil => simp at hp
      | cons r rows => exact ⟨r, rfl⟩
    obtain ⟨r0, hr0⟩ := hne
    obtain ⟨h1, h2⟩ := hr2 0 r0 hr0
    obtain ⟨h3, h4⟩ := cells_at h1
    have hv : ∃ v, r0[0]? = some v := by
      rw [List.getElem?_eq_getElem (by rw [h3, hc]; exact hpos)]; exact ⟨_, rfl⟩
    obtain ⟨v, hv⟩ := hv
    have h5 := h4 0 v hv
    have hz : a.add (0 * P.cellsOf e) = a := by rw [Nat.zero_mul]; rfl
    rw [hz] at h5
    obtain ⟨b, o, rfl⟩ := spot_none h5
    refine ⟨b, o, rfl, fun i u hi => ?_⟩
    obtain ⟨q, j, r, e1, hj, hq, hrj⟩ := flatten_get ls.length rows (fun r hr => (hmem r hr).1) i u hi
    obtain ⟨g1, g2⟩ := hr2 q r hq
    have := (cells_at g1).2 j u hrj
    rw [addr_add, addr_add] at this
    rw [e1, ← Nat.add_assoc, ← hc]
    exact this
end

/-- A struct (or an array) that is handed over, opened. -/
theorem open_flat {H : Type} {enc : TypeId × Value → H} {P : Program} {w : World} {base : Nat} {held : Bool} {t : TypeId} {v : Value} {d : DataW H} {p : List MemPlace} {ls : List Leaf} (k : Nat)
    (ha : ∃ cs, v = .agg cs ∧ cs.size = P.cellsOf t) (hl : leaves P k t = some ls) (h : DataW.Trod enc P w base (fun _ => true) held t v d p) : ∃ cs : List Value, v = .agg cs.toArray ∧ Leaves w ls cs := by
  obtain ⟨cs, rfl, _⟩ := ha
  obtain ⟨fuel, hf⟩ := h
  exact ⟨cs.toList, by simp, leaves_of_trod k fuel t ls cs.toList _ hl hf⟩
theorem okWide_array {P : Program} {w : World} {r : Reach} {base : Nat} {t : TypeId} {v : Value} {n : Nat} {e : TypeId} (ht : P.underlying t = some (.array n e)) (h : Value.okWide P w r base t v) : ∃ cs, v = .agg cs ∧ cs.size = P.cellsOf t := by
  simp only [Value.okWide, ht] at h
  obtain ⟨cs, h1, h2, _⟩ := h
  exact ⟨cs, h1, h2⟩
theorem okWide_struct {P : Program} {w : World} {r : Reach} {base : Nat} {t : TypeId} {v : Value} {fs : Array Field} (ht : P.underlying t = some (.struct fs)) (h : Value.okWide P w r base t v) : ∃ cs, v = .agg cs ∧ cs.size = P.cellsOf t := by
  simp only [Value.okWide, ht] at h
  obtain ⟨cs, h1, h2, _⟩ := h
  exact ⟨cs, h1, h2⟩
theorem Leaves.cons_inv {w : World} {l : Leaf} {ls : List Leaf} {cs : List Value} (h : Leaves w (l :: ls) cs) : ∃ v vs, cs = v :: vs ∧ l.ok w v ∧ Leaves w ls vs := by
  cases cs with
  | nil => exact absurd h.1 (by simp)
  | cons v vs =>
    obtain ⟨v', hv, hk⟩ := h.2 0 l rfl
    cases hv
    exact ⟨v, vs, rfl, hk, by simpa using h.1, fun i l' hl => by simpa using h.2 (i + 1) l' (by simpa using hl)⟩
theorem byte_of {k : Int} (h : (Lit.int .u8 k).wf = true) : ∃ u : UInt8, k = (u.toNat : Int) := by
  simp [Lit.wf, IntKind.min, IntKind.max, IntKind.signed, IntKind.bits] at h
  refine ⟨UInt8.ofNat k.toNat, ?_⟩
  simp
  omega
theorem Leaves.bytes_inv {w : World} : ∀ (n : Nat) (cs : List Value), Leaves w (List.replicate n (.int .u8)) cs → ∃ us : List UInt8, us.length = n ∧ cs = encB us
  | 0, cs, h => ⟨[], rfl, List.eq_nil_of_length_eq_zero h.1⟩
  | n + 1, cs, h => by
    obtain ⟨v, vs, rfl, ⟨k, rfl, hk⟩, h2⟩ := h.cons_inv
    obtain ⟨u, rfl⟩ := byte_of hk
    obtain ⟨us, hl, rfl⟩ := Leaves.bytes_inv n vs h2
    exact ⟨u :: us, by simp [hl], rfl⟩
theorem open_rows {H : Type} {enc : TypeId × Value → H} {P : Program} {w : World} {base : Nat} {held : Bool} {t e : TypeId} {A : Option Addr} {len cap : Nat} {d : DataW H} {p : List MemPlace} {ls : List Leaf} (k : Nat)
    (ht : P.underlying t = some (.slice e)) (hl : leaves P k e = some ls) (hc : P.cellsOf e = ls.length) (hpos : 0 < ls.length) (h : DataW.Trod enc P w base (fun _ => true) held t (.slice A len cap) d p) :
    ∃ rows : List (List Value), rows.length = len ∧ len ≤ cap ∧ (A = none → len = 0 ∧ cap = 0) ∧ cap ≤ maxLen ∧ (∀ r ∈ rows, Leaves w ls r) ∧ Cells w A rows.flatten := by
  obtain ⟨fuel, hf⟩ := h
  obtain ⟨A', len', cap', rows, h1, h2⟩ := rows_of_trod ht hl hc hpos hf
  simp [Value.cells] at h1
  obtain ⟨rfl, rfl, rfl⟩ := h1
  exact ⟨rows, h2⟩
/-- A leaf's literal. -/
def litOf : Value → Lit
  | .int k n => .int k n
  | .bool b => .bool b
  | .string s => .string s.data.toList
  | _ => .bool false

theorem Leaves.split {w : World} {l1 l2 : List Leaf} {cs : List Value} (h : Leaves w (l1 ++ l2) cs) : Leaves w l1 (cs.take l1.length) ∧ Leaves w l2 (cs.drop l1.length) := by
  obtain ⟨hl, hv⟩ := h
  rw [List.length_append] at hl
  refine ⟨⟨by rw [List.length_take]; omega, fun i l hi => ?_⟩, ⟨by rw [List.length_drop]; omega, fun i l hi => ?_⟩⟩
  · have hlt : i < l1.length := by
      refine Nat.lt_of_not_le (fun c => ?_)
      rw [List.getElem?_eq_none c] at hi
      exact absurd hi (by simp)
    obtain ⟨v, h1, h2⟩ := hv i l (by rw [List.getElem?_append_left hlt]; exact hi)
    exact ⟨v, by rw [List.getElem?_take, if_pos hlt]; exact h1, h2⟩
  · obtain ⟨v, h1, h2⟩ := hv (l1.length + i) l (by rw [List.getElem?_append_right (by omega), Nat.add_sub_cancel_left]; exact hi)
    exact ⟨v, by rw [List.getElem?_drop]; exact h1, h2⟩
theorem Leaves.single {w : World} {l : Leaf} {cs : List Value} (h : Leaves w [l] cs) : ∃ v, cs = [v] ∧ l.ok w v := by
  obtain ⟨v, h1, h2⟩ := h.2 0 l rfl
  have hl := h.1
  match cs, hl with
  | [x], _ =>
    simp at h1
    subst h1
    exact ⟨x, rfl, h2⟩

section
variable {P : Program} {w : World}
theorem fields_lits (k : Nat) (ih : ∀ (t : TypeId) (ls : List Leaf) (cs : List Value), leaves P k t = some ls → P.keyTypeAt k t = true → Leaves w ls cs → P.keyLits k t cs = some (cs.map litOf)) :
    ∀ (fs : List Field) (off : Nat) (ls : List Leaf) (cs : List Value), fieldLeaves (leaves P k) P fs off = some ls → (∀ f ∈ fs, P.keyTypeAt k f.type = true) → Leaves w ls (cs.drop off) →
    ∃ yss, fs.mapM (fun f => P.keyLits k f.type ((cs.drop f.offset).take (P.cellsOf f.type))) = some yss ∧ yss.flatten = (cs.drop off).map litOf
  | [], off, ls, cs, h, _, hl => by
    simp [fieldLeaves] at h
    subst h
    refine ⟨[], by simp, ?_⟩
    rw [List.eq_nil_of_length_eq_zero hl.1]; rfl
  | f :: fs, off, ls, cs, h, hk, hl => by
    unfold fieldLeaves at h
    split at h
    · rename_i ho
      obtain ⟨l, hg, h2⟩ := Option.bind_eq_some_iff.mp h
      split at h2
      · rename_i hc
        obtain ⟨ls', h3, rfl⟩ := Option.map_eq_some_iff.mp h2
        obtain ⟨s1, s2⟩ := hl.split
        rw [List.drop_drop] at s2
        obtain ⟨yss, hy, hf⟩ := fields_lits k ih fs (off + l.length) ls' cs h3 (fun f' hf' => hk f' (List.mem_cons_of_mem _ hf')) s2
        have h1 := ih f.type l _ hg (hk f (List.mem_cons_self ..)) s1
        refine ⟨((cs.drop off).take l.length).map litOf :: yss, ?_, ?_⟩
        · rw [List.mapM_cons, ho, hc, h1, hy]; rfl
        · rw [List.flatten_cons, hf, ← List.map_append, ← List.drop_drop, List.take_append_drop]
      · simp at h2
    · simp at h
theorem reps_lits (k : Nat) (e : TypeId) (l : List Leaf) (ih : ∀ (cs : List Value), Leaves w l cs → P.keyLits k e cs = some (cs.map litOf)) :
    ∀ (n j : Nat) (cs : List Value), Leaves w (List.replicate n l).flatten (cs.drop (j * l.length)) →
    ∃ yss, (List.range' j n).mapM (fun i => P.keyLits k e ((cs.drop (i * l.length)).take l.length)) = some yss ∧ yss.flatten = (cs.drop (j * l.length)).map litOf
  | 0, j, cs, hl => by
    refine ⟨[], by simp, ?_⟩
    have e0 : cs.drop (j * l.length) = [] := List.eq_nil_of_length_eq_zero (by simpa using hl.1)
    rw [e0]; rfl
  | n + 1, j, cs, hl => by
    rw [List.replicate_succ, List.flatten_cons] at hl
    obtain ⟨s1, s2⟩ := hl.split
    rw [List.drop_drop, ← Nat.succ_mul] at s2
    obtain ⟨yss, hy, hf⟩ := reps_lits k e l ih n (j + 1) cs s2
    have h1 := ih _ s1
    refine ⟨((cs.drop (j * l.length)).take l.length).map litOf :: yss, ?_, ?_⟩
    · rw [List.range'_succ, List.mapM_cons, h1, hy]; rfl
    · rw [List.flatten_cons, hf, ← List.map_append, Nat.succ_mul, ← List.drop_drop, List.take_append_drop]

/-- The literals of cells that are what a type's leaves say. -/
theorem keyLits_of_leaves : ∀ (k : Nat) (t : TypeId) (ls : List Leaf) (cs : List Value), leaves P k t = some ls → P.keyTypeAt k t = true → Leaves w ls cs → P.keyLits k t cs = some (cs.map litOf) := by
  intro k
  induction k with
  | zero => intro t ls cs hl; simp [leaves] at hl
  | succ k ih =>
    intro t ls cs hl hk hv
    unfold leaves at hl
    unfold Program.keyTypeAt at hk
    unfold Program.keyLits
    split at hl
    · rename_i hu
      obtain rfl := Option.some.inj hl
      obtain ⟨v, rfl, b, rfl⟩ := hv.single
      rw [hu]; rfl
    · rename_i q hu
      obtain rfl := Option.some.inj hl
      obtain ⟨v, rfl, n, rfl, hw⟩ := hv.single
      rw [hu]
      show (if q = q ∧ _ then _ else _) = _
      rw [if_pos ⟨rfl, hw⟩]; rfl
    · rename_i hu
      obtain rfl := Option.some.inj hl
      obtain ⟨v, rfl, s, rfl, hs⟩ := hv.single
      rw [hu]
      show (if _ then _ else _) = _
      rw [if_pos hs]; rfl
    · rename_i e hu
      rw [hu] at hk
      simp at hk
    · rename_i fs hu
      rw [hu] at hk ⊢
      split at hl
      · rename_i hcl
        simp only [Bool.and_eq_true] at hk
        have hall := fun f hf => Array.all_eq_true_iff_forall_mem.1 hk.1.1 f (Array.mem_toList_iff.1 hf)
        obtain ⟨yss, hy, hf⟩ := fields_lits (w := w) k (fun t ls cs a b c => ih t ls cs a b c) fs.toList 0 ls cs hl (fun f hf => by
          have := hall f hf
          simp only [Bool.and_eq_true] at this
          exact this.2) (by rw [List.drop_zero]; exact hv)
        show (if cs.length = P.cellsOf t ∧ fs.all (·.name != "_") = true then _ else _) = _
        have hnames : fs.all (·.name != "_") = true := by
          rw [Array.all_eq_true_iff_forall_mem]
          intro f hf
          have := hall f (Array.mem_toList_iff.2 hf)
          simp only [Bool.and_eq_true] at this
          exact this.1
        rw [if_pos ⟨by rw [hv.1, hcl, hl]; simp, hnames⟩, hy]
        rw [List.drop_zero] at hf
        show some yss.flatten = _
        rw [hf]
      · simp at hl
    · rename_i n e hu
      rw [hu] at hk ⊢
      obtain ⟨l, hl1, hl2⟩ := Option.bind_eq_some_iff.mp hl
      split at hl2
      · rename_i hcl
        obtain rfl := Option.some.inj hl2
        obtain ⟨yss, hy, hf⟩ := reps_lits (P := P) (w := w) k e l (fun cs hc => ih e l cs hl1 hk hc) n 0 cs (by rw [Nat.zero_mul, List.drop_zero]; exact hv)
        have hlen : cs.length = P.cellsOf t := by
          rw [hv.1, hcl.2]; simp
        show (if cs.length = P.cellsOf t then _ else _) = _
        rw [if_pos hlen, List.range_eq_range', hcl.1, hy]
        rw [Nat.zero_mul, List.drop_zero] at hf
        show some yss.flatten = _
        rw [hf]
      · simp at hl2
    · simp at hl
/-- The keys' literals do not hang on the depth. -/
theorem eq_flat (k : Nat) (t : TypeId) (ls : List Leaf) (hl : leaves P k t = some ls) (hk : P.keyTypeAt k t = true) (hm : k ≤ 9000) (xs ys : Array Value) (fx : (Value.agg xs).formed P t = true) (fy : (Value.agg ys).formed P t = true)
    (hx : Leaves w ls xs.toList) (hy : Leaves w ls ys.toList) (b : Bool) (hb : b = true ↔ xs.toList.map litOf = ys.toList.map litOf) (W : World) : (Op.equalIn 10000 t (.agg xs) (.agg ys)).run P W = .ok b W := by
  obtain ⟨r, hr, hi⟩ := run_equalIn_deep (P := P) (10000 - k) k t hk W k k (.agg xs) (.agg ys) _ _ fx fy (keyLits_of_leaves k t ls _ hl hk hx) (keyLits_of_leaves k t ls _ hl hk hy)
  rw [show 10000 - k + k = 10000 by omega] at hr
  have e : r = b := by rw [Bool.eq_iff_iff, hi, hb]; exact Iff.rfl
  rw [hr, e]
end
end Go.Proofs.Ytmobpbhbllhdcaa
