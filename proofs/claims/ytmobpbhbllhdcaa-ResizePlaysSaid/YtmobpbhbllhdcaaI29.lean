/- The ideal heap: I26, I27, I28, I29. Contracts by weakest conditions: what comes up on the way, in the form that simp takes. -/
import Derived.Test.YtmobpbhbllhdcaaI25
noncomputable section
namespace Go.Proofs.Ytmobpbhbllhdcaa.Ideal
open Go.RowKit
set_option linter.unusedVariables false
set_option linter.unusedSimpArgs false
set_option linter.unnecessarySimpa false

theorem xput_get (e : XEnv) (d : Nat) (v : Value) (t : Nat) : (e.put (some d) v).get t = if t < e.n then (if d = t then v else e.get t) else undef := by
  rw [XEnv.get_def, XEnv.get_def]
  unfold XEnv.put
  dsimp only
  rw [Trie.get_set _ _ _ _ _ _ _ (Nat.le_refl _) (Nat.le_refl _)]
  by_cases h : t < e.n
  · simp only [if_pos h]
  · simp only [if_neg h]
theorem put_n (e : XEnv) (d : Option Nat) (v : Value) : (e.put d v).n = e.n := by cases d <;> rfl
theorem put_dfr (e : XEnv) (d : Option Nat) (v : Value) : (e.put d v).dfr = e.dfr := by cases d <;> rfl
theorem put_none (e : XEnv) (v : Value) : e.put none v = e := byEq rfl

theorem Trie.set_same {α : Type} (d : α) : ∀ (f f' : Nat) (t : Trie α) (i : Nat) (a b : α), i ≤ f → i ≤ f' → Trie.set d f (Trie.set d f' t i a) i b = Trie.set d f t i b
  | 0, 0, t, i, a, b, hf, hf' => rfl
  | 0, f' + 1, t, i, a, b, hf, hf' => by
    have : i = 0 := by omega
    subst this
    rfl
  | f + 1, 0, t, i, a, b, hf, hf' => by
    have : i = 0 := by omega
    subst this
    rfl
  | f + 1, f' + 1, t, i, a, b, hf, hf' => by
    by_cases h : i = 0
    · subst h; rfl
    · by_cases p : i % 2 = 1
      · simp only [Trie.set, if_neg h, if_pos p, Trie.lft, Trie.rgt, Trie.val]
        rw [Trie.set_same d f f' _ _ _ _ (by omega) (by omega)]
      · simp only [Trie.set, if_neg h, if_neg p, Trie.lft, Trie.rgt, Trie.val]
        rw [Trie.set_same d f f' _ _ _ _ (by omega) (by omega)]
theorem Trie.set_comm {α : Type} (d : α) : ∀ (f f' : Nat) (t : Trie α) (i j : Nat) (a b : α), i ≤ f → j ≤ f' → i ≠ j → Trie.set d f' (Trie.set d f t i a) j b = Trie.set d f (Trie.set d f' t j b) i a
  | 0, 0, t, i, j, a, b, hf, hf', hij => by omega
  | 0, f' + 1, t, i, j, a, b, hf, hf', hij => by
    have : i = 0 := by omega
    subst this
    have hj : ¬ j = 0 := fun e => hij e.symm
    by_cases p : j % 2 = 1 <;> simp [Trie.set, Trie.lft, Trie.rgt, Trie.val, hj, p]
  | f + 1, 0, t, i, j, a, b, hf, hf', hij => by
    have : j = 0 := by omega
    subst this
    by_cases p : i % 2 = 1 <;> simp [Trie.set, Trie.lft, Trie.rgt, Trie.val, hij, p]
  | f + 1, f' + 1, t, i, j, a, b, hf, hf', hij => by
    by_cases h : i = 0
    · subst h
      have hj : ¬ j = 0 := fun e => hij e.symm
      by_cases p : j % 2 = 1 <;> simp [Trie.set, Trie.lft, Trie.rgt, Trie.val, hj, p]
    · by_cases h' : j = 0
      · subst h'
        by_cases p : i % 2 = 1 <;> simp [Trie.set, Trie.lft, Trie.rgt, Trie.val, hij, p]
      · by_cases p : i % 2 = 1 <;> by_cases q : j % 2 = 1
        · simp only [Trie.set, if_neg h, if_neg h', if_pos p, if_pos q, Trie.lft, Trie.rgt, Trie.val]
          rw [Trie.set_comm d f f' _ _ _ _ _ (by omega) (by omega) (by omega)]
        · simp only [Trie.set, if_neg h, if_neg h', if_pos p, if_neg q, Trie.lft, Trie.rgt, Trie.val]
        · simp only [Trie.set, if_neg h, if_neg h', if_neg p, if_pos q, Trie.lft, Trie.rgt, Trie.val]
        · simp only [Trie.set, if_neg h, if_neg h', if_neg p, if_neg q, Trie.lft, Trie.rgt, Trie.val]
          rw [Trie.set_comm d f f' _ _ _ _ _ (by omega) (by omega) (by omega)]
/-! A heap that is written is brought to one form: what is made stands outermost, each block is written once. -/
theorem IHeap.set_set (h : IHeap) (i : Nat) (a b : IObj) : (h.set i a).set i b = h.set i b := by
  unfold IHeap.set
  dsimp only
  rw [Trie.set_same _ _ _ _ _ _ _ (Nat.le_refl _) (Nat.le_refl _)]
theorem IHeap.set_push {h : IHeap} {i : Nat} (a b : IObj) (hi : i < h.size) : (h.push a).set i b = (h.set i b).push a := by
  unfold IHeap.set IHeap.push
  dsimp only
  rw [Trie.set_comm _ _ _ _ _ _ _ _ (Nat.le_refl _) (Nat.le_refl _) (by omega)]
theorem IHeap.set_pushed {h : IHeap} {i : Nat} (a b : IObj) (hi : i = h.size) : (h.push a).set i b = h.push b := by
  subst hi
  unfold IHeap.set IHeap.push
  dsimp only
  rw [Trie.set_same _ _ _ _ _ _ _ (Nat.le_refl _) (Nat.le_refl _)]
theorem IHeap.set_comm {h : IHeap} {i j : Nat} (a b : IObj) (hij : i ≠ j) : (h.set i a).set j b = (h.set j b).set i a := by
  unfold IHeap.set
  dsimp only
  rw [Trie.set_comm _ _ _ _ _ _ _ _ (Nat.le_refl _) (Nat.le_refl _) hij]
theorem IHeap.set_set3 {h : IHeap} {i j : Nat} (a b c : IObj) (hij : i ≠ j) : ((h.set i a).set j b).set i c = (h.set i c).set j b := by
  rw [IHeap.set_comm _ _ (Ne.symm hij), IHeap.set_set]
theorem IHeap.size_set' (h : IHeap) (i : Nat) (o : IObj) : (h.set i o).size = h.size := byEq rfl
theorem IHeap.size_push' (h : IHeap) (o : IObj) : (h.push o).size = h.size + 1 := byEq rfl
theorem IHeap.get_set_same {h : IHeap} {i : Nat} (o : IObj) (hi : i < h.size) : (h.set i o).get i = some o := by rw [IHeap.get_set _ _ _ _ hi, if_pos rfl]
theorem IHeap.get_set_ne {h : IHeap} {i j : Nat} (o : IObj) (hij : i ≠ j) : (h.set i o).get j = h.get j := by
  rw [IHeap.get_def, IHeap.get_def]
  unfold IHeap.set
  dsimp only
  rw [Trie.get_set _ _ _ _ _ _ _ (Nat.le_refl _) (Nat.le_refl _), if_neg hij]
theorem IHeap.get_push_same (h : IHeap) (o : IObj) : (h.push o).get h.size = some o := by rw [IHeap.get_push, if_pos rfl]
theorem IHeap.get_pushed {h : IHeap} {i : Nat} (o : IObj) (hi : i = h.size) : (h.push o).get i = some o := by rw [IHeap.get_push, if_pos hi]
theorem IHeap.get_push_ne {h : IHeap} {j : Nat} (o : IObj) (hj : j ≠ h.size) : (h.push o).get j = h.get j := by rw [IHeap.get_push, if_neg hj]

/-- A row with some cells written. -/
theorem splice_one {cs : List Value} {q : Nat} (v : Value) (hq : q < cs.length) : splice cs q [v] = cs.set q v := by
  apply List.ext_getElem?
  intro i
  rw [splice_get (by simp; omega), List.getElem?_set]
  by_cases h : q = i
  · subst h; simp [hq]
  · rw [if_neg h, if_neg (by simp; omega)]
theorem splice_all {cs vs : List Value} (h : cs.length = vs.length) : splice cs 0 vs = vs := by
  unfold splice
  simp [h]
theorem slots_all {cs : List Value} {n : Nat} (h : cs.length = n) : slots cs 0 n = some cs := by
  subst h
  simp [slots]

/-- What lay in h lies in h' as it lay, but for L. -/
def getU : List (Nat × IObj) → IHeap → Nat → Option IObj
  | [], h, i => h.get i
  | (p, o) :: L, h, i => if i = p then some o else getU L h i
structure Fr (h h' : IHeap) (L : List (Nat × IObj)) : Prop where
  size : h.size ≤ h'.size
  get : ∀ i, i < h.size → h'.get i = getU L h i
theorem getU_nil (h : IHeap) (i : Nat) : getU [] h i = h.get i := byEq rfl
theorem getU_same {L : List (Nat × IObj)} {h : IHeap} {i p : Nat} (o : IObj) (hi : i = p) : getU ((p, o) :: L) h i = some o := by simp [getU, hi]
theorem getU_ne {L : List (Nat × IObj)} {h : IHeap} {i p : Nat} (o : IObj) (hi : i ≠ p) : getU ((p, o) :: L) h i = getU L h i := by simp [getU, hi]
theorem Fr.refl (h : IHeap) : Fr h h [] := ⟨Nat.le_refl _, fun _ _ => rfl⟩
theorem Fr.push {h h' : IHeap} {L : List (Nat × IObj)} (f : Fr h h' L) (o : IObj) : Fr h (h'.push o) L :=
  ⟨by have := f.size; simp; omega, fun i hi => by rw [IHeap.get_push_ne _ (by have := f.size; omega)]; exact f.get i hi⟩
theorem Fr.set_new {h h' : IHeap} {L : List (Nat × IObj)} (f : Fr h h' L) {i : Nat} (o : IObj) (hi : h.size ≤ i) : Fr h (h'.set i o) L :=
  ⟨f.size, fun j hj => by rw [IHeap.get_set_ne _ (by omega)]; exact f.get j hj⟩
theorem Fr.set {h h' : IHeap} {L : List (Nat × IObj)} (f : Fr h h' L) {i : Nat} (o : IObj) (hi : i < h.size) : Fr h (h'.set i o) ((i, o) :: L) :=
  ⟨f.size, fun j hj => by
    by_cases e : i = j
    · subst e; rw [IHeap.get_set_same _ (by have := f.size; omega)]; simp [getU]
    · rw [IHeap.get_set_ne _ e, f.get j hj]; simp [getU, Ne.symm e]⟩
theorem Fr.trans {h h' h'' : IHeap} {L L' : List (Nat × IObj)} (f : Fr h h' L) (g : Fr h' h'' L') : Fr h h'' (L' ++ L) := by
  refine ⟨Nat.le_trans f.size g.size, fun i hi => ?_⟩
  rw [g.get i (Nat.lt_of_lt_of_le hi f.size)]
  clear g
  induction L' with
  | nil => exact f.get i hi
  | cons x L' ih => obtain ⟨p, o⟩ := x; simp only [getU, List.cons_append, ih]
theorem Fr.same {h h' : IHeap} {L L' : List (Nat × IObj)} (f : Fr h h' L) (hl : ∀ i, i < h.size → getU L h i = getU L' h i) : Fr h h' L' := ⟨f.size, fun i hi => by rw [f.get i hi, hl i hi]⟩
theorem Fr.lt {h h' : IHeap} {L : List (Nat × IObj)} (f : Fr h h' L) {i : Nat} (hi : i < h.size) : i < h'.size := Nat.lt_of_lt_of_le hi f.size

/-- A contract that tells what comes out. -/
theorem ICall.of_FN {P : Program} {g : FuncId} {args : Array Value} {h h' : IHeap} {v : Value} (x : FN P g args h (Q := ⟨fun v' h2 => v' = v ∧ h2 = h'⟩)) : ICall P g args h v h' := by
  obtain ⟨v', h2, hc, rfl, rfl⟩ := x
  exact hc
theorem FN.of {P : Program} {g : FuncId} {args : Array Value} {h h' : IHeap} {v : Value} {Q : Hid VQ} (x : ICall P g args h v h') (k : Q.ap v h') : FN P g args h (Q := Q) := ⟨v, h', x, k⟩
/-- The values that a call tells, and what it leaves: new blocks, and L. -/
def CT (P : Program) (g : FuncId) (args : Array Value) (h : IHeap) (v : Value) (L : List (Nat × IObj)) : Prop := FN P g args h (Q := ⟨fun v' h' => v' = v ∧ Fr h h' L⟩)
theorem FN.ct {P : Program} {g : FuncId} {args : Array Value} {h : IHeap} {v : Value} {L : List (Nat × IObj)} {Q : Hid VQ} (x : CT P g args h v L) (k : ∀ h', Fr h h' L → Q.ap v h') : FN P g args h (Q := Q) := by
  obtain ⟨v', h', hc, rfl, hf⟩ := x
  exact ⟨v', h', hc, k h' hf⟩

/-- From the frame's first temporaries on. -/
theorem FN.enter {P : Program} (hm : P.follows .mixedOrders = true) {g : FuncId} {fn : Func} {c : Code} {args : Array Value} {h : IHeap} {Q : Hid VQ} (hf : P.funcs[g]? = some fn) (hb : fn.body = some c) (hok : codeOk c = true)
    (hx : ∀ e : XEnv, e.n = args.toList.length + (fn.ntmps - args.toList.length) → (∀ t, t < e.n → e.get t = args.toList.getD t undef) → e.dfr = [] → WP P none c e h (Q := ⟨FinQ P fn.results.toList Q.ap⟩)) : FN P g args h (Q := Q) := by
  refine FN.intro hm hf hb hok (hx _ rfl (fun t ht => ?_) rfl)
  have ht' : t < args.toList.length + (fn.ntmps - args.toList.length) := ht
  rw [XEnv.get_def, if_pos ht]
  unfold startE envOf
  dsimp only
  rw [treeOf_get, leaf_get]
  simp only [Nat.zero_add, Nat.zero_le, true_and, Nat.sub_zero]
  by_cases h2 : t < args.toList.length
  · rw [if_pos h2]
  · rw [if_neg h2, List.getD_eq_getElem?_getD, List.getElem?_eq_none (by omega)]
    rfl

theorem IHeap.get_set_if (h : IHeap) (i j : Nat) (o : IObj) : (h.set i o).get j = if i = j then (if i < h.size then some o else none) else h.get j := by
  by_cases e : i = j
  · subst e
    rw [if_pos rfl]
    by_cases hi : i < h.size
    · rw [if_pos hi, IHeap.get_set_same _ hi]
    · rw [if_neg hi]; exact IHeap.get_none (by simpa using hi)
  · rw [if_neg e, IHeap.get_set_ne _ e]
/-- What a result's place tells. -/
def finD (P : Program) (rs : List ResultVar) (Q : VQ) (ds : List Deferred) (e : XEnv) (h : IHeap) : Prop :=
  match marksOf ds with
    | some bs => (match closeMarks bs h with
      | some h2 => (match iresultsE P e.get h2 rs with
        | some v => Q v h2
        | none => False)
      | none => False)
    | none => False
theorem finD_nil {P : Program} {rs : List ResultVar} {Q : VQ} {e : XEnv} {h : IHeap} : finD P rs Q [] e h = atSome (iresultsE P e.get h rs) (K := ⟨fun v => Q v h⟩) := by
  simp only [finD, marksOf, closeMarks]
  cases iresultsE P e.get h rs <;> rfl
theorem finQ_n {P : Program} {rs : List ResultVar} {Q : VQ} {e : XEnv} {h : IHeap} : FinQ P rs Q .normal e h = finD P rs Q e.dfr e h := byEq rfl
theorem finQ_r {P : Program} {rs : List ResultVar} {Q : VQ} {e : XEnv} {h : IHeap} : FinQ P rs Q .ret e h = finD P rs Q e.dfr e h := byEq rfl

theorem finQ_normal {P : Program} {rs : List ResultVar} {Q : VQ} {e : XEnv} {h : IHeap} (hd : e.dfr = []) : FinQ P rs Q .normal e h = atSome (iresultsE P e.get h rs) (K := ⟨fun v => Q v h⟩) := by
  simp only [FinQ, hd, marksOf, closeMarks]
  cases iresultsE P e.get h rs <;> rfl
theorem finQ_ret {P : Program} {rs : List ResultVar} {Q : VQ} {e : XEnv} {h : IHeap} (hd : e.dfr = []) : FinQ P rs Q .ret e h = atSome (iresultsE P e.get h rs) (K := ⟨fun v => Q v h⟩) := by
  simp only [FinQ, hd, marksOf, closeMarks]
  cases iresultsE P e.get h rs <;> rfl
theorem ires_nil (P : Program) (get : Nat → Value) (h : IHeap) : iresultsE P get h [] = some (.tuple #[]) := byEq rfl
theorem ires_one (P : Program) (get : Nat → Value) (h : IHeap) (r : ResultVar) : iresultsE P get h [r] = ires1E P get h r := by
  simp only [iresultsE, List.mapM_cons, List.mapM_nil]
  cases ires1E P get h r <;> rfl
theorem ires_two (P : Program) (get : Nat → Value) (h : IHeap) (r s : ResultVar) : iresultsE P get h [r, s] = (ires1E P get h r).bind fun a => (ires1E P get h s).map fun b => .tuple #[a, b] := by
  simp only [iresultsE, List.mapM_cons, List.mapM_nil]
  cases ires1E P get h r <;> cases ires1E P get h s <;> rfl
theorem ires_three (P : Program) (get : Nat → Value) (h : IHeap) (r s t : ResultVar) : iresultsE P get h [r, s, t] = (ires1E P get h r).bind fun a => (ires1E P get h s).bind fun b => (ires1E P get h t).map fun c => .tuple #[a, b, c] := by
  simp only [iresultsE, List.mapM_cons, List.mapM_nil]
  cases ires1E P get h r <;> cases ires1E P get h s <;> cases ires1E P get h t <;> rfl
/-- The kind's bounds. -/
theorem wrap64 {n : Int} (h1 : -9223372036854775808 ≤ n) (h2 : n < 9223372036854775808) : IntKind.i64.wrap n = n := by
  have e : IntKind.i64.wrap n = (if decide (n % 18446744073709551616 ≥ 9223372036854775808) = true then n % 18446744073709551616 - 18446744073709551616 else n % 18446744073709551616) := byEq rfl
  rw [e]
  split <;> rename_i hd <;> simp only [decide_eq_true_eq] at hd <;> omega
theorem wrapU64 {n : Int} (h1 : 0 ≤ n) (h2 : n < 18446744073709551616) : IntKind.u64.wrap n = n := by
  have e : IntKind.u64.wrap n = n % 18446744073709551616 := byEq rfl
  rw [e]; omega
theorem wrapU8 {n : Int} (h1 : 0 ≤ n) (h2 : n < 256) : IntKind.u8.wrap n = n := by
  have e : IntKind.u8.wrap n = n % 256 := byEq rfl
  rw [e]; omega
theorem wrapU16 {n : Int} (h1 : 0 ≤ n) (h2 : n < 65536) : IntKind.u16.wrap n = n := by
  have e : IntKind.u16.wrap n = n % 65536 := byEq rfl
  rw [e]; omega
theorem wrapU32 {n : Int} (h1 : 0 ≤ n) (h2 : n < 4294967296) : IntKind.u32.wrap n = n := by
  have e : IntKind.u32.wrap n = n % 4294967296 := byEq rfl
  rw [e]; omega
end Go.Proofs.Ytmobpbhbllhdcaa.Ideal
end
noncomputable section
namespace Go.Proofs.Ytmobpbhbllhdcaa.Ideal
open Go.RowKit
set_option linter.unusedVariables false
set_option linter.unusedSimpArgs false
set_option linter.unnecessarySimpa false

def ent (draw : Bool) (k : Kind) (h h' : IHeap) (es : List Ent) : List Ent := if draw then ⟨k, h, h'⟩ :: es else []
theorem ent_tt (k : Kind) (h h' : IHeap) (es : List Ent) : ent true k h h' es = ⟨k, h, h'⟩ :: es := byEq rfl
theorem ent_ff (k : Kind) (h h' : IHeap) (es : List Ent) : ent false k h h' es = [] := byEq rfl
/-- Kinds that may be met in either order. -/
def niKE : Kind → Kind → Bool
  | .heavy, .heavy => false
  | .heavy, .read _ => false
  | .read _, .heavy => false
  | .alloc, .heavy => false
  | _, _ => true
def niK (ops : Array Oper) (es : List Ent) : Bool :=
  let bs := befores ops
  es.zipIdx.all fun (e', j) => es.zipIdx.all fun (e, i) => !decide (i < j) || ((bs.getD j 0).testBit i || niKE e.kind e'.kind)
theorem niK_ok {ops : Array Oper} {es : List Ent} (h : niK ops es = true) : NiL ops es := by
  intro i j e e' hij hi hj hb
  unfold niK at h
  rw [List.all_eq_true] at h
  have h1 := h (e', j) (List.mem_iff_getElem?.2 ⟨j, by simp [List.getElem?_zipIdx, hj]⟩)
  simp only [List.all_eq_true] at h1
  have h2 := h1 (e, i) (List.mem_iff_getElem?.2 ⟨i, by simp [List.getElem?_zipIdx, hi]⟩)
  simp only [Bool.or_eq_true, Bool.not_eq_true', decide_eq_false_iff_not] at h2
  rcases h2 with h2 | h2 | h2
  · exact absurd hij h2
  · unfold bef at hb
    rw [h2] at hb; cases hb
  · obtain ⟨k, p, q⟩ := e
    obtain ⟨k', p', q'⟩ := e'
    cases k <;> cases k' <;> first | trivial | (cases h2; done)
/-- The same, but for some pairs. -/
def niKx (ops : Array Oper) (es : List Ent) (pend : List (Nat × Nat)) : Bool :=
  let bs := befores ops
  es.zipIdx.all fun (e', j) => es.zipIdx.all fun (e, i) => !decide (i < j) || ((bs.getD j 0).testBit i || (niKE e.kind e'.kind || pend.any fun p => Nat.beq p.1 i && Nat.beq p.2 j))
def pendOk (es : List Ent) : List (Nat × Nat) → Prop
  | [] => True
  | (i, j) :: l => (match es[i]?, es[j]? with | some e, some e' => NiE e e' | _, _ => False) ∧ pendOk es l
theorem pendOk_get {es : List Ent} : ∀ {l : List (Nat × Nat)}, pendOk es l → ∀ p ∈ l, ∀ e e', es[p.1]? = some e → es[p.2]? = some e' → NiE e e'
  | [], _, p, hp, _, _, _, _ => by simp at hp
  | (i, j) :: l, h, p, hp, e, e', h1, h2 => by
    rw [List.mem_cons] at hp
    rcases hp with rfl | hp
    · have := h.1
      simp only at h1 h2
      rw [h1, h2] at this
      exact this
    · exact pendOk_get h.2 p hp e e' h1 h2
theorem niKx_ok {ops : Array Oper} {es : List Ent} {pend : List (Nat × Nat)} (h : niKx ops es pend = true) (hp : pendOk es pend) : NiL ops es := by
  intro i j e e' hij hi hj hb
  unfold niKx at h
  rw [List.all_eq_true] at h
  have h1 := h (e', j) (List.mem_iff_getElem?.2 ⟨j, by simp [List.getElem?_zipIdx, hj]⟩)
  simp only [List.all_eq_true] at h1
  have h2 := h1 (e, i) (List.mem_iff_getElem?.2 ⟨i, by simp [List.getElem?_zipIdx, hi]⟩)
  simp only [Bool.or_eq_true, Bool.not_eq_true', decide_eq_false_iff_not, List.any_eq_true, Bool.and_eq_true] at h2
  rcases h2 with h2 | h2 | h2 | ⟨p, hm, h3, h4⟩
  · exact absurd hij h2
  · unfold bef at hb
    rw [h2] at hb; cases hb
  · obtain ⟨k, p, q⟩ := e
    obtain ⟨k', p', q'⟩ := e'
    cases k <;> cases k' <;> first | trivial | (cases h2; done)
  · have e1 := Nat.eq_of_beq_eq_true h3
    have e2 := Nat.eq_of_beq_eq_true h4
    exact pendOk_get hp p hm e e' (by rw [e1]; exact hi) (by rw [e2]; exact hj)
/-- What a drawn region asks at its end. -/
def niC (draw : Bool) [E : Hid (Array Oper × List Ent)] : Prop := draw = true → NiL E.ap.1 E.ap.2.reverse
theorem niC_false (E : Hid (Array Oper × List Ent)) : niC false (E := E) = True := by simp [niC]
theorem niC_of {draw : Bool} {ops : Array Oper} {es : List Ent} (h : niK ops es.reverse = true) : niC draw (E := ⟨(ops, es)⟩) := fun _ => niK_ok h
theorem niC_pend {draw : Bool} {ops : Array Oper} {es : List Ent} (pend : List (Nat × Nat)) (h : niKx ops es.reverse pend = true) (hp : pendOk es.reverse pend) : niC draw (E := ⟨(ops, es)⟩) := fun _ => niKx_ok h hp
theorem niC_ni {draw : Bool} {ops : Array Oper} {es : List Ent} (h : NiL ops es.reverse) : niC draw (E := ⟨(ops, es)⟩) := fun _ => h
section
variable {P : Program} {rd : Option Nat} {draw : Bool} {all : Array Oper} {os : List Oper} {e : XEnv} {h : IHeap}
/-- What a guard's place tells. -/
def jgd (e : XEnv) (d : Option Tmp) (b : Bool) : Bool := match d with
  | some t => (match e.get t with | .bool c => c == b | _ => false)
  | none => false
theorem wantedE_none (d : Option Tmp) (op : Op) (t : TypeId) (p : String) (af : Array Edge) : wantedE all e ⟨d, op, t, p, af, none⟩ = true := byEq rfl
theorem wantedE_some (d : Option Tmp) (op : Op) (t : TypeId) (p : String) (af : Array Edge) (j : Nat) (b : Bool) : wantedE all e ⟨d, op, t, p, af, some (j, b)⟩ = jgd e ((all[j]?).bind (·.dst)) b := byEq rfl
theorem jgd_some (t : Tmp) (b : Bool) : jgd e (some t) b = (match e.get t with | .bool c => c == b | _ => false) := byEq rfl
/-- A fork; its ways are not gone before it is known which. -/
def jif (p : Prop) [K : Hid (Bool → Prop)] : Prop := (p → K.ap true) ∧ (¬ p → K.ap false)
theorem jif_true (K : Hid (Bool → Prop)) : jif True (K := K) = K.ap true := by simp [jif]
theorem jif_false (K : Hid (Bool → Prop)) : jif False (K := K) = K.ap false := by simp [jif]
theorem jif_and (p : Prop) (K : Hid (Bool → Prop)) : jif p (K := K) = ((p → K.ap true) ∧ (¬ p → K.ap false)) := byEq rfl
theorem jif_split {p : Prop} {K : Hid (Bool → Prop)} (h1 : p → K.ap true) (h2 : ¬ p → K.ap false) : jif p (K := K) := ⟨h1, h2⟩
theorem jif_bool (b : Bool) (K : Hid (Bool → Prop)) : jif (b = true) (K := K) = K.ap b := by cases b <;> simp [jif]
section
variable [Q : Hid (XEnv → IHeap → Prop)] [E : Hid (List Ent)]
variable (P draw all) in
def wopsH (os : List Oper) (e : XEnv) (h : IHeap) : Prop := wops P draw all os e h E.ap
variable (P draw all) in
def wdo (o : Oper) (os : List Oper) (e : XEnv) (h : IHeap) : Prop := wop P e o h (K := ⟨fun v h' k => wops P draw all os (e.put o.dst v) h' (ent draw k h h' E.ap)⟩)
/-- What is done behind an operation. -/
def wnx (P : Program) (draw : Bool) (all : Array Oper) (os : List Oper) (e : XEnv) (d : Option Tmp) (h : IHeap) (v : Value) (h' : IHeap) (k : Kind) [Q : Hid (XEnv → IHeap → Prop)] [E : Hid (List Ent)] : Prop := wops P draw all os (e.put d v) h' (ent draw k h h' E.ap)
theorem wnx_eq (d : Option Tmp) (v : Value) (h' : IHeap) (k : Kind) : wnx P draw all os e d h v h' k = wopsH P draw all os (e.put d v) h' (E := ⟨ent draw k h h' E.ap⟩) := byEq rfl
theorem wops_nil : wopsH P draw all [] e h = (niC draw (E := ⟨(all, E.ap)⟩) ∧ Q.ap e h) := byEq rfl
theorem wops_cons (o : Oper) : wopsH P draw all (o :: os) e h = jif (wantedE all e o = true) (K := ⟨fun b => if b = true then wdo P draw all o os e h else wopsH P draw all os (e.put o.dst undef) h (E := ⟨ent draw .skip h h E.ap⟩)⟩) := by
  rw [jif_bool, Hid.ap_mk]
  exact byEq rfl
variable (d : Option Tmp) (ty : TypeId) (p : String) (af : Array Edge) (g : Option (Nat × Bool))
theorem wdo_move (x : Operand) : wdo P draw all ⟨d, .move x, ty, p, af, g⟩ os e h = wnx P draw all os e d h (e.ev x) h .pure := byEq rfl
theorem wdo_assign (x : Operand) : wdo P draw all ⟨d, .assign x, ty, p, af, g⟩ os e h = wnx P draw all os e d h (e.ev x) h .pure := byEq rfl
theorem wdo_pick (c x y : Operand) : wdo P draw all ⟨d, .pick c x y, ty, p, af, g⟩ os e h = atBool (e.ev c) (K := ⟨fun b => wnx P draw all os e d h (if b = true then e.ev x else e.ev y) h .pure⟩) := byEq rfl
theorem wdo_load (t : TypeId) (x : Operand) : wdo P draw all ⟨d, .load t x, ty, p, af, g⟩ os e h = atPtr (e.ev x) (K := ⟨fun i q => atRow (h.get i) (K := ⟨fun _ _ cs => atSome (loadOf P t cs q) (K := ⟨fun v => wnx P draw all os e d h v h (.read i)⟩)⟩)⟩) := byEq rfl
theorem wdo_store (t : TypeId) (x y : Operand) : wdo P draw all ⟨d, .store t x y, ty, p, af, g⟩ os e h = atPtr (e.ev x) (K := ⟨fun i q => atRowW (h.get i) (K := ⟨fun esz cs => atSome (tsize P t) (K := ⟨fun n =>
      atIf ((e.ev y).cells.size = n ∧ q + n ≤ cs.length ∧ (e.ev y).cells.toList.all (·.oneCell') = true) (K := ⟨fun _ => wnx P draw all os e d h undef (h.set i (.row false esz (splice cs q (e.ev y).cells.toList))) .heavy⟩)⟩)⟩)⟩) := byEq rfl
theorem wdo_alloc (t : TypeId) : wdo P draw all ⟨d, .alloc t, ty, p, af, g⟩ os e h = atSome (zeroOf P t) (K := ⟨fun z => wnx P draw all os e d h (.pointer (some ⟨h.size, 0, none⟩)) (h.push (.row false 0 z.toList)) .alloc⟩) := byEq rfl
theorem wdo_box (t : TypeId) (x : Operand) : wdo P draw all ⟨d, .box t x, ty, p, af, g⟩ os e h = wnx P draw all os e d h (.pointer (some ⟨h.size, 0, none⟩)) (h.push (.row false 0 (e.ev x).cells.toList)) .alloc := byEq rfl
theorem wdo_fieldAddr (s : TypeId) (x : Operand) (f : Nat) : wdo P draw all ⟨d, .fieldAddr s x f, ty, p, af, g⟩ os e h = atPtr (e.ev x) (K := ⟨fun i q => atSome (fieldOff P s f) (K := ⟨fun k => wnx P draw all os e d h (.pointer (some ⟨i, q + k, none⟩)) h .pure⟩)⟩) := byEq rfl
theorem wdo_indexAddr (t : TypeId) (x ix : Operand) : wdo P draw all ⟨d, .indexAddr t x ix, ty, p, af, g⟩ os e h = atInt (e.ev ix) (K := ⟨fun _ j => jidx P t (e.ev x) j (K := ⟨fun v => wnx P draw all os e d h v h .pure⟩)⟩) := byEq rfl
theorem wdo_field (t : TypeId) (x : Operand) (f : Nat) : wdo P draw all ⟨d, .field t x f, ty, p, af, g⟩ os e h = atAgg (e.ev x) (K := ⟨fun cs => atSome (fldOf P t f) (K := ⟨fun r => atSome (partOf P r.1 cs r.2) (K := ⟨fun v => wnx P draw all os e d h v h .pure⟩)⟩)⟩) := byEq rfl
theorem wdo_extract (x : Operand) (f : Nat) : wdo P draw all ⟨d, .extract x f, ty, p, af, g⟩ os e h = atTup (e.ev x) (K := ⟨fun cs => atSome cs[f]? (K := ⟨fun v => wnx P draw all os e d h v h .pure⟩)⟩) := byEq rfl
theorem wdo_build (t : TypeId) (ps : Array (Nat × Operand)) : wdo P draw all ⟨d, .build t ps, ty, p, af, g⟩ os e h = atSome (buildOf P t (ps.map fun (i, x) => (i, e.ev x)).toList) (K := ⟨fun v => wnx P draw all os e d h v h .pure⟩) := byEq rfl
theorem wdo_buildSlice (t : TypeId) (n : Nat) (ps : Array (Nat × Operand)) : wdo P draw all ⟨d, .buildSlice t n ps, ty, p, af, g⟩ os e h = atSome (ibuildSlice P h t n (ps.map fun (i, x) => (i, e.ev x)).toList) (K := ⟨fun r => wnx P draw all os e d h r.1 r.2.1 (kindOf r.2.2)⟩) := byEq rfl
theorem wdo_makeSlice (t : TypeId) (x y : Operand) : wdo P draw all ⟨d, .makeSlice t x y, ty, p, af, g⟩ os e h = atSome (imakeSlice P h t (e.ev x) (e.ev y)) (K := ⟨fun r => wnx P draw all os e d h r.1 r.2.1 (kindOf r.2.2)⟩) := byEq rfl
theorem wdo_binOp (op : BinOp) (t t2 : TypeId) (x y : Operand) : wdo P draw all ⟨d, .binOp op t x y t2, ty, p, af, g⟩ os e h = atSome (jbin2 P t op (e.ev x) (e.ev y)) (K := ⟨fun v => wnx P draw all os e d h v h .pure⟩) := byEq rfl
theorem wdo_unOp (op : UnOp) (t : TypeId) (x : Operand) : wdo P draw all ⟨d, .unOp op t x, ty, p, af, g⟩ os e h = atSome (jun op (e.ev x)) (K := ⟨fun v => wnx P draw all os e d h v h .pure⟩) := byEq rfl
theorem wdo_makeFunc (f : FuncId) (fs cs : Array Operand) : wdo P draw all ⟨d, .makeFunc (.func f) fs cs, ty, p, af, g⟩ os e h = wnx P draw all os e d h (.func (.func f) (fs.map e.ev) (cs.map e.ev)) h .pure := byEq rfl
theorem wdo_nilCheck (x : Operand) : wdo P draw all ⟨d, .nilCheck x, ty, p, af, g⟩ os e h = jnil (e.ev x) (K := ⟨fun v => wnx P draw all os e d h v h .pure⟩) := byEq rfl
theorem wdo_callV (f : Operand) (args : Array Operand) (ts : Array TypeId) : wdo P draw all ⟨d, .call ⟨.value f, args, ts⟩, ty, p, af, g⟩ os e h = callV P (e.ev f) (args.map e.ev) e ⟨d, .call ⟨.value f, args, ts⟩, ty, p, af, g⟩ h (K := ⟨fun v h' k => wnx P draw all os e d h v h' k⟩) := byEq rfl
theorem wdo_len (x : Operand) (t : TypeId) : wdo P draw all ⟨d, .call ⟨.builtin .len, #[x], #[t]⟩, ty, p, af, g⟩ os e h = jlen P t (e.ev x) h (K := ⟨fun v h' k => wnx P draw all os e d h v h' k⟩) := byEq rfl
theorem wdo_append (x y : Operand) (t t2 : TypeId) : wdo P draw all ⟨d, .call ⟨.builtin .append, #[x, y], #[t, t2]⟩, ty, p, af, g⟩ os e h = atSome (iappend P h t t2 (e.ev x) (e.ev y)) (K := ⟨fun r => wnx P draw all os e d h r.1 r.2 .heavy⟩) := byEq rfl
theorem wdo_copy (x y : Operand) (t t2 : TypeId) : wdo P draw all ⟨d, .call ⟨.builtin .copy, #[x, y], #[t, t2]⟩, ty, p, af, g⟩ os e h = atSome (icopy P h t (e.ev x) (e.ev y)) (K := ⟨fun r => wnx P draw all os e d h r.1 r.2 .heavy⟩) := byEq rfl
theorem wdo_delete (x y : Operand) (t t2 : TypeId) : wdo P draw all ⟨d, .call ⟨.builtin .delete, #[x, y], #[t, t2]⟩, ty, p, af, g⟩ os e h = atSome (idelete P h t (e.ev x) (e.ev y)) (K := ⟨fun r => wnx P draw all os e d h undef r .heavy⟩) := byEq rfl
theorem wdo_max (x y : Operand) (ts : Array TypeId) : wdo P draw all ⟨d, .call ⟨.builtin .max, #[x, y], ts⟩, ty, p, af, g⟩ os e h = atSome (jmax (e.ev x) (e.ev y)) (K := ⟨fun v => wnx P draw all os e d h v h .pure⟩) := byEq rfl
theorem wdo_min (x y : Operand) (ts : Array TypeId) : wdo P draw all ⟨d, .call ⟨.builtin .min, #[x, y], ts⟩, ty, p, af, g⟩ os e h = atSome (jmin (e.ev x) (e.ev y)) (K := ⟨fun v => wnx P draw all os e d h v h .pure⟩) := byEq rfl
theorem wdo_convert (s t : TypeId) (x : Operand) : wdo P draw all ⟨d, .convert s t x, ty, p, af, g⟩ os e h = jcvt P e ⟨d, .convert s t x, ty, p, af, g⟩ h (e.ev x) (P.underlying s) (P.underlying t) (K := ⟨fun v h' k => wnx P draw all os e d h v h' k⟩) := byEq rfl
omit Q E in
theorem jcvt_int (o : Oper) (k0 k : IntKind) (n : Int) (ds : TypeDesc) [K : Hid VK] : jcvt P e o h (.int k0 n) (some ds) (some (.int k)) = K.ap (.int k (k.wrap n)) h .pure := byEq rfl
end
theorem WP_skip [Q : Hid XQ] : WP P rd .skip e h = Q.ap .normal e h := byEq rfl
theorem WP_label [Q : Hid XQ] (l : Nat) : WP P rd (.label l) e h = Q.ap .normal e h := byEq rfl
theorem WP_exit [Q : Hid XQ] (l : Nat) : WP P rd (.exit l) e h = Q.ap (.exit l) e h := byEq rfl
theorem WP_goto [Q : Hid XQ] (l : Nat) : WP P rd (.goto l) e h = Q.ap (.goto l) e h := byEq rfl
theorem WP_ret [Q : Hid XQ] : WP P rd .ret e h = Q.ap .ret e h := byEq rfl
theorem WP_region [Q : Hid XQ] (l : Nat) (ops : Array Oper) (draw : Bool) : WP P rd (.region l ops draw) e h = wopsH P draw ops ops.toList e h (Q := ⟨fun e' h' => Q.ap .normal e' h'⟩) (E := ⟨[]⟩) := byEq rfl
def thenQ (P : Program) (rd : Option Nat) (y : Code) (Q : Hid XQ) (r : Exit) (e : XEnv) (h : IHeap) : Prop := match r with | .normal => WP P rd y e h | r => Q.ap r e h
theorem thenQ_normal (y : Code) (Q : Hid XQ) : thenQ P rd y Q .normal e h = WP P rd y e h := byEq rfl
theorem thenQ_ret (y : Code) (Q : Hid XQ) : thenQ P rd y Q .ret e h = Q.ap .ret e h := byEq rfl
theorem thenQ_exit (y : Code) (Q : Hid XQ) (l : Nat) : thenQ P rd y Q (.exit l) e h = Q.ap (.exit l) e h := byEq rfl
theorem thenQ_goto (y : Code) (Q : Hid XQ) (l : Nat) : thenQ P rd y Q (.goto l) e h = Q.ap (.goto l) e h := byEq rfl
theorem WP_seq [Q : Hid XQ] (x y : Code) : WP P rd (.seq x y) e h = WP P rd x e h (Q := ⟨thenQ P rd y Q⟩) := byEq rfl
theorem WP_cond [Q : Hid XQ] (c : Operand) (x y : Code) : WP P rd (.cond c x y) e h = atBool (e.ev c) (K := ⟨fun b => jif (b = true) (K := ⟨fun b => if b = true then WP P rd x e h else WP P rd y e h⟩)⟩) := by
  unfold WP atBool
  cases e.ev c <;> first | rfl | (rename_i b; cases b <;> simp [Hid.ap, jif])
theorem WP_block [Q : Hid XQ] (l : Nat) (c : Code) : WP P rd (.block l c) e h = WP P rd c e h (Q := ⟨fun x e' h' => Q.ap (outOf l x) e' h'⟩) := byEq rfl
def scopeQ (Q : Hid XQ) (x : Exit) (e : XEnv) (h : IHeap) : Prop := match x with | .goto _ => False | x => Q.ap x e h
theorem scopeQ_normal (Q : Hid XQ) : scopeQ Q .normal e h = Q.ap .normal e h := byEq rfl
theorem scopeQ_ret (Q : Hid XQ) : scopeQ Q .ret e h = Q.ap .ret e h := byEq rfl
theorem scopeQ_exit (Q : Hid XQ) (l : Nat) : scopeQ Q (.exit l) e h = Q.ap (.exit l) e h := byEq rfl
theorem WP_scope [Q : Hid XQ] (c : Code) : WP P rd (.scope c) e h = WP P rd c e h (Q := ⟨scopeQ Q⟩) := byEq rfl
theorem WP_loop [Q : Hid XQ] (c : Code) : WP P rd (.loop c) e h = WPL P rd c e h := byEq rfl
theorem WP_range [Q : Hid XQ] (g : Operand) (ps : Array Tmp) (assign body : Code) : WP P rd (.rangeFunc g ps assign body) e h = WPR P rd g ps assign body e h := byEq rfl
def loopQ (P : Program) (rd : Option Nat) (c : Code) (Q : Hid XQ) (x : Exit) (e : XEnv) (h : IHeap) : Prop := match x with | .normal => WPL P rd c e h | x => Q.ap x e h
theorem loopQ_normal (c : Code) (Q : Hid XQ) : loopQ P rd c Q .normal e h = WPL P rd c e h := byEq rfl
theorem loopQ_ret (c : Code) (Q : Hid XQ) : loopQ P rd c Q .ret e h = Q.ap .ret e h := byEq rfl
theorem loopQ_exit (c : Code) (Q : Hid XQ) (l : Nat) : loopQ P rd c Q (.exit l) e h = Q.ap (.exit l) e h := byEq rfl
/-- A loop, gone round once. -/
theorem WPL.unroll (hm : P.follows .mixedOrders = true) {c : Code} (hc : codeOk c = true) {Q : Hid XQ} (hx : WP P rd c e h (Q := ⟨loopQ P rd c Q⟩)) : WPL P rd c e h (Q := Q) := by
  obtain ⟨x, e1, h1, g1, g2⟩ := WP_ok hm _ _ _ _ hc hx
  cases x with
  | normal =>
    obtain ⟨x, e2, h2, g3, g4⟩ := g2
    exact ⟨x, e2, h2, .more g1 g3, g4⟩
  | _ => exact ⟨_, e1, h1, .stop g1 (by simp), g2⟩
/-- A loop by an invariant, in the form that simp takes. -/
def invQ (I : Nat → XEnv → IHeap → Prop) (n : Nat) (Q : Hid XQ) (x : Exit) (e : XEnv) (h : IHeap) : Prop := match x with | .normal => ∃ m, m < n ∧ I m e h | x => Q.ap x e h
theorem invQ_normal (I : Nat → XEnv → IHeap → Prop) (n : Nat) (Q : Hid XQ) : invQ I n Q .normal e h = ∃ m, m < n ∧ I m e h := byEq rfl
theorem invQ_ret (I : Nat → XEnv → IHeap → Prop) (n : Nat) (Q : Hid XQ) : invQ I n Q .ret e h = Q.ap .ret e h := byEq rfl
theorem invQ_exit (I : Nat → XEnv → IHeap → Prop) (n : Nat) (Q : Hid XQ) (l : Nat) : invQ I n Q (.exit l) e h = Q.ap (.exit l) e h := byEq rfl
theorem WPL.by_inv (hm : P.follows .mixedOrders = true) {c : Code} (hc : codeOk c = true) {Q : Hid XQ} (I : Nat → XEnv → IHeap → Prop) (n : Nat) (h0 : I n e h)
    (step : ∀ n e h, I n e h → WP P rd c e h (Q := ⟨invQ I n Q⟩)) : WPL P rd c e h (Q := Q) :=
  WPL.inv hm hc I step n e h h0
theorem ite_and {p : Prop} [Decidable p] {a b : Prop} : (if p then a else b) = ((p → a) ∧ (¬ p → b)) := by
  by_cases h : p <;> simp [h]
theorem outOf_normal (l : Nat) : outOf l .normal = .normal := byEq rfl
theorem outOf_ret (l : Nat) : outOf l .ret = .ret := byEq rfl
theorem outOf_goto (l m : Nat) : outOf l (.goto m) = .goto m := byEq rfl
theorem outOf_exit (l m : Nat) : outOf l (.exit m) = if m = l then .normal else .exit m := byEq rfl
theorem ev_tmp (t : Nat) : e.ev (.tmp t) = e.get t := byEq rfl
theorem ev_const (v : Value) : e.ev (.const v) = v := byEq rfl
theorem ev_func (f : Nat) : e.ev (.func f) = .func (.func f) #[] #[] := byEq rfl
theorem ires1_tmp (get : Nat → Value) (t : Nat) : ires1E P get h (.tmp t) = some (get t) := byEq rfl
/-- What a result's cell holds. -/
def jcell (P : Program) (h : IHeap) (t : TypeId) (v : Value) : Option Value := match v with
  | .pointer (some ⟨i, q, none⟩) => (match h.get i with
      | some (.row _ _ cs) => loadOf P t cs q
      | _ => none)
  | _ => none
theorem ires1_cell (get : Nat → Value) (p : Nat) (t : TypeId) : ires1E P get h (.cell p t) = jcell P h t (get p) := byEq rfl
def rowLoad (P : Program) (t : TypeId) (q : Nat) (o : Option IObj) : Option Value := match o with | some (.row _ _ cs) => loadOf P t cs q | _ => none
theorem rowLoad_row (t : TypeId) (q : Nat) (ro : Bool) (esz : Nat) (cs : List Value) : rowLoad P t q (some (.row ro esz cs)) = loadOf P t cs q := byEq rfl
theorem jcell_ptr (i q : Nat) (t : TypeId) : jcell P h t (.pointer (some ⟨i, q, none⟩)) = rowLoad P t q (h.get i) := byEq rfl
end
end Go.Proofs.Ytmobpbhbllhdcaa.Ideal
end
noncomputable section
namespace Go.Proofs.Ytmobpbhbllhdcaa.Ideal
open Go.RowKit
set_option linter.unusedVariables false
set_option linter.unusedSimpArgs false
set_option linter.unnecessarySimpa false

section mono
variable {P : Program} {rd : Option Nat}
theorem atSome_mono {α : Type} {o : Option α} {K K' : Hid (α → Prop)} (h : atSome o (K := K)) (k : ∀ a, K.ap a → K'.ap a) : atSome o (K := K') := by
  obtain ⟨a, rfl, h⟩ := atSome_inv h
  exact k a h
theorem atPtr_mono {v : Value} {K K' : Hid (Nat → Nat → Prop)} (h : atPtr v (K := K)) (k : ∀ a b, K.ap a b → K'.ap a b) : atPtr v (K := K') := by
  obtain ⟨i, q, rfl, h⟩ := atPtr_inv h
  exact k i q h
theorem atBool_mono {v : Value} {K K' : Hid (Bool → Prop)} (h : atBool v (K := K)) (k : ∀ a, K.ap a → K'.ap a) : atBool v (K := K') := by
  obtain ⟨b, rfl, h⟩ := atBool_inv h
  exact k b h
theorem atInt_mono {v : Value} {K K' : Hid (IntKind → Int → Prop)} (h : atInt v (K := K)) (k : ∀ a b, K.ap a b → K'.ap a b) : atInt v (K := K') := by
  obtain ⟨i, q, rfl, h⟩ := atInt_inv h
  exact k i q h
theorem atRow_mono {v : Option IObj} {K K' : Hid (Bool → Nat → List Value → Prop)} (h : atRow v (K := K)) (k : ∀ a b c, K.ap a b c → K'.ap a b c) : atRow v (K := K') := by
  obtain ⟨a, b, c, rfl, h⟩ := atRow_inv h
  exact k a b c h
theorem atRowW_mono {v : Option IObj} {K K' : Hid (Nat → List Value → Prop)} (h : atRowW v (K := K)) (k : ∀ b c, K.ap b c → K'.ap b c) : atRowW v (K := K') := by
  obtain ⟨b, c, rfl, h⟩ := atRowW_inv h
  exact k b c h
theorem atMapO_mono {v : Option IObj} {K K' : Hid (List MapEntry → Nat → Prop)} (h : atMapO v (K := K)) (k : ∀ b c, K.ap b c → K'.ap b c) : atMapO v (K := K') := by
  obtain ⟨b, c, rfl, h⟩ := atMapO_inv h
  exact k b c h
theorem atIf_mono {c : Prop} {K K' : Hid (Unit → Prop)} (h : atIf c (K := K)) (k : K.ap () → K'.ap ()) : atIf c (K := K') := ⟨h.1, k h.2⟩
theorem atAgg_mono {v : Value} {K K' : Hid (Array Value → Prop)} (h : atAgg v (K := K)) (k : ∀ a, K.ap a → K'.ap a) : atAgg v (K := K') := by
  obtain ⟨b, rfl, h⟩ := atAgg_inv h
  exact k b h
theorem atTup_mono {v : Value} {K K' : Hid (Array Value → Prop)} (h : atTup v (K := K)) (k : ∀ a, K.ap a → K'.ap a) : atTup v (K := K') := by
  obtain ⟨b, rfl, h⟩ := atTup_inv h
  exact k b h
theorem jgen_mono {e : XEnv} {o : Oper} {h : IHeap} {K K' : Hid VK} (x : jgen P e o h (K := K)) (k : ∀ v h' c, K.ap v h' c → K'.ap v h' c) : jgen P e o h (K := K') := by
  unfold jgen at *
  split at x
  · exact k _ _ _ x
  · exact x.elim
theorem jlen_mono {t : TypeId} {v : Value} {h : IHeap} {K K' : Hid VK} (x : jlen P t v h (K := K)) (k : ∀ v h' c, K.ap v h' c → K'.ap v h' c) : jlen P t v h (K := K') := by
  unfold jlen at *
  split at x
  · exact atSome_mono x fun a y => k _ _ _ y
  · exact atIf_mono x fun y => k _ _ _ y
  · exact atSome_mono x fun a y => atMapO_mono y fun b c z => k _ _ _ z
  · exact atSome_mono x fun a y => k _ _ _ y
  · exact x.elim
theorem jw_mono {e : XEnv} {o : Oper} {h : IHeap} {op : Op} {K K' : Hid VK} (x : jw P e o h op (K := K)) (k : ∀ v h' c, K.ap v h' c → K'.ap v h' c) : jw P e o h op (K := K') := by
  unfold jw at *
  split at x
  · exact k _ _ _ x
  · exact k _ _ _ x
  · exact atBool_mono x fun a y => k _ _ _ y
  · exact atPtr_mono x fun _ _ y => atRow_mono y fun _ _ _ y => atSome_mono y fun _ y => k _ _ _ y
  · exact atPtr_mono x fun _ _ y => atRowW_mono y fun _ _ y => atSome_mono y fun _ y => atIf_mono y fun y => k _ _ _ y
  · exact atSome_mono x fun a y => k _ _ _ y
  · exact k _ _ _ x
  · exact atPtr_mono x fun _ _ y => atSome_mono y fun _ y => k _ _ _ y
  · refine atInt_mono x fun _ j y => ?_
    simp only [Hid.ap_mk] at y ⊢
    unfold jidx at *
    split at y
    · exact atSome_mono y fun _ y => atIf_mono y fun y => k _ _ _ y
    · exact atSome_mono y fun _ y => atIf_mono y fun y => k _ _ _ y
    · exact y.elim
  · exact atAgg_mono x fun _ y => atSome_mono y fun _ y => atSome_mono y fun _ y => k _ _ _ y
  · exact atTup_mono x fun _ y => atSome_mono y fun _ y => k _ _ _ y
  · exact atSome_mono x fun a y => k _ _ _ y
  · exact atSome_mono x fun a y => k _ _ _ y
  · exact atSome_mono x fun a y => k _ _ _ y
  · exact atSome_mono x fun a y => k _ _ _ y
  · exact atSome_mono x fun a y => k _ _ _ y
  · exact k _ _ _ x
  · unfold jnil at *
    split at x
    · exact k _ _ _ x
    · exact k _ _ _ x
    · exact atIf_mono x fun y => k _ _ _ y
    · exact x.elim
  · unfold jcvt at *
    split at x
    · exact k _ _ _ x
    · exact jgen_mono x k
  · split at x
    · unfold callV at *
      split at x
      · split at x
        · rename_i hok
          rw [if_pos hok]
          exact FN.mono (Q' := ⟨fun v h' => K'.ap v h' .heavy⟩) x fun v h' y => k _ _ _ y
        · rename_i hok
          rw [if_neg hok]
          split at x
          · exact k _ _ _ x
          · exact x.elim
      · exact atIf_mono x fun y => RN.mono y fun v h' z => k _ _ _ z
      · exact x.elim
    · unfold bltW at *
      split at x
      · exact jlen_mono x k
      · exact atSome_mono x fun a y => k _ _ _ y
      · exact atSome_mono x fun a y => k _ _ _ y
      · exact atSome_mono x fun a y => k _ _ _ y
      · exact atSome_mono x fun a y => k _ _ _ y
      · exact atSome_mono x fun a y => k _ _ _ y
      · exact jgen_mono x k
    · exact x.elim
  · exact x.elim
  · exact jgen_mono x k
theorem wops_mono {draw : Bool} {all : Array Oper} {Q Q' : Hid (XEnv → IHeap → Prop)} (k : ∀ e h, Q.ap e h → Q'.ap e h) : ∀ (os : List Oper) (e : XEnv) (h : IHeap) (es : List Ent), wops P draw all os e h es (Q := Q) → wops P draw all os e h es (Q := Q')
  | [], e, h, es, x => ⟨x.1, k _ _ x.2⟩
  | o :: os, e, h, es, x => by
    unfold wops at *
    split
    · rename_i hw
      rw [if_pos hw] at x
      unfold wop at *
      exact jw_mono x fun v h' c y => wops_mono k os _ _ _ y
    · rename_i hw
      rw [if_neg hw] at x
      exact wops_mono k os _ _ _ x
/-- What is asked may be asked of less. -/
theorem WP.mono : ∀ (c : Code) {e : XEnv} {h : IHeap} {Q Q' : Hid XQ}, WP P rd c e h (Q := Q) → (∀ x e' h', Q.ap x e' h' → Q'.ap x e' h') → WP P rd c e h (Q := Q') := by
  intro c
  induction c with
  | region id ops draw => intro e h Q Q' x k; simp only [WP] at *; exact wops_mono (Q := ⟨fun e' h' => Q.ap .normal e' h'⟩) (Q' := ⟨fun e' h' => Q'.ap .normal e' h'⟩) (fun e h y => k _ _ _ y) _ _ _ _ x
  | seq c1 c2 ih1 ih2 =>
    intro e h Q Q' x k
    simp only [WP] at *
    refine ih1 x fun r e' h' y => ?_
    simp only [Hid.ap_mk] at y ⊢
    cases r with
    | normal => exact ih2 y k
    | _ => exact k _ _ _ y
  | cond c c1 c2 ih1 ih2 =>
    intro e h Q Q' x k
    simp only [WP] at *
    exact atBool_mono x fun b y => ⟨fun hb => ih1 (y.1 hb) k, fun hb => ih2 (y.2 hb) k⟩
  | block id c ih => intro e h Q Q' x k; simp only [WP] at *; exact ih x fun r e' h' y => k _ _ _ y
  | scope c ih =>
    intro e h Q Q' x k
    simp only [WP] at *
    refine ih x fun r e' h' y => ?_
    simp only [Hid.ap_mk] at y ⊢
    cases r <;> first | exact y.elim | exact k _ _ _ y
  | loop c ih => intro e h Q Q' x k; simp only [WP] at *; obtain ⟨r, e', h', a, b⟩ := x; exact ⟨r, e', h', a, k _ _ _ b⟩
  | rangeFunc g ps assign body ih1 ih2 => intro e h Q Q' x k; simp only [WP] at *; obtain ⟨r, e', h', a, b⟩ := x; exact ⟨r, e', h', a, k _ _ _ b⟩
  | skip => intro e h Q Q' x k; simp only [WP] at *; exact k _ _ _ x
  | label => intro e h Q Q' x k; simp only [WP] at *; exact k _ _ _ x
  | exit => intro e h Q Q' x k; simp only [WP] at *; exact k _ _ _ x
  | goto => intro e h Q Q' x k; simp only [WP] at *; exact k _ _ _ x
  | ret => intro e h Q Q' x k; simp only [WP] at *; exact k _ _ _ x
  | _ => intro e h Q Q' x k; simp only [WP] at x
/-- A piece of code, cut: what it comes to, then what comes behind. -/
theorem WP.cut {c : Code} {e : XEnv} {h : IHeap} {Q : Hid XQ} (R : XEnv → IHeap → Prop) (x : WP P rd c e h (Q := ⟨fun r e' h' => r = .normal ∧ R e' h'⟩)) (k : ∀ e' h', R e' h' → Q.ap .normal e' h') : WP P rd c e h (Q := Q) :=
  WP.mono c x fun r e' h' y => by
    obtain ⟨rfl, y⟩ := y
    exact k e' h' y
end mono

section range
variable {P : Program} {rd : Option Nat}
/-- How a range over a function ends. -/
def rngQ (Q : Hid XQ) (e : XEnv) (l : Nat) (mk : Nat) (h3 : IHeap) : Prop :=
  ∃ L3, h3.get l = some (.loop L3) ∧ L3.state ≠ .busy ∧ ∃ x, xpend L3.pending = some x ∧ Q.ap x { e with dfr := markOf mk :: e.dfr } (h3.set l (.loop { L3 with state := .exhausted }))
theorem WPR.intro {g : Operand} {ps : Array Tmp} {assign body : Code} {e : XEnv} {h : IHeap} {Q : Hid XQ} {f : FuncId} {fs cs : Array Value} (hok : operandOk g = true) (hg : e.ev g = .func (.func f) fs cs) (hf : fnB P f = true)
    (hx : FN P f (fs ++ #[.func (.yield (h.size + 1)) #[] #[]] ++ cs) ((h.push .defs).push (.loop (newLoopE e ps assign body h.size))) (Q := ⟨fun _ h3 => rngQ Q e (h.size + 1) h.size h3⟩)) : WPR P none g ps assign body e h (Q := Q) := by
  obtain ⟨fn, c0, e1, e2, e3, e4⟩ := fnB_inv hf
  obtain ⟨v, h3, hc, L3, g3, hst, x, hp, hq⟩ := hx
  have hnl : newLoopE e ps assign body h.size = newLoop e.act ps assign body h.size := rfl
  rw [hnl] at hc
  have hge : e.act.eval g = .func (.func f) fs cs := by rw [XEnv.act_eval]; exact hg
  exact ⟨x, _, _, IExec.rangeFunc (e := x) (a' := { e with dfr := markOf h.size :: e.dfr }.act) hok hge e1 e2 (by rw [e3]; rfl) hc g3 hst rfl (xpend_ok hp), hq⟩

/-- The frame at a round's begin. -/
def roundE (L : Loop) (args : Array Value) : XEnv := bindE (L.params.zip args).toList (envOf L.tmps.toList L.tmps.toList.length)
theorem roundE_act (L : Loop) (args : Array Value) : { tmps := (L.params.zip args).foldl (fun tmps (t, x) => tmps.setIfInBounds t x) L.tmps, defers := [] } = (roundE L args).act := by
  have h1 := envOf_rel L.tmps.toList 0
  simp only [Nat.add_zero, List.replicate_zero, List.append_nil, Array.toArray_toList] at h1
  have h2 := bindE_rel (L.params.zip args).toList h1
  rw [← Array.foldl_toList]
  exact h2.act_eq
/-- What is asked behind a round's body. -/
def bodyQ (l : Nat) (Q : Hid VQ) (x : Exit) (e : XEnv) (h2 : IHeap) : Prop :=
  ∃ L2, h2.get l = some (.loop L2) ∧ (match x with
    | .normal => Q.ap (.bool true) (h2.set l (.loop { L2 with state := .ready, pending := none }))
    | .ret => Q.ap (.bool false) (h2.set l (.loop { L2 with state := .done, pending := some .ret }))
    | .exit id => Q.ap (.bool false) (h2.set l (.loop { L2 with state := .done, pending := some (.exit id) }))
    | .goto t => Q.ap (.bool false) (h2.set l (.loop { L2 with state := .done, pending := some (.goto t) }))
    | _ => False)
def assignQ (P : Program) (l : Nat) (body : Code) (Q : Hid VQ) (x : Exit) (e1 : XEnv) (h1 : IHeap) : Prop :=
  x = .normal ∧ ∃ L1, h1.get l = some (.loop L1) ∧ L1.state = .ready ∧ WP P (some l) body e1 (h1.set l (.loop { L1 with state := .busy })) (Q := ⟨bodyQ l Q⟩)
theorem RN.intro (hm : P.follows .mixedOrders = true) {l : Nat} {args : Array Value} {h : IHeap} {Q : Hid VQ} {L : Loop} (hg : h.get l = some (.loop L)) (hsz : args.size = L.params.size) (ha : codeOk L.assign = true) (hb : codeOk L.body = true)
    (hx : WP P (some l) L.assign (roundE L args) h (Q := ⟨assignQ P l L.body Q⟩)) : RN P l args h (Q := Q) := by
  obtain ⟨x, e1, h1, g1, rfl, L1, g2, g3, g4⟩ := WP_ok hm _ _ _ _ ha hx
  obtain ⟨x, e2, h2, g5, L2, g6, g7⟩ := WP_ok hm _ _ _ _ hb g4
  rw [← roundE_act] at g1
  have gb : Grow h1 (h1.set l (.loop { L1 with state := .busy })) := Grow.set g2 rfl (by simp)
  have mk : ∀ j, Jump x j → Q.ap (.bool j.isNone) (h2.set l (.loop { L2 with state := if j.isNone then .ready else .done, pending := j })) → RN P l args h (Q := Q) := by
    intro j hj hq
    exact ⟨_, _, ⟨g1.grow.trans (gb.trans (g5.grow.trans (Grow.set g6 rfl (by simp)))), L, e1.act, h1, L1, x, e2.act, h2, L2, j, hg, hsz, g1, g2, g3, g5, g6, hj, rfl, rfl⟩, hq⟩
  cases x with
  | normal => exact mk none rfl g7
  | ret => exact mk (some .ret) rfl g7
  | exit id => exact mk (some (.exit id)) rfl g7
  | goto t => exact mk (some (.goto t)) rfl g7
  | _ => exact g7.elim
end range
end Go.Proofs.Ytmobpbhbllhdcaa.Ideal
end
noncomputable section
namespace Go.Proofs.Ytmobpbhbllhdcaa.Ideal
open Go.RowKit
set_option linter.unusedVariables false
set_option linter.unusedSimpArgs false
set_option linter.unnecessarySimpa false

variable {P : Program} {rd : Option Nat} {draw : Bool} {all : Array Oper} {os : List Oper} {e : XEnv} {h : IHeap}
/-- A value if there is one, else what the model's own text says. -/
def jopt (o : Option (Value × Kind)) [R : Hid Prop] [K : Hid (Value → Kind → Prop)] : Prop := match o with | some v => K.ap v.1 v.2 | none => R.ap
theorem jopt_some (v : Value × Kind) [R : Hid Prop] [K : Hid (Value → Kind → Prop)] : jopt (some v) = K.ap v.1 v.2 := byEq rfl
/-- An array's first elements. -/
def arrCut (P : Program) (t : TypeId) (x y : Value) : Option (Value × Kind) := match x, y with
  | .pointer (some ⟨i, q, none⟩), .int _ n => (match arrOf P t with
    | some (N, s) => if 0 ≤ n ∧ n ≤ N ∧ N ≠ 0 then some (.slice (some ⟨i, q, none⟩) n.toNat N, .pure) else none
    | none => none)
  | _, _ => none
theorem arrCut_eq (t : TypeId) (i q N s : Nat) (k : IntKind) (n : Int) (ha : arrOf P t = some (N, s)) (h0 : 0 ≤ n) (h1 : n ≤ N) (h2 : N ≠ 0) : arrCut P t (.pointer (some ⟨i, q, none⟩)) (.int k n) = some (.slice (some ⟨i, q, none⟩) n.toNat N, .pure) := by
  simp [arrCut, ha, h0, h1, h2]
/-- Bytes as a string. -/
def bytesStr (P : Program) (h : IHeap) (s t : TypeId) (x : Value) : Option (Value × Kind) := match x, P.underlying s, P.underlying t with
  | .slice (some ⟨i, q, none⟩) n _, some (.slice te), some .string => if isU8 P te = true ∧ n ≠ 0 then (match h.get i with
    | some (.row _ _ cs) => (match slots cs q n with
      | some vs => (match intsOf vs with
        | some m => some (.string (strOf m), .read i)
        | none => none)
      | none => none)
    | _ => none) else none
  | _, _, _ => none
theorem bytesStr_eq {s t te : TypeId} {i q n c : Nat} {ro : Bool} {esz : Nat} {cs vs : List Value} {m : List Int} (hs : P.underlying s = some (.slice te)) (ht : P.underlying t = some .string) (hu : isU8 P te = true) (hn : n ≠ 0) (hg : h.get i = some (.row ro esz cs)) (hv : slots cs q n = some vs) (hm : intsOf vs = some m) :
    bytesStr P h s t (.slice (some ⟨i, q, none⟩) n c) = some (.string (strOf m), .read i) := by
  simp [bytesStr, hs, ht, hu, hn, hg, hv, hm]
variable (d : Option Tmp) (ty : TypeId) (p : String) (af : Array Edge) (g : Option (Nat × Bool))
variable [Q : Hid (XEnv → IHeap → Prop)] [E : Hid (List Ent)]
theorem wdo_arrCut (t : TypeId) (x y : Operand) : wdo P draw all ⟨d, .slice t x none (some y) none, ty, p, af, g⟩ os e h = jopt (arrCut P t (e.ev x) (e.ev y)) (R := ⟨jgen P e ⟨d, .slice t x none (some y) none, ty, p, af, g⟩ h (K := ⟨fun v h' k => wnx P draw all os e d h v h' k⟩)⟩) (K := ⟨fun v k => wnx P draw all os e d h v h k⟩) := by
  have e1 : wdo P draw all ⟨d, .slice t x none (some y) none, ty, p, af, g⟩ os e h = jgen P e ⟨d, .slice t x none (some y) none, ty, p, af, g⟩ h (K := ⟨fun v h' k => wnx P draw all os e d h v h' k⟩) := byEq rfl
  rw [e1]
  unfold jopt
  split
  · rename_i r hr
    unfold arrCut at hr
    split at hr
    · rename_i i q k n hx hy
      split at hr
      · rename_i N s ha
        split at hr
        · rename_i hc
          obtain ⟨h0, h1, h2⟩ := hc
          cases hr
          have hb : bounds N N (none : Option Value) (some (.int k n)) none = some (0, n.toNat, N) := by
            have : n.toNat ≤ N := by omega
            simp [bounds, bnd, h0, h1, this]
          have hne : (N == 0) = false := by simpa using h2
          simp [jgen, iop, islice, hx, hy, ipure, ha, hb, cutAddr, hne, kindOf, Hid.ap_mk]
        · cases hr
      · cases hr
    · cases hr
  · simp [Hid.ap_mk]
theorem wdo_bytesStr (s t : TypeId) (x : Operand) : wdo P draw all ⟨d, .convert s t x, ty, p, af, g⟩ os e h = jopt (bytesStr P h s t (e.ev x)) (R := ⟨jcvt P e ⟨d, .convert s t x, ty, p, af, g⟩ h (e.ev x) (P.underlying s) (P.underlying t) (K := ⟨fun v h' k => wnx P draw all os e d h v h' k⟩)⟩) (K := ⟨fun v k => wnx P draw all os e d h v h k⟩) := by
  rw [wdo_convert]
  unfold jopt
  split
  · rename_i r hr
    unfold bytesStr at hr
    split at hr
    · rename_i i q n c te hx hs ht
      split at hr
      · rename_i hc
        split at hr
        · rename_i ro esz cs hg
          split at hr
          · rename_i vs hv
            split at hr
            · rename_i m hm
              cases hr
              simp [jcvt, hx, hs, ht, jgen, iop, icvt, hc.1, hc.2, hg, hv, hm, kindOf, Hid.ap_mk]
            · cases hr
          · cases hr
        · cases hr
      · cases hr
    · cases hr
  · simp [Hid.ap_mk]
end Go.Proofs.Ytmobpbhbllhdcaa.Ideal
end
