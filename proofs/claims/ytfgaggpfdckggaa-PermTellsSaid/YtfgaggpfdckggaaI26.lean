/- Contracts by weakest conditions: what comes up on the way, in the form that simp takes. -/
import Derived.Test.YtfgaggpfdckggaaI25
noncomputable section
namespace Go.Proofs.Ytfgaggpfdckggaa.Ideal
open Go.RowKit
set_option linter.unusedVariables false
set_option linter.unusedSimpArgs false
set_option linter.unnecessarySimpa false

theorem xput_get (e : XEnv) (d : Nat) (v : Value) (t : Nat) : (e.put (some d) v).get t = if t < e.n then (if d = t then v else e.get t) else undef := by
  rw [XEnv.get_def, XEnv.get_def]
  unfold XEnv.put
  dsimp only
  rw [Trie.get_set _ _ _ _ _ _ _ (Nat.le_refl _) (Nat.le_refl _)]
  by_cases h : t < e.n
  · simp only [if_pos h]
  · simp only [if_neg h]
theorem put_n (e : XEnv) (d : Option Nat) (v : Value) : (e.put d v).n = e.n := by cases d <;> rfl
theorem put_dfr (e : XEnv) (d : Option Nat) (v : Value) : (e.put d v).dfr = e.dfr := by cases d <;> rfl
theorem put_none (e : XEnv) (v : Value) : e.put none v = e := byEq rfl

theorem Trie.set_same {α : Type} (d : α) : ∀ (f f' : Nat) (t : Trie α) (i : Nat) (a b : α), i ≤ f → i ≤ f' → Trie.set d f (Trie.set d f' t i a) i b = Trie.set d f t i b
  | 0, 0, t, i, a, b, hf, hf' => rfl
  | 0, f' + 1, t, i, a, b, hf, hf' => by
    have : i = 0 := by omega
    subst this
    rfl
  | f + 1, 0, t, i, a, b, hf, hf' => by
    have : i = 0 := by omega
    subst this
    rfl
  | f + 1, f' + 1, t, i, a, b, hf, hf' => by
    by_cases h : i = 0
    · subst h; rfl
    · by_cases p : i % 2 = 1
      · simp only [Trie.set, if_neg h, if_pos p, Trie.lft, Trie.rgt, Trie.val]
        rw [Trie.set_same d f f' _ _ _ _ (by omega) (by omega)]
      · simp only [Trie.set, if_neg h, if_neg p, Trie.lft, Trie.rgt, Trie.val]
        rw [Trie.set_same d f f' _ _ _ _ (by omega) (by omega)]
theorem Trie.set_comm {α : Type} (d : α) : ∀ (f f' : Nat) (t : Trie α) (i j : Nat) (a b : α), i ≤ f → j ≤ f' → i ≠ j → Trie.set d f' (Trie.set d f t i a) j b = Trie.set d f (Trie.set d f' t j b) i a
  | 0, 0, t, i, j, a, b, hf, hf', hij => by omega
  | 0, f' + 1, t, i, j, a, b, hf, hf', hij => by
    have : i = 0 := by omega
    subst this
    have hj : ¬ j = 0 := fun e => hij e.symm
    by_cases p : j % 2 = 1 <;> simp [Trie.set, Trie.lft, Trie.rgt, Trie.val, hj, p]
  | f + 1, 0, t, i, j, a, b, hf, hf', hij => by
    have : j = 0 := by omega
    subst this
    by_cases p : i % 2 = 1 <;> simp [Trie.set, Trie.lft, Trie.rgt, Trie.val, hij, p]
  | f + 1, f' + 1, t, i, j, a, b, hf, hf', hij => by
    by_cases h : i = 0
    · subst h
      have hj : ¬ j = 0 := fun e => hij e.symm
      by_cases p : j % 2 = 1 <;> simp [Trie.set, Trie.lft, Trie.rgt, Trie.val, hj, p]
    · by_cases h' : j = 0
      · subst h'
        by_cases p : i % 2 = 1 <;> simp [Trie.set, Trie.lft, Trie.rgt, Trie.val, hij, p]
      · by_cases p : i % 2 = 1 <;> by_cases q : j % 2 = 1
        · simp only [Trie.set, if_neg h, if_neg h', if_pos p, if_pos q, Trie.lft, Trie.rgt, Trie.val]
          rw [Trie.set_comm d f f' _ _ _ _ _ (by omega) (by omega) (by omega)]
        · simp only [Trie.set, if_neg h, if_neg h', if_pos p, if_neg q, Trie.lft, Trie.rgt, Trie.val]
        · simp only [Trie.set, if_neg h, if_neg h', if_neg p, if_pos q, Trie.lft, Trie.rgt, Trie.val]
        · simp only [Trie.set, if_neg h, if_neg h', if_neg p, if_neg q, Trie.lft, Trie.rgt, Trie.val]
          rw [Trie.set_comm d f f' _ _ _ _ _ (by omega) (by omega) (by omega)]
/-! A heap that is written is brought to one form: what is made stands outermost, each block is written once. -/
theorem IHeap.set_set (h : IHeap) (i : Nat) (a b : IObj) : (h.set i a).set i b = h.set i b := by
  unfold IHeap.set
  dsimp only
  rw [Trie.set_same _ _ _ _ _ _ _ (Nat.le_refl _) (Nat.le_refl _)]
theorem IHeap.set_push {h : IHeap} {i : Nat} (a b : IObj) (hi : i < h.size) : (h.push a).set i b = (h.set i b).push a := by
  unfold IHeap.set IHeap.push
  dsimp only
  rw [Trie.set_comm _ _ _ _ _ _ _ _ (Nat.le_refl _) (Nat.le_refl _) (by omega)]
theorem IHeap.set_pushed {h : IHeap} {i : Nat} (a b : IObj) (hi : i = h.size) : (h.push a).set i b = h.push b := by
  subst hi
  unfold IHeap.set IHeap.push
  dsimp only
  rw [Trie.set_same _ _ _ _ _ _ _ (Nat.le_refl _) (Nat.le_refl _)]
theorem IHeap.set_comm {h : IHeap} {i j : Nat} (a b : IObj) (hij : i ≠ j) : (h.set i a).set j b = (h.set j b).set i a := by
  unfold IHeap.set
  dsimp only
  rw [Trie.set_comm _ _ _ _ _ _ _ _ (Nat.le_refl _) (Nat.le_refl _) hij]
theorem IHeap.set_set3 {h : IHeap} {i j : Nat} (a b c : IObj) (hij : i ≠ j) : ((h.set i a).set j b).set i c = (h.set i c).set j b := by
  rw [IHeap.set_comm _ _ (Ne.symm hij), IHeap.set_set]
theorem IHeap.size_set' (h : IHeap) (i : Nat) (o : IObj) : (h.set i o).size = h.size := byEq rfl
theorem IHeap.size_push' (h : IHeap) (o : IObj) : (h.push o).size = h.size + 1 := byEq rfl
theorem IHeap.get_set_same {h : IHeap} {i : Nat} (o : IObj) (hi : i < h.size) : (h.set i o).get i = some o := by rw [IHeap.get_set _ _ _ _ hi, if_pos rfl]
theorem IHeap.get_set_ne {h : IHeap} {i j : Nat} (o : IObj) (hij : i ≠ j) : (h.set i o).get j = h.get j := by
  rw [IHeap.get_def, IHeap.get_def]
  unfold IHeap.set
  dsimp only
  rw [Trie.get_set _ _ _ _ _ _ _ (Nat.le_refl _) (Nat.le_refl _), if_neg hij]
theorem IHeap.get_push_same (h : IHeap) (o : IObj) : (h.push o).get h.size = some o := by rw [IHeap.get_push, if_pos rfl]
theorem IHeap.get_pushed {h : IHeap} {i : Nat} (o : IObj) (hi : i = h.size) : (h.push o).get i = some o := by rw [IHeap.get_push, if_pos hi]
theorem IHeap.get_push_ne {h : IHeap} {j : Nat} (o : IObj) (hj : j ≠ h.size) : (h.push o).get j = h.get j := by rw [IHeap.get_push, if_neg hj]

/-- A row with some cells written. -/
theorem splice_one {cs : List Value} {q : Nat} (v : Value) (hq : q < cs.length) : splice cs q [v] = cs.set q v := by
  apply List.ext_getElem?
  intro i
  rw [splice_get (by simp; omega), List.getElem?_set]
  by_cases h : q = i
  · subst h; simp [hq]
  · rw [if_neg h, if_neg (by simp; omega)]
theorem splice_all {cs vs : List Value} (h : cs.length = vs.length) : splice cs 0 vs = vs := by
  unfold splice
  simp [h]
theorem slots_all {cs : List Value} {n : Nat} (h : cs.length = n) : slots cs 0 n = some cs := by
  subst h
  simp [slots]

/-- What lay in h lies in h' as it lay, but for L. -/
def getU : List (Nat × IObj) → IHeap → Nat → Option IObj
  | [], h, i => h.get i
  | (p, o) :: L, h, i => if i = p then some o else getU L h i
structure Fr (h h' : IHeap) (L : List (Nat × IObj)) : Prop where
  size : h.size ≤ h'.size
  get : ∀ i, i < h.size → h'.get i = getU L h i
theorem getU_nil (h : IHeap) (i : Nat) : getU [] h i = h.get i := byEq rfl
theorem getU_same {L : List (Nat × IObj)} {h : IHeap} {i p : Nat} (o : IObj) (hi : i = p) : getU ((p, o) :: L) h i = some o := by simp [getU, hi]
theorem getU_ne {L : List (Nat × IObj)} {h : IHeap} {i p : Nat} (o : IObj) (hi : i ≠ p) : getU ((p, o) :: L) h i = getU L h i := by simp [getU, hi]
theorem Fr.refl (h : IHeap) : Fr h h [] := ⟨Nat.le_refl _, fun _ _ => rfl⟩
theorem Fr.push {h h' : IHeap} {L : List (Nat × IObj)} (f : Fr h h' L) (o : IObj) : Fr h (h'.push o) L :=
  ⟨by have := f.size; simp; omega, fun i hi => by rw [IHeap.get_push_ne _ (by have := f.size; omega)]; exact f.get i hi⟩
theorem Fr.set_new {h h' : IHeap} {L : List (Nat × IObj)} (f : Fr h h' L) {i : Nat} (o : IObj) (hi : h.size ≤ i) : Fr h (h'.set i o) L :=
  ⟨f.size, fun j hj => by rw [IHeap.get_set_ne _ (by omega)]; exact f.get j hj⟩
theorem Fr.set {h h' : IHeap} {L : List (Nat × IObj)} (f : Fr h h' L) {i : Nat} (o : IObj) (hi : i < h.size) : Fr h (h'.set i o) ((i, o) :: L) :=
  ⟨f.size, fun j hj => by
    by_cases e : i = j
    · subst e; rw [IHeap.get_set_same _ (by have := f.size; omega)]; simp [getU]
    · rw [IHeap.get_set_ne _ e, f.get j hj]; simp [getU, Ne.symm e]⟩
theorem Fr.trans {h h' h'' : IHeap} {L L' : List (Nat × IObj)} (f : Fr h h' L) (g : Fr h' h'' L') : Fr h h'' (L' ++ L) := by
  refine ⟨Nat.le_trans f.size g.size, fun i hi => ?_⟩
  rw [g.get i (Nat.lt_of_lt_of_le hi f.size)]
  clear g
  induction L' with
  | nil => exact f.get i hi
  | cons x L' ih => obtain ⟨p, o⟩ := x; simp only [getU, List.cons_append, ih]
theorem Fr.same {h h' : IHeap} {L L' : List (Nat × IObj)} (f : Fr h h' L) (hl : ∀ i, i < h.size → getU L h i = getU L' h i) : Fr h h' L' := ⟨f.size, fun i hi => by rw [f.get i hi, hl i hi]⟩
theorem Fr.lt {h h' : IHeap} {L : List (Nat × IObj)} (f : Fr h h' L) {i : Nat} (hi : i < h.size) : i < h'.size := Nat.lt_of_lt_of_le hi f.size

/-- A contract that tells what comes out. -/
theorem ICall.of_FN {P : Program} {g : FuncId} {args : Array Value} {h h' : IHeap} {v : Value} (x : FN P g args h (Q := ⟨fun v' h2 => v' = v ∧ h2 = h'⟩)) : ICall P g args h v h' := by
  obtain ⟨v', h2, hc, rfl, rfl⟩ := x
  exact hc
theorem FN.of {P : Program} {g : FuncId} {args : Array Value} {h h' : IHeap} {v : Value} {Q : Hid VQ} (x : ICall P g args h v h') (k : Q.ap v h') : FN P g args h (Q := Q) := ⟨v, h', x, k⟩
/-- The values that a call tells, and what it leaves: new blocks, and L. -/
def CT (P : Program) (g : FuncId) (args : Array Value) (h : IHeap) (v : Value) (L : List (Nat × IObj)) : Prop := FN P g args h (Q := ⟨fun v' h' => v' = v ∧ Fr h h' L⟩)
theorem FN.ct {P : Program} {g : FuncId} {args : Array Value} {h : IHeap} {v : Value} {L : List (Nat × IObj)} {Q : Hid VQ} (x : CT P g args h v L) (k : ∀ h', Fr h h' L → Q.ap v h') : FN P g args h (Q := Q) := by
  obtain ⟨v', h', hc, rfl, hf⟩ := x
  exact ⟨v', h', hc, k h' hf⟩

/-- From the frame's first temporaries on. -/
theorem FN.enter {P : Program} (hm : P.follows .mixedOrders = true) {g : FuncId} {fn : Func} {c : Code} {args : Array Value} {h : IHeap} {Q : Hid VQ} (hf : P.funcs[g]? = some fn) (hb : fn.body = some c) (hok : codeOk c = true)
    (hx : ∀ e : XEnv, e.n = args.toList.length + (fn.ntmps - args.toList.length) → (∀ t, t < e.n → e.get t = args.toList.getD t undef) → e.dfr = [] → WP P none c e h (Q := ⟨FinQ P fn.results.toList Q.ap⟩)) : FN P g args h (Q := Q) := by
  refine FN.intro hm hf hb hok (hx _ rfl (fun t ht => ?_) rfl)
  have ht' : t < args.toList.length + (fn.ntmps - args.toList.length) := ht
  rw [XEnv.get_def, if_pos ht]
  unfold startE envOf
  dsimp only
  rw [treeOf_get, leaf_get]
  simp only [Nat.zero_add, Nat.zero_le, true_and, Nat.sub_zero]
  by_cases h2 : t < args.toList.length
  · rw [if_pos h2]
  · rw [if_neg h2, List.getD_eq_getElem?_getD, List.getElem?_eq_none (by omega)]
    rfl

theorem IHeap.get_set_if (h : IHeap) (i j : Nat) (o : IObj) : (h.set i o).get j = if i = j then (if i < h.size then some o else none) else h.get j := by
  by_cases e : i = j
  · subst e
    rw [if_pos rfl]
    by_cases hi : i < h.size
    · rw [if_pos hi, IHeap.get_set_same _ hi]
    · rw [if_neg hi]; exact IHeap.get_none (by simpa using hi)
  · rw [if_neg e, IHeap.get_set_ne _ e]
/-- What a result's place tells. -/
def finD (P : Program) (rs : List ResultVar) (Q : VQ) (ds : List Deferred) (e : XEnv) (h : IHeap) : Prop :=
  match marksOf ds with
    | some bs => (match closeMarks bs h with
      | some h2 => (match iresultsE P e.get h2 rs with
        | some v => Q v h2
        | none => False)
      | none => False)
    | none => False
theorem finD_nil {P : Program} {rs : List ResultVar} {Q : VQ} {e : XEnv} {h : IHeap} : finD P rs Q [] e h = atSome (iresultsE P e.get h rs) (K := ⟨fun v => Q v h⟩) := by
  simp only [finD, marksOf, closeMarks]
  cases iresultsE P e.get h rs <;> rfl
theorem finQ_n {P : Program} {rs : List ResultVar} {Q : VQ} {e : XEnv} {h : IHeap} : FinQ P rs Q .normal e h = finD P rs Q e.dfr e h := byEq rfl
theorem finQ_r {P : Program} {rs : List ResultVar} {Q : VQ} {e : XEnv} {h : IHeap} : FinQ P rs Q .ret e h = finD P rs Q e.dfr e h := byEq rfl

theorem finQ_normal {P : Program} {rs : List ResultVar} {Q : VQ} {e : XEnv} {h : IHeap} (hd : e.dfr = []) : FinQ P rs Q .normal e h = atSome (iresultsE P e.get h rs) (K := ⟨fun v => Q v h⟩) := by
  simp only [FinQ, hd, marksOf, closeMarks]
  cases iresultsE P e.get h rs <;> rfl
theorem finQ_ret {P : Program} {rs : List ResultVar} {Q : VQ} {e : XEnv} {h : IHeap} (hd : e.dfr = []) : FinQ P rs Q .ret e h = atSome (iresultsE P e.get h rs) (K := ⟨fun v => Q v h⟩) := by
  simp only [FinQ, hd, marksOf, closeMarks]
  cases iresultsE P e.get h rs <;> rfl
theorem ires_nil (P : Program) (get : Nat → Value) (h : IHeap) : iresultsE P get h [] = some (.tuple #[]) := byEq rfl
theorem ires_one (P : Program) (get : Nat → Value) (h : IHeap) (r : ResultVar) : iresultsE P get h [r] = ires1E P get h r := by
  simp only [iresultsE, List.mapM_cons, List.mapM_nil]
  cases ires1E P get h r <;> rfl
theorem ires_two (P : Program) (get : Nat → Value) (h : IHeap) (r s : ResultVar) : iresultsE P get h [r, s] = (ires1E P get h r).bind fun a => (ires1E P get h s).map fun b => .tuple #[a, b] := by
  simp only [iresultsE, List.mapM_cons, List.mapM_nil]
  cases ires1E P get h r <;> cases ires1E P get h s <;> rfl
theorem ires_three (P : Program) (get : Nat → Value) (h : IHeap) (r s t : ResultVar) : iresultsE P get h [r, s, t] = (ires1E P get h r).bind fun a => (ires1E P get h s).bind fun b => (ires1E P get h t).map fun c => .tuple #[a, b, c] := by
  simp only [iresultsE, List.mapM_cons, List.mapM_nil]
  cases ires1E P get h r <;> cases ires1E P get h s <;> cases ires1E P get h t <;> rfl
/-- The kind's bounds. -/
theorem wrap64 {n : Int} (h1 : -9223372036854775808 ≤ n) (h2 : n < 9223372036854775808) : IntKind.i64.wrap n = n := by
  have e : IntKind.i64.wrap n = (if decide (n % 18446744073709551616 ≥ 9223372036854775808) = true then n % 18446744073709551616 - 18446744073709551616 else n % 18446744073709551616) := byEq rfl
  rw [e]
  split <;> rename_i hd <;> simp only [decide_eq_true_eq] at hd <;> omega
theorem wrapU64 {n : Int} (h1 : 0 ≤ n) (h2 : n < 18446744073709551616) : IntKind.u64.wrap n = n := by
  have e : IntKind.u64.wrap n = n % 18446744073709551616 := byEq rfl
  rw [e]; omega
theorem wrapU8 {n : Int} (h1 : 0 ≤ n) (h2 : n < 256) : IntKind.u8.wrap n = n := by
  have e : IntKind.u8.wrap n = n % 256 := byEq rfl
  rw [e]; omega
theorem wrapU16 {n : Int} (h1 : 0 ≤ n) (h2 : n < 65536) : IntKind.u16.wrap n = n := by
  have e : IntKind.u16.wrap n = n % 65536 := byEq rfl
  rw [e]; omega
theorem wrapU32 {n : Int} (h1 : 0 ≤ n) (h2 : n < 4294967296) : IntKind.u32.wrap n = n := by
  have e : IntKind.u32.wrap n = n % 4294967296 := byEq rfl
  rw [e]; omega
end Go.Proofs.Ytfgaggpfdckggaa.Ideal
