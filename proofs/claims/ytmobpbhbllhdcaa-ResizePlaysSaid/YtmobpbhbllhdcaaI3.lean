/- The ideal heap: I1, I2, I3. The ideal heap: a memory whose blocks have numbers of their own; what it means that a world bears it. -/
import Derived.RangeFuncLeaves
import Derived.OrdersIn
import Derived.KernelRfl
import Derived.Calls
noncomputable section
namespace Go.Proofs.Ytmobpbhbllhdcaa.Ideal
set_option linter.unusedVariables false
set_option linter.unusedSimpArgs false
set_option linter.unnecessarySimpa false

/-- A block of the ideal heap. A row's cells; esz: the size of what is appended to it; ro: it is not ours to write. -/
inductive IObj where
  | row (ro : Bool) (esz : Nat) (cs : List Value)
  | map (es : List MapEntry) (clock : Nat)
  | loop (l : Loop)
  | defs
  | iter (m : Option Nat) (since : Nat) (seen : Array Nat) (last : Nat)
  | dead
  deriving Inhabited

def IObj.isRo : IObj → Bool
  | .row ro _ _ => ro
  | _ => false

inductive Trie (α : Type) where
  | leaf
  | node (l : Trie α) (v : α) (r : Trie α)
  deriving Inhabited

def Trie.lft {α : Type} : Trie α → Trie α | .leaf => .leaf | .node l _ _ => l
def Trie.rgt {α : Type} : Trie α → Trie α | .leaf => .leaf | .node _ _ r => r
def Trie.val {α : Type} (d : α) : Trie α → α | .leaf => d | .node _ v _ => v
def Trie.get {α : Type} (d : α) : Nat → Trie α → Nat → α
  | 0, t, _ => t.val d
  | f + 1, t, k => if k = 0 then t.val d else if k % 2 = 1 then Trie.get d f t.lft (k / 2) else Trie.get d f t.rgt (k / 2 - 1)
def Trie.set {α : Type} (d : α) : Nat → Trie α → Nat → α → Trie α
  | 0, t, _, o => .node t.lft o t.rgt
  | f + 1, t, k, o => if k = 0 then .node t.lft o t.rgt else if k % 2 = 1 then .node (Trie.set d f t.lft (k / 2) o) (t.val d) t.rgt else .node t.lft (t.val d) (Trie.set d f t.rgt (k / 2 - 1) o)

theorem Trie.get_set {α : Type} (d : α) : ∀ (f f' : Nat) (t : Trie α) (i j : Nat) (o : α), i ≤ f → j ≤ f' → Trie.get d f' (Trie.set d f t i o) j = if i = j then o else Trie.get d f' t j
  | 0, 0, t, i, j, o, hi, hj => by
    have : i = j := by omega
    simp [Trie.get, Trie.set, Trie.val, this]
  | 0, f' + 1, t, i, j, o, hi, hj => by
    have : i = 0 := by omega
    subst this
    by_cases h : j = 0
    · subst h; simp [Trie.get, Trie.set, Trie.val]
    · have h' : ¬ 0 = j := fun e => h e.symm
      simp [Trie.get, Trie.set, Trie.lft, Trie.rgt, h, h']
  | f + 1, 0, t, i, j, o, hi, hj => by
    have : j = 0 := by omega
    subst this
    by_cases h : i = 0
    · subst h; simp [Trie.get, Trie.set, Trie.val]
    · by_cases p : i % 2 = 1 <;> simp [Trie.get, Trie.set, Trie.val, h, p]
  | f + 1, f' + 1, t, i, j, o, hi, hj => by
    by_cases h : i = 0
    · subst h
      by_cases h' : j = 0
      · subst h'; simp [Trie.get, Trie.set, Trie.val]
      · have h'' : ¬ 0 = j := fun e => h' e.symm
        simp [Trie.get, Trie.set, Trie.lft, Trie.rgt, h', h'']
    · by_cases h' : j = 0
      · subst h'
        by_cases p : i % 2 = 1 <;> simp [Trie.get, Trie.set, Trie.val, h, p]
      · simp only [Trie.get, Trie.set, if_neg h, if_neg h']
        by_cases p : i % 2 = 1 <;> by_cases q : j % 2 = 1
        · simp only [if_pos p, if_pos q, Trie.lft]
          rw [Trie.get_set d f f' _ _ _ _ (by omega) (by omega)]
          by_cases e : i = j
          · simp [e]
          · rw [if_neg e, if_neg (by omega)]
        · simp only [if_pos p, if_neg q, Trie.rgt]
          rw [if_neg (by omega)]
        · simp only [if_neg p, if_pos q, Trie.lft]
          rw [if_neg (by omega)]
        · simp only [if_neg p, if_neg q, Trie.rgt]
          rw [Trie.get_set d f f' _ _ _ _ (by omega) (by omega)]
          by_cases e : i = j
          · simp [e]
          · rw [if_neg e, if_neg (by omega)]

theorem Trie.get_leaf {α : Type} (d : α) : ∀ (f i : Nat), Trie.get d f .leaf i = d
  | 0, _ => rfl
  | f + 1, i => by
    unfold Trie.get
    split
    · rfl
    · split <;> exact Trie.get_leaf d f _
/-! The same two, for the kernel: by the recursor, on bare numbers; what is laid down is laid out. -/
def oddB (i : Nat) : Bool := Nat.beq (Nat.land i (nat_lit 1)) (nat_lit 1)
theorem oddB_eq (i : Nat) : oddB i = decide (i % 2 = 1) := by
  unfold oddB
  have : Nat.land i 1 = i % 2 := Nat.and_one_is_mod i
  rw [show Nat.land i (nat_lit 1) = i % 2 from this]
  have h3 : i % 2 = 0 ∨ i % 2 = 1 := by omega
  rcases h3 with h | h <;> rw [h] <;> rfl
def Trie.getR {α : Type} (d : α) (t : Trie α) : Nat → α :=
  Trie.rec (motive := fun _ => Nat → α) (fun _ => d) (fun _ v _ il ir i => cond (Nat.beq i (nat_lit 0)) v (cond (Nat.beq (Nat.land i (nat_lit 1)) (nat_lit 1)) (il (Nat.div i (nat_lit 2))) (ir (Nat.sub (Nat.div i (nat_lit 2)) (nat_lit 1))))) t
theorem cond_beq0 {α : Type} (i : Nat) (x y : α) : cond (Nat.beq i (nat_lit 0)) x y = if i = 0 then x else y := by
  cases i <;> rfl
theorem cond_odd {α : Type} (i : Nat) (x y : α) : cond (Nat.beq (Nat.land i (nat_lit 1)) (nat_lit 1)) x y = if i % 2 = 1 then x else y := by
  have := oddB_eq i
  unfold oddB at this
  rw [this]
  by_cases h : i % 2 = 1 <;> simp [h]
theorem Trie.getR_eq {α : Type} (d : α) : ∀ (t : Trie α) (f i : Nat), i ≤ f → Trie.getR d t i = Trie.get d f t i
  | .leaf, f, i, _ => (Trie.get_leaf d f i).symm
  | .node l v r, f, i, hi => by
    have e : Trie.getR d (.node l v r) i = cond (Nat.beq i (nat_lit 0)) v (cond (Nat.beq (Nat.land i (nat_lit 1)) (nat_lit 1)) (Trie.getR d l (Nat.div i (nat_lit 2))) (Trie.getR d r (Nat.sub (Nat.div i (nat_lit 2)) (nat_lit 1)))) := rfl
    rw [e, cond_beq0, cond_odd]
    cases f with
    | zero =>
      have : i = 0 := by omega
      subst this
      rfl
    | succ f =>
      unfold Trie.get
      by_cases h : i = 0
      · rw [if_pos h, if_pos h]; rfl
      · rw [if_neg h, if_neg h]
        by_cases h2 : i % 2 = 1
        · rw [if_pos h2, if_pos h2]
          exact Trie.getR_eq d l f _ (by show i / 2 ≤ f; omega)
        · rw [if_neg h2, if_neg h2]
          exact Trie.getR_eq d r f _ (by show i / 2 - 1 ≤ f; omega)
def Trie.pathK {α β : Type} (d o : α) (f : Nat) : Nat → (Trie α → β) → β :=
  Nat.rec (motive := fun _ => Nat → (Trie α → β) → β) (fun _ k => k (.node .leaf o .leaf)) (fun _ ih i k => cond (Nat.beq i (nat_lit 0)) (k (.node .leaf o .leaf))
    (cond (Nat.beq (Nat.land i (nat_lit 1)) (nat_lit 1)) (ih (Nat.div i (nat_lit 2)) fun l' => k (.node l' d .leaf)) (ih (Nat.sub (Nat.div i (nat_lit 2)) (nat_lit 1)) fun r' => k (.node .leaf d r')))) f
def Trie.setR {α β : Type} (d : α) (t : Trie α) (o : α) : Nat → (Trie α → β) → β :=
  Trie.rec (motive := fun _ => Nat → (Trie α → β) → β) (fun i k => Trie.pathK d o i i k) (fun l v r il ir i k => cond (Nat.beq i (nat_lit 0)) (k (.node l o r))
    (cond (Nat.beq (Nat.land i (nat_lit 1)) (nat_lit 1)) (il (Nat.div i (nat_lit 2)) fun l' => k (.node l' v r)) (ir (Nat.sub (Nat.div i (nat_lit 2)) (nat_lit 1)) fun r' => k (.node l v r')))) t
theorem Trie.pathK_eq {α β : Type} (d o : α) : ∀ (g f i : Nat) (k : Trie α → β), i ≤ g → i ≤ f → Trie.pathK d o g i k = k (Trie.set d f .leaf i o)
  | 0, f, i, k, hg, hf => by
    have : i = 0 := by omega
    subst this
    cases f <;> rfl
  | g + 1, f, i, k, hg, hf => by
    have e : Trie.pathK d o (g + 1) i k = cond (Nat.beq i (nat_lit 0)) (k (.node .leaf o .leaf)) (cond (Nat.beq (Nat.land i (nat_lit 1)) (nat_lit 1)) (Trie.pathK d o g (Nat.div i (nat_lit 2)) fun l' => k (.node l' d .leaf)) (Trie.pathK d o g (Nat.sub (Nat.div i (nat_lit 2)) (nat_lit 1)) fun r' => k (.node .leaf d r'))) := rfl
    rw [e, cond_beq0, cond_odd]
    cases f with
    | zero =>
      have : i = 0 := by omega
      subst this
      rfl
    | succ f =>
      unfold Trie.set
      by_cases h : i = 0
      · rw [if_pos h, if_pos h]; rfl
      · rw [if_neg h, if_neg h]
        by_cases h2 : i % 2 = 1
        · rw [if_pos h2, if_pos h2, Trie.pathK_eq d o g f _ _ (by show i / 2 ≤ g; omega) (by show i / 2 ≤ f; omega)]; rfl
        · rw [if_neg h2, if_neg h2, Trie.pathK_eq d o g f _ _ (by show i / 2 - 1 ≤ g; omega) (by show i / 2 - 1 ≤ f; omega)]; rfl
theorem Trie.setR_eq {α β : Type} (d o : α) : ∀ (t : Trie α) (f i : Nat) (k : Trie α → β), i ≤ f → Trie.setR d t o i k = k (Trie.set d f t i o)
  | .leaf, f, i, k, hf => Trie.pathK_eq d o i f i k (Nat.le_refl _) hf
  | .node l v r, f, i, k, hf => by
    have e : Trie.setR d (.node l v r) o i k = cond (Nat.beq i (nat_lit 0)) (k (.node l o r)) (cond (Nat.beq (Nat.land i (nat_lit 1)) (nat_lit 1)) (Trie.setR d l o (Nat.div i (nat_lit 2)) fun l' => k (.node l' v r)) (Trie.setR d r o (Nat.sub (Nat.div i (nat_lit 2)) (nat_lit 1)) fun r' => k (.node l v r'))) := rfl
    rw [e, cond_beq0, cond_odd]
    cases f with
    | zero =>
      have : i = 0 := by omega
      subst this
      rfl
    | succ f =>
      unfold Trie.set
      by_cases h : i = 0
      · rw [if_pos h, if_pos h]; rfl
      · rw [if_neg h, if_neg h]
        by_cases h2 : i % 2 = 1
        · rw [if_pos h2, if_pos h2, Trie.setR_eq d o l f _ _ (by show i / 2 ≤ f; omega)]; rfl
        · rw [if_neg h2, if_neg h2, Trie.setR_eq d o r f _ _ (by show i / 2 - 1 ≤ f; omega)]; rfl
theorem cond_lt {α : Type} (i n : Nat) (x y : α) : cond (Nat.ble (Nat.succ i) n) x y = if i < n then x else y := by
  by_cases h : i < n
  · rw [if_pos h, show Nat.ble (Nat.succ i) n = true from Nat.ble_eq_true_of_le h]; rfl
  · rw [if_neg h]
    cases hb : Nat.ble (Nat.succ i) n with
    | true => exact absurd (Nat.le_of_ble_eq_true hb) h
    | false => rfl

structure IHeap where
  size : Nat
  t : Trie IObj
  deriving Inhabited

def IHeap.get (h : IHeap) (i : Nat) : Option IObj := cond (Nat.ble (Nat.succ i) h.size) (some (Trie.getR .dead h.t i)) none
theorem IHeap.get_def (h : IHeap) (i : Nat) : h.get i = if i < h.size then some (Trie.get .dead i h.t i) else none := by
  unfold IHeap.get
  rw [cond_lt, Trie.getR_eq _ _ i i (Nat.le_refl _)]
def IHeap.set (h : IHeap) (i : Nat) (o : IObj) : IHeap := { h with t := Trie.set .dead i h.t i o }
def IHeap.push (h : IHeap) (o : IObj) : IHeap := { size := h.size + 1, t := Trie.set .dead h.size h.t h.size o }

@[simp] theorem IHeap.size_set (h : IHeap) (i : Nat) (o : IObj) : (h.set i o).size = h.size := rfl
@[simp] theorem IHeap.size_push (h : IHeap) (o : IObj) : (h.push o).size = h.size + 1 := rfl
theorem IHeap.get_set (h : IHeap) (i j : Nat) (o : IObj) (hi : i < h.size) : (h.set i o).get j = if i = j then some o else h.get j := by
  rw [IHeap.get_def, IHeap.get_def]
  unfold IHeap.set
  dsimp only
  rw [Trie.get_set _ _ _ _ _ _ _ (Nat.le_refl _) (Nat.le_refl _)]
  by_cases e : i = j
  · subst e; rw [if_pos rfl, if_pos rfl, if_pos hi]
  · rw [if_neg e, if_neg e]
theorem IHeap.get_push (h : IHeap) (j : Nat) (o : IObj) : (h.push o).get j = if j = h.size then some o else h.get j := by
  rw [IHeap.get_def, IHeap.get_def]
  unfold IHeap.push
  dsimp only
  rw [Trie.get_set _ _ _ _ _ _ _ (Nat.le_refl _) (Nat.le_refl _)]
  by_cases e : j = h.size
  · subst e; rw [if_pos rfl, if_pos (by omega), if_pos rfl]
  · rw [if_neg e]
    by_cases hj : j < h.size
    · rw [if_pos hj, if_pos (by omega), if_neg (by omega)]
    · rw [if_neg hj, if_neg (by omega)]
theorem IHeap.get_lt {h : IHeap} {i : Nat} {o : IObj} (hg : h.get i = some o) : i < h.size := by
  rw [IHeap.get_def] at hg
  split at hg
  · assumption
  · cases hg
theorem IHeap.get_of_lt {h : IHeap} {i : Nat} (hi : i < h.size) : ∃ o, h.get i = some o := ⟨_, by rw [IHeap.get_def, if_pos hi]⟩
theorem IHeap.get_none {h : IHeap} {i : Nat} (hi : h.size ≤ i) : h.get i = none := by rw [IHeap.get_def, if_neg (by omega)]

/-- A number, laid out. -/
def forceN {β : Type} (n : Nat) (k : Nat → β) : β := Nat.rec (motive := fun _ => β) (k (nat_lit 0)) (fun m _ => k (Nat.succ m)) n
theorem forceN_eq {β : Type} (n : Nat) (k : Nat → β) : forceN n k = k n := by cases n <;> rfl
/-- A block is written, or made, and the tree laid out. -/
def setH {β : Type} (h : IHeap) (i : Nat) (o : IObj) (k : IHeap → β) : β := Trie.setR .dead h.t o i fun t' => k ⟨h.size, t'⟩
theorem setH_eq {β : Type} (h : IHeap) (i : Nat) (o : IObj) (k : IHeap → β) : setH h i o k = k (h.set i o) := by
  unfold setH
  rw [Trie.setR_eq _ _ _ i i _ (Nat.le_refl _)]
  rfl
def pushH {β : Type} (h : IHeap) (o : IObj) (k : IHeap → β) : β := Trie.setR .dead h.t o h.size fun t' => forceN (Nat.succ h.size) fun n' => k ⟨n', t'⟩
theorem pushH_eq {β : Type} (h : IHeap) (o : IObj) (k : IHeap → β) : pushH h o k = k (h.push o) := by
  unfold pushH
  rw [Trie.setR_eq _ _ _ h.size h.size _ (Nat.le_refl _), forceN_eq]
  rfl

/-- Where a block of the ideal heap lies: the world's block, where in it, how many cells that one has, what is appended. -/
structure Ren where
  block : Nat
  off : Nat
  room : Nat
  esz : Nat

abbrev Rho := Nat → Option Ren

/-- A value without an address. -/
def scal : Value → Bool
  | .bool _ | .int _ _ | .float _ _ | .complex _ _ _ | .string _ | .pointer none | .slice none 0 0 | .map none | .chan none | .nilFunc | .nilIface => true
  | _ => false

inductive VRel (ρ : Rho) : Value → Value → Prop
  | base {v : Value} (h : scal v = true) : VRel ρ v v
  | ptr {i o : Nat} {R : Ren} (h : ρ i = some R) : VRel ρ (.pointer (some ⟨i, o, none⟩)) (.pointer (some ⟨R.block, R.off + o, none⟩))
  | slc {i o n c c' : Nat} {R : Ren} (h : ρ i = some R) (hc : c' = c ∨ (c ≤ c' ∧ 0 < R.esz ∧ R.off + o + c' * R.esz ≤ R.room)) : VRel ρ (.slice (some ⟨i, o, none⟩) n c) (.slice (some ⟨R.block, R.off + o, none⟩) n c')
  | slc0 {i o : Nat} {a' : Addr} : VRel ρ (.slice (some ⟨i, o, none⟩) 0 0) (.slice (some a') 0 0)
  | slcE {i o s : Nat} {a' : Addr} : VRel ρ (.slice (some ⟨i, o, some s⟩) 0 0) (.slice (some a') 0 0)
  | mp {i : Nat} {R : Ren} (h : ρ i = some R) : VRel ρ (.map (some i)) (.map (some R.block))
  | agg {cs cs' : Array Value} (hs : cs.size = cs'.size) (h : ∀ i, i < cs.size → VRel ρ (cs.getD i undef) (cs'.getD i undef)) : VRel ρ (.agg cs) (.agg cs')
  | tup {cs cs' : Array Value} (hs : cs.size = cs'.size) (h : ∀ i, i < cs.size → VRel ρ (cs.getD i undef) (cs'.getD i undef)) : VRel ρ (.tuple cs) (.tuple cs')
  | fn {g : FuncId} {fs fs' cs cs' : Array Value} (hf : fs.size = fs'.size) (h1 : ∀ i, i < fs.size → VRel ρ (fs.getD i undef) (fs'.getD i undef)) (hs : cs.size = cs'.size) (h2 : ∀ i, i < cs.size → VRel ρ (cs.getD i undef) (cs'.getD i undef)) :
      VRel ρ (.func (.func g) fs cs) (.func (.func g) fs' cs')
  | yld {i : Nat} {R : Ren} (h : ρ i = some R) : VRel ρ (.func (.yield i) #[] #[]) (.func (.yield R.block) #[] #[])
  | ifc {t : TypeId} {v v' : Value} (h : VRel ρ v v') : VRel ρ (.iface t v) (.iface t v')

theorem VRel.mono {ρ ρ' : Rho} {v v' : Value} (h : VRel ρ v v') (hle : ∀ i R, ρ i = some R → ρ' i = some R) : VRel ρ' v v' := by
  induction h with
  | base h => exact .base h
  | ptr h => exact .ptr (hle _ _ h)
  | slc h hc => exact .slc (hle _ _ h) hc
  | slc0 => exact .slc0
  | slcE => exact .slcE
  | mp h => exact .mp (hle _ _ h)
  | agg hs _ ih => exact .agg hs ih
  | tup hs _ ih => exact .tup hs ih
  | fn hf _ hs _ ih1 ih2 => exact .fn hf ih1 hs ih2
  | yld h => exact .yld (hle _ _ h)
  | ifc _ ih => exact .ifc ih
theorem VRel.undef_rel {ρ : Rho} : VRel ρ undef undef := .tup rfl (fun i h => absurd h (by simp))

/-- Pointwise. -/
def LRel (ρ : Rho) (cs cs' : List Value) : Prop := cs.length = cs'.length ∧ ∀ (i : Nat) (v : Value), cs[i]? = some v → ∃ v', cs'[i]? = some v' ∧ VRel ρ v v'
theorem LRel.mono {ρ ρ' : Rho} {cs cs' : List Value} (h : LRel ρ cs cs') (hle : ∀ i R, ρ i = some R → ρ' i = some R) : LRel ρ' cs cs' :=
  ⟨h.1, fun i v hv => let ⟨v', h1, h2⟩ := h.2 i v hv; ⟨v', h1, h2.mono hle⟩⟩

structure ERel (ρ : Rho) (e e' : MapEntry) : Prop where
  key : VRel ρ e.key e'.key
  val : VRel ρ e.val e'.val
  born : e.born = e'.born

/-- The loop's record. -/
structure LoopRel (ρ : Rho) (l l' : Loop) : Prop where
  state : l.state = l'.state
  pending : l.pending = l'.pending
  params : l.params = l'.params
  assign : l.assign = l'.assign
  body : l.body = l'.body
  tmps : l.tmps.size = l'.tmps.size ∧ ∀ i, VRel ρ (l.tmps.getD i undef) (l'.tmps.getD i undef)
  defers : ∃ R, ρ l.defers = some R ∧ l'.defers = R.block

inductive ORel (ρ : Rho) (R : Ren) : IObj → Obj → Prop
  | row {ro : Bool} {esz : Nat} {cs : List Value} {c : Array Value} {e : TypeId} {fr : Nat × Nat} (hfr : ro = false → (esz = 0 → fr = (0, 0)) ∧ ∀ k, k < c.size → (decide (fr.1 ≤ k) && decide (k < fr.2)) = false) (he : R.esz = esz) (hr : c.size = R.room) (hs : R.off + cs.length ≤ c.size)
      (h : ∀ (i : Nat) (v : Value), cs[i]? = some v → ∃ v', c[R.off + i]? = some v' ∧ VRel ρ v v') : ORel ρ R (.row ro esz cs) (.cells c e fr)
  | map {es : List MapEntry} {es' : Array MapEntry} {ck : Nat} (hs : es.length = es'.size) (h : ∀ (i : Nat) (e : MapEntry), es[i]? = some e → ∃ e', es'[i]? = some e' ∧ ERel ρ e e') : ORel ρ R (.map es ck) (.map es' ck)
  | loop {l l' : Loop} (h : LoopRel ρ l l') : ORel ρ R (.loop l) (.loop l')
  | defs : ORel ρ R .defs (.deferred (some []))
  | dead {o : Obj} : ORel ρ R .dead o
  | iterN {since : Nat} {seen : Array Nat} {last : Nat} (ho : R.off = 0) : ORel ρ R (.iter none since seen last) (.mapIter none since seen last)
  | iter {m : Nat} {since : Nat} {seen : Array Nat} {last : Nat} {S : Ren} (ho : R.off = 0) (hm : ρ m = some S) : ORel ρ R (.iter (some m) since seen last) (.mapIter (some S.block) since seen last)

theorem ORel.mono {ρ ρ' : Rho} {R : Ren} {o : IObj} {ob : Obj} (h : ORel ρ R o ob) (hle : ∀ i R, ρ i = some R → ρ' i = some R) : ORel ρ' R o ob := by
  cases h with
  | row hfr he hr hs h => exact .row hfr he hr hs (fun i v hv => let ⟨v', h1, h2⟩ := h i v hv; ⟨v', h1, h2.mono hle⟩)
  | map hs h => exact .map hs (fun i e he => let ⟨e', h1, h2⟩ := h i e he; ⟨e', h1, ⟨h2.key.mono hle, h2.val.mono hle, h2.born⟩⟩)
  | loop h => exact .loop ⟨h.state, h.pending, h.params, h.assign, h.body, ⟨h.tmps.1, fun i => (h.tmps.2 i).mono hle⟩, let ⟨R, a, b⟩ := h.defers; ⟨R, hle _ _ a, b⟩⟩
  | defs => exact .defs
  | dead => exact .dead
  | iterN ho => exact .iterN ho
  | iter ho hm => exact .iter ho (hle _ _ hm)

/-- A row that is not ours. -/
def RoO (x : Option IObj) : Prop := ∃ o, x = some o ∧ o.isRo = true
theorem RoO.not {o : IObj} (h : o.isRo = false) : ¬ RoO (some o) := by
  rintro ⟨u, e, hu⟩
  cases e
  rw [h] at hu; cases hu
theorem RoO.none : ¬ RoO none := by rintro ⟨u, e, hu⟩; cases e

/-- The world w bears the heap h, block i at 'ρ i'. -/
structure Models (ρ : Rho) (h : IHeap) (w : World) : Prop where
  obj : ∀ i R o, h.get i = some o → ρ i = some R → ∃ ob, w.heap[R.block]? = some ob ∧ ORel ρ R o ob
  inj : ∀ i j R R', ρ i = some R → ρ j = some R' → R.block = R'.block → h.get i ≠ some .dead → h.get j ≠ some .dead → i = j ∨ (RoO (h.get i) ∧ RoO (h.get j))
  lt : ∀ i R, ρ i = some R → R.block < w.heap.size

/-- The heap grows: what is not ours stays, what is dead is dead. -/
structure Grow (h h' : IHeap) : Prop where
  size : h.size ≤ h'.size
  ro : ∀ i o, h.get i = some o → o.isRo = true → h'.get i = some o
  dd : ∀ i, h.get i = some .dead → h'.get i = some .dead
theorem RoO.grow {h h' : IHeap} {i : Nat} (g : Grow h h') (r : RoO (h.get i)) : RoO (h'.get i) := let ⟨o, e, hr⟩ := r; ⟨o, g.ro i o e hr, hr⟩
theorem Grow.refl (h : IHeap) : Grow h h := ⟨Nat.le_refl _, fun _ _ a _ => a, fun _ a => a⟩
theorem Grow.trans {h h' h'' : IHeap} (a : Grow h h') (b : Grow h' h'') : Grow h h'' :=
  ⟨Nat.le_trans a.size b.size, fun i o g r => b.ro i o (a.ro i o g r) r, fun i g => b.dd i (a.dd i g)⟩
theorem Grow.push (h : IHeap) (o : IObj) : Grow h (h.push o) :=
  ⟨by simp, fun i o' g _ => by rw [IHeap.get_push, if_neg (by have := IHeap.get_lt g; omega)]; exact g, fun i g => by rw [IHeap.get_push, if_neg (by have := IHeap.get_lt g; omega)]; exact g⟩
theorem Grow.set {h : IHeap} {i : Nat} {o o' : IObj} (hg : h.get i = some o) (hr : o.isRo = false) (hd : o ≠ .dead) : Grow h (h.set i o') :=
  ⟨Nat.le_refl _, fun j u g r => by
    rw [IHeap.get_set _ _ _ _ (IHeap.get_lt hg)]
    by_cases e : i = j
    · subst e; rw [hg] at g; cases g; rw [r] at hr; cases hr
    · rw [if_neg e]; exact g, fun j g => by
    rw [IHeap.get_set _ _ _ _ (IHeap.get_lt hg)]
    by_cases e : i = j
    · subst e; rw [hg] at g; exact absurd (Option.some.inj g) hd
    · rw [if_neg e]; exact g⟩

/-- From (ρ, h, w) to (ρ', h', w'): what lay there and is not ours lies as it lay. -/
structure Step (ρ : Rho) (h : IHeap) (w : World) (ρ' : Rho) (h' : IHeap) (w' : World) : Prop where
  grow : Grow h h'
  wsize : w.heap.size ≤ w'.heap.size
  os : w'.os = w.os
  tape : w'.tape = w.tape
  output : w'.output = w.output
  ext : ∀ i, (i < h.size ∨ h'.size ≤ i) → ρ' i = ρ i
  new : ∀ i R, h.size ≤ i → i < h'.size → ρ' i = some R → w.heap.size ≤ R.block ∨ ∃ j Rj o, h.get j = some o ∧ o.isRo = false ∧ o ≠ .dead ∧ ρ j = some Rj ∧ Rj.block = R.block
  keep : ∀ b, b < w.heap.size → (∀ i R o, h.get i = some o → ρ i = some R → R.block = b → o.isRo = true ∨ o = .dead) → w'.heap[b]? = w.heap[b]?

/-- No block from a to b has a place yet. -/
def Fresh (ρ : Rho) (a b : Nat) : Prop := ∀ i, a ≤ i → i < b → ρ i = none

theorem Step.size {ρ : Rho} {h : IHeap} {w : World} {ρ' : Rho} {h' : IHeap} {w' : World} (s : Step ρ h w ρ' h' w') : h.size ≤ h'.size := s.grow.size
theorem Step.refl (ρ : Rho) (h : IHeap) (w : World) : Step ρ h w ρ h w :=
  ⟨Grow.refl _, Nat.le_refl _, rfl, rfl, rfl, fun _ _ => rfl, fun i R a b => absurd b (by omega), fun _ _ _ => rfl⟩
theorem Step.le {ρ ρ' : Rho} {h h' : IHeap} {w w' : World} (s : Step ρ h w ρ' h' w') (hf : Fresh ρ h.size h'.size) : ∀ i R, ρ i = some R → ρ' i = some R := fun i R hi => by
  by_cases hlt : i < h.size ∨ h'.size ≤ i
  · rw [s.ext i hlt]; exact hi
  · rw [hf i (by omega) (by omega)] at hi; cases hi
theorem Fresh.mid {ρ ρ' : Rho} {h h' : IHeap} {w w' : World} {c : Nat} (hf : Fresh ρ h.size c) (s : Step ρ h w ρ' h' w') (hc : h'.size ≤ c) : Fresh ρ h.size h'.size ∧ Fresh ρ' h'.size c :=
  ⟨fun i a b => hf i a (by omega), fun i a b => by rw [s.ext i (.inr a)]; exact hf i (by have := s.size; omega) b⟩
theorem Step.trans {ρ ρ' ρ'' : Rho} {h h' h'' : IHeap} {w w' w'' : World} (s : Step ρ h w ρ' h' w') (s' : Step ρ' h' w' ρ'' h'' w'') : Step ρ h w ρ'' h'' w'' := by
  -- a live block that is ours was so before, if it was there
  have back : ∀ j o, j < h.size → h'.get j = some o → o.isRo = false → o ≠ .dead → ∃ o0, h.get j = some o0 ∧ o0.isRo = false ∧ o0 ≠ .dead := by
    intro j o hj hg hr hd
    obtain ⟨o0, ho0⟩ := IHeap.get_of_lt hj
    refine ⟨o0, ho0, ?_, ?_⟩
    · cases hr0 : o0.isRo with
      | false => rfl
      | true =>
        have := s.grow.ro j o0 ho0 hr0
        rw [this] at hg
        obtain rfl := Option.some.inj hg
        rw [hr0] at hr; cases hr
    · intro e
      subst e
      have := s.grow.dd j ho0
      rw [this] at hg
      exact hd (Option.some.inj hg).symm
  refine ⟨s.grow.trans s'.grow, Nat.le_trans s.wsize s'.wsize, s'.os.trans s.os, s'.tape.trans s.tape, s'.output.trans s.output, ?_, ?_, ?_⟩
  · intro i hi
    have h1 := s.size
    have h2 := s'.size
    rw [s'.ext i (by omega), s.ext i (by omega)]
  · intro i R a b hi
    by_cases hlt : i < h'.size
    · rw [s'.ext i (.inl hlt)] at hi
      exact s.new i R a hlt hi
    · rcases s'.new i R (by omega) b hi with c | ⟨j, Rj, o, g1, g2, g2', g3, g4⟩
      · exact .inl (Nat.le_trans s.wsize c)
      · by_cases hj : j < h.size
        · rw [s.ext j (.inl hj)] at g3
          obtain ⟨o0, k1, k2, k3⟩ := back j o hj g1 g2 g2'
          exact .inr ⟨j, Rj, o0, k1, k2, k3, g3, g4⟩
        · rcases s.new j Rj (by omega) (IHeap.get_lt g1) g3 with c | ⟨j', Rj', o', k1, k2, k2', k3, k4⟩
          · exact .inl (by omega)
          · exact .inr ⟨j', Rj', o', k1, k2, k2', k3, k4.trans g4⟩
  · intro b hb hall
    rw [s'.keep b (Nat.lt_of_lt_of_le hb s.wsize) ?_]
    · exact s.keep b hb hall
    · intro i R o hg hi hbk
      by_cases hlt : i < h.size
      · rw [s.ext i (.inl hlt)] at hi
        obtain ⟨o0, ho0⟩ := IHeap.get_of_lt hlt
        rcases hall i R o0 ho0 hi hbk with h0 | h0
        · have := s.grow.ro i o0 ho0 h0
          rw [this] at hg
          obtain rfl := Option.some.inj hg
          exact .inl h0
        · subst h0
          have := s.grow.dd i ho0
          rw [this] at hg
          exact .inr (Option.some.inj hg).symm
      · rcases s.new i R (by omega) (IHeap.get_lt hg) hi with c | ⟨j, Rj, o', k1, k2, k2', k3, k4⟩
        · omega
        · rcases hall j Rj o' k1 k3 (k4.trans hbk) with h0 | h0
          · rw [h0] at k2; cases k2
          · exact absurd h0 k2'
end Go.Proofs.Ytmobpbhbllhdcaa.Ideal
end
noncomputable section
namespace Go.Proofs.Ytmobpbhbllhdcaa.Ideal
set_option linter.unusedVariables false
set_option linter.unusedSimpArgs false
set_option linter.unnecessarySimpa false

/-- What a computation that asks nothing of the world comes to. -/
def pureVal {α : Type} (P : Program) : Sem α → Option α
  | .pure a => some a
  | .program k => pureVal P (k P)
  | .mark _ k => pureVal P k
  | _ => none
theorem run_pureVal {α : Type} {P : Program} : ∀ {s : Sem α} {a : α}, pureVal P s = some a → ∀ w, s.run P w = .ok a w
  | .pure _, a, h, w => by simp [pureVal] at h; subst h; rfl
  | .program k, a, h, w => by simp [pureVal] at h; exact run_pureVal (s := k P) h w
  | .mark _ k, a, h, w => by simp [pureVal] at h; exact run_pureVal (s := k) h w

/-- A value without an address, one level deep. -/
def plainV : Value → Bool
  | .agg cs => cs.all scal
  | .tuple cs => cs.all scal
  | .iface _ v => scal v
  | .func (.func _) fs cs => fs.isEmpty && cs.isEmpty
  | v => scal v

theorem scal_eq {ρ : Rho} {v v' : Value} (hs : scal v = true) (h : VRel ρ v v') : v' = v := by
  cases h <;> first | rfl | (simp [scal] at hs)

theorem arr_eq {cs cs' : Array Value} (hs : cs.size = cs'.size) (h : ∀ i, i < cs.size → cs'.getD i undef = cs.getD i undef) : cs' = cs := by
  refine Array.ext hs.symm (fun i h1 h2 => ?_)
  have := h i h2
  simpa [Array.getD, h1, h2] using this
theorem getD_mem {cs : Array Value} {i : Nat} (h : i < cs.size) : cs.getD i undef ∈ cs := by
  simp [Array.getD, h]
theorem plain_eq {ρ : Rho} {v v' : Value} (hs : plainV v = true) (h : VRel ρ v v') : v' = v := by
  cases h with
  | base h => rfl
  | agg hz hp =>
    simp only [plainV, Array.all_eq_true_iff_forall_mem] at hs
    rw [arr_eq hz (fun i hi => scal_eq (hs _ (getD_mem hi)) (hp i hi))]
  | tup hz hp =>
    simp only [plainV, Array.all_eq_true_iff_forall_mem] at hs
    rw [arr_eq hz (fun i hi => scal_eq (hs _ (getD_mem hi)) (hp i hi))]
  | ifc hp => simp only [plainV] at hs; rw [scal_eq hs hp]
  | fn hf h1 hz h2 =>
    rename_i g fs fs' cs cs'
    simp only [plainV, Bool.and_eq_true, Array.isEmpty_iff] at hs
    obtain ⟨rfl, rfl⟩ := hs
    rw [arr_eq hf (fun i hi => absurd hi (by simp)), arr_eq hz (fun i hi => absurd hi (by simp))]
  | _ => simp [plainV, scal] at hs
theorem plain_rel {ρ : Rho} {v : Value} (hs : plainV v = true) : VRel ρ v v := by
  cases v with
  | agg cs =>
    simp only [plainV, Array.all_eq_true_iff_forall_mem] at hs
    exact .agg rfl (fun i hi => .base (hs _ (getD_mem hi)))
  | tuple cs =>
    simp only [plainV, Array.all_eq_true_iff_forall_mem] at hs
    exact .tup rfl (fun i hi => .base (hs _ (getD_mem hi)))
  | iface t v => exact .ifc (.base hs)
  | func fn fs cs =>
    cases fn with
    | func g =>
      simp only [plainV, Bool.and_eq_true, Array.isEmpty_iff] at hs
      obtain ⟨rfl, rfl⟩ := hs
      exact .fn rfl (fun i hi => absurd hi (by simp)) rfl (fun i hi => absurd hi (by simp))
    | _ => simp [plainV, scal] at hs
  | _ => exact .base hs

/-- Operands alike. -/
def OpsRel (ρ : Rho) (o : Oper) (a ar : Act) : Prop := ∀ x ∈ o.op.operands, VRel ρ (a.eval x) (ar.eval x)

/-- An operation that touches no memory: its value. -/
def PureOp (P : Program) (o : Oper) (a : Act) (v : Value) : Prop :=
  ∀ (ρ : Rho) (ar : Act) (w : World), OpsRel ρ o a ar → ∃ v', (execOp ar.eval o).run P w = .ok (.value v') w ∧ VRel ρ v v'

/-- All operands plain: what the model's own text comes to. -/
theorem pureOp_plain {P : Program} {o : Oper} {a : Act} {v : Value} (hs : ∀ cs b, o.op ≠ .select cs b) (hp : o.op.operands.all (fun x => plainV (a.eval x)) = true)
    (hv : pureVal P (execOp a.eval o) = some (.value v)) (hr : plainV v = true) : PureOp P o a v := by
  intro ρ ar w hrel
  refine ⟨v, ?_, plain_rel hr⟩
  rw [execOp_congr o hs (ρ' := a.eval) (fun x hx => ?_)]
  · exact run_pureVal hv w
  · rw [Array.all_eq_true_iff_forall_mem] at hp
    exact plain_eq (hp x hx) (hrel x hx)

section inv
variable {ρ : Rho} {v' : Value}
theorem VRel.ptr_inv {i o : Nat} (h : VRel ρ (.pointer (some ⟨i, o, none⟩)) v') : ∃ R, ρ i = some R ∧ v' = .pointer (some ⟨R.block, R.off + o, none⟩) := by
  cases h with
  | base h => simp [scal] at h
  | ptr h => exact ⟨_, h, rfl⟩
theorem VRel.bool_inv {b : Bool} (h : VRel ρ (.bool b) v') : v' = .bool b := scal_eq rfl h
theorem VRel.int_inv {k : IntKind} {n : Int} (h : VRel ρ (.int k n) v') : v' = .int k n := scal_eq rfl h
theorem VRel.agg_inv {cs : Array Value} (h : VRel ρ (.agg cs) v') : ∃ cs', v' = .agg cs' ∧ cs.size = cs'.size ∧ ∀ i, i < cs.size → VRel ρ (cs.getD i undef) (cs'.getD i undef) := by
  cases h with
  | base h => simp [scal] at h
  | agg hs h => exact ⟨_, rfl, hs, h⟩
theorem VRel.tup_inv {cs : Array Value} (h : VRel ρ (.tuple cs) v') : ∃ cs', v' = .tuple cs' ∧ cs.size = cs'.size ∧ ∀ i, i < cs.size → VRel ρ (cs.getD i undef) (cs'.getD i undef) := by
  cases h with
  | base h => simp [scal] at h
  | tup hs h => exact ⟨_, rfl, hs, h⟩
theorem VRel.slc_inv {i o n c : Nat} (h : VRel ρ (.slice (some ⟨i, o, none⟩) n c) v') :
    (∃ R c', ρ i = some R ∧ (c' = c ∨ (c ≤ c' ∧ 0 < R.esz ∧ R.off + o + c' * R.esz ≤ R.room)) ∧ v' = .slice (some ⟨R.block, R.off + o, none⟩) n c') ∨ (n = 0 ∧ c = 0 ∧ ∃ a', v' = .slice (some a') 0 0) := by
  cases h with
  | base h => simp [scal] at h
  | slc h hc => exact .inl ⟨_, _, h, hc, rfl⟩
  | slc0 => exact .inr ⟨rfl, rfl, _, rfl⟩
theorem VRel.map_inv {i : Nat} (h : VRel ρ (.map (some i)) v') : ∃ R, ρ i = some R ∧ v' = .map (some R.block) := by
  cases h with
  | base h => simp [scal] at h
  | mp h => exact ⟨_, h, rfl⟩
theorem VRel.fn_inv {g : FuncId} {fs cs : Array Value} (h : VRel ρ (.func (.func g) fs cs) v') : ∃ fs' cs', v' = .func (.func g) fs' cs' ∧ fs.size = fs'.size ∧ (∀ i, i < fs.size → VRel ρ (fs.getD i undef) (fs'.getD i undef)) ∧ cs.size = cs'.size ∧ ∀ i, i < cs.size → VRel ρ (cs.getD i undef) (cs'.getD i undef) := by
  cases h with
  | base h => simp [scal] at h
  | fn h1 h2 h3 h4 => exact ⟨_, _, rfl, h1, h2, h3, h4⟩
theorem VRel.yld_inv {i : Nat} (h : VRel ρ (.func (.yield i) #[] #[]) v') : ∃ R, ρ i = some R ∧ v' = .func (.yield R.block) #[] #[] := by
  cases h with
  | base h => simp [scal] at h
  | yld h => exact ⟨_, h, rfl⟩
theorem VRel.nilslice_inv (h : VRel ρ (.slice none 0 0) v') : v' = .slice none 0 0 := scal_eq rfl h
theorem VRel.nilptr_inv (h : VRel ρ (.pointer none) v') : v' = .pointer none := scal_eq rfl h
end inv

/-- The size of a type's variables, in cells. -/
def tsize (P : Program) (t : TypeId) : Option Nat := (P.info? t).map (·.size)
def isAggB (d : TypeDesc) : Bool := match d with | .struct _ | .array _ _ => true | _ => false
def tagg (P : Program) (t : TypeId) : Option Bool := (P.underlying t).map isAggB

theorem run_under {P : Program} {t : TypeId} {d : TypeDesc} (h : P.underlying t = some d) (w : World) : (underlying t).run P w = .ok d w := by
  simp [underlying, program, Sem.run_bind, Sem.run, h, Result.andThen]
theorem run_size {P : Program} {t : TypeId} {n : Nat} (h : tsize P t = some n) (w : World) : (sizeOf t).run P w = .ok n w := by
  unfold tsize at h
  obtain ⟨i, h1, rfl⟩ := Option.map_eq_some_iff.mp h
  simp [sizeOf, typeInfo, program, Sem.run_bind, Sem.run, h1, Result.andThen]
theorem run_isAggB {P : Program} {t : TypeId} {b : Bool} (h : tagg P t = some b) (w : World) : (isAgg t).run P w = .ok b w := by
  unfold tagg at h
  obtain ⟨d, h1, rfl⟩ := Option.map_eq_some_iff.mp h
  unfold isAgg
  simp only [Sem.run_bind, run_under h1, Result.andThen_ok]
  cases d <;> rfl

section ops
variable {P : Program} {o : Oper} {a : Act}
theorem opsRel_mem {ρ : Rho} {ar : Act} (h : OpsRel ρ o a ar) (x : Operand) (hx : x ∈ o.op.operands) : VRel ρ (a.eval x) (ar.eval x) := h x hx
theorem pure_move {x : Operand} (ho : o.op = .move x ∨ o.op = .assign x) : PureOp P o a (a.eval x) := by
  intro ρ ar w hrel
  refine ⟨ar.eval x, ?_, hrel x (by rcases ho with h | h <;> simp [h, Op.operands])⟩
  rcases ho with h | h <;> simp only [execOp, h] <;> rfl
theorem pure_pick {c x y : Operand} {b : Bool} (ho : o.op = .pick c x y) (hc : a.eval c = .bool b) : PureOp P o a (if b then a.eval x else a.eval y) := by
  intro ρ ar w hrel
  have h0 := hrel c (by simp [ho, Op.operands])
  have h1 := hrel x (by simp [ho, Op.operands])
  have h2 := hrel y (by simp [ho, Op.operands])
  rw [hc] at h0
  refine ⟨if b then ar.eval x else ar.eval y, ?_, by cases b <;> simpa⟩
  simp [execOp, ho, h0.bool_inv, asBool, Sem.run_bind]
theorem pure_nilCheck {x : Operand} {i k : Nat} (ho : o.op = .nilCheck x) (hx : a.eval x = .pointer (some ⟨i, k, none⟩)) : PureOp P o a (a.eval x) := by
  intro ρ ar w hrel
  have h0 := hrel x (by simp [ho, Op.operands])
  refine ⟨ar.eval x, ?_, h0⟩
  rw [hx] at h0
  obtain ⟨R, _, e⟩ := h0.ptr_inv
  simp [execOp, ho, e]
theorem pure_nilCheckF {x : Operand} {g : FuncId} {fs cs : Array Value} (ho : o.op = .nilCheck x) (hx : a.eval x = .func (.func g) fs cs) : PureOp P o a (a.eval x) := by
  intro ρ ar w hrel
  have h0 := hrel x (by simp [ho, Op.operands])
  refine ⟨ar.eval x, ?_, h0⟩
  rw [hx] at h0
  obtain ⟨fs', cs', e, _⟩ := h0.fn_inv
  simp [execOp, ho, e]
theorem pure_nilCheckY {x : Operand} {i : Nat} (ho : o.op = .nilCheck x) (hx : a.eval x = .func (.yield i) #[] #[]) : PureOp P o a (a.eval x) := by
  intro ρ ar w hrel
  have h0 := hrel x (by simp [ho, Op.operands])
  refine ⟨ar.eval x, ?_, h0⟩
  rw [hx] at h0
  obtain ⟨R, _, e⟩ := h0.yld_inv
  simp [execOp, ho, e]

/-- Where a field lies in its struct. -/
def fieldOff (P : Program) (s : TypeId) (f : Nat) : Option Nat :=
  match P.underlying s with
  | some (.struct fs) => (match fs[f]? with
    | some fl => (match tsize P fl.type with
      | some n => if n = 0 then none else some fl.offset
      | none => none)
    | none => none)
  | _ => none
theorem add_none (b o n : Nat) : (⟨b, o, none⟩ : Addr).add n = ⟨b, o + n, none⟩ := by unfold Addr.add; split <;> simp_all
theorem run_fieldAt {s : TypeId} {f k b q : Nat} (h : fieldOff P s f = some k) (w : World) : (Instr.fieldAt s (.pointer (some ⟨b, q, none⟩)) f).run P w = .ok (.pointer (some ⟨b, q + k, none⟩)) w := by
  unfold fieldOff at h
  split at h
  · rename_i fs hu
    split at h
    · rename_i fl hf
      split at h
      · rename_i n hn
        split at h
        · cases h
        · rename_i hne
          obtain rfl := Option.some.inj h
          simp [Instr.fieldAt, Sem.run_bind, run_under hu, hf, Instr.sureAddr, fieldPlace, run_size hn, hne, add_none]
      · cases h
    · cases h
  · cases h
theorem pure_fieldAddr {s : TypeId} {x : Operand} {f i q k : Nat} (ho : o.op = .fieldAddr s x f) (hx : a.eval x = .pointer (some ⟨i, q, none⟩)) (hk : fieldOff P s f = some k) : PureOp P o a (.pointer (some ⟨i, q + k, none⟩)) := by
  intro ρ ar w hrel
  have h0 := hrel x (by simp [ho, Op.operands])
  rw [hx] at h0
  obtain ⟨R, hR, e⟩ := h0.ptr_inv
  refine ⟨.pointer (some ⟨R.block, R.off + q + k, none⟩), ?_, by rw [Nat.add_assoc]; exact .ptr hR⟩
  simp [execOp, ho, e, Sem.run_bind, run_fieldAt hk]

/-- An element's size: of an array's (and how many), of a slice's. -/
def arrOf (P : Program) (t : TypeId) : Option (Nat × Nat) :=
  match P.underlying t with
  | some (.array n e) => (tsize P e).map fun s => (n, s)
  | _ => none
def slcOf (P : Program) (t : TypeId) : Option (TypeId × Nat) :=
  match P.underlying t with
  | some (.slice e) => (tsize P e).map fun s => (e, s)
  | _ => none
theorem arrOf_inv {t : TypeId} {n s : Nat} (h : arrOf P t = some (n, s)) : ∃ e, P.underlying t = some (.array n e) ∧ tsize P e = some s := by
  unfold arrOf at h
  split at h
  · rename_i n' e hu
    obtain ⟨s', h1, h2⟩ := Option.map_eq_some_iff.mp h
    cases h2
    exact ⟨e, hu, h1⟩
  · cases h
theorem slcOf_inv {t e : TypeId} {s : Nat} (h : slcOf P t = some (e, s)) : P.underlying t = some (.slice e) ∧ tsize P e = some s := by
  unfold slcOf at h
  split at h
  · rename_i e' hu
    obtain ⟨s', h1, h2⟩ := Option.map_eq_some_iff.mp h
    cases h2
    exact ⟨hu, h1⟩
  · cases h
theorem pure_indexAddrS {t e : TypeId} {x ix : Operand} {i q n c s : Nat} {k : IntKind} {j : Int} (ho : o.op = .indexAddr t x ix) (hx : a.eval x = .slice (some ⟨i, q, none⟩) n c) (hi : a.eval ix = .int k j)
    (ht : slcOf P t = some (e, s)) (h0 : 0 ≤ j) (h1 : j < n) : PureOp P o a (.pointer (some ⟨i, q + j.toNat * s, none⟩)) := by
  intro ρ ar w hrel
  have g0 := hrel x (by simp [ho, Op.operands])
  have g1 := hrel ix (by simp [ho, Op.operands])
  rw [hx] at g0
  rw [hi] at g1
  obtain ⟨hu, hs⟩ := slcOf_inv ht
  rcases g0.slc_inv with ⟨R, c', hR, _, e0⟩ | ⟨rfl, _⟩
  · refine ⟨.pointer (some ⟨R.block, R.off + q + j.toNat * s, none⟩), ?_, by rw [Nat.add_assoc]; exact .ptr hR⟩
    simp [execOp, ho, e0, g1.int_inv, Sem.run_bind, Instr.indexAt, asIntOf, run_under hu, h0, h1, run_size hs, add_none]
  · omega
theorem pure_indexAddrA {t : TypeId} {x ix : Operand} {i q n s : Nat} {k : IntKind} {j : Int} (ho : o.op = .indexAddr t x ix) (hx : a.eval x = .pointer (some ⟨i, q, none⟩)) (hi : a.eval ix = .int k j)
    (ht : arrOf P t = some (n, s)) (h0 : 0 ≤ j) (h1 : j < n) : PureOp P o a (.pointer (some ⟨i, q + j.toNat * s, none⟩)) := by
  intro ρ ar w hrel
  have g0 := hrel x (by simp [ho, Op.operands])
  have g1 := hrel ix (by simp [ho, Op.operands])
  rw [hx] at g0
  rw [hi] at g1
  obtain ⟨e, hu, hs⟩ := arrOf_inv ht
  obtain ⟨R, hR, e0⟩ := g0.ptr_inv
  refine ⟨.pointer (some ⟨R.block, R.off + q + j.toNat * s, none⟩), ?_, by rw [Nat.add_assoc]; exact .ptr hR⟩
  simp [execOp, ho, e0, g1.int_inv, Sem.run_bind, Instr.indexAt, Instr.sureAddr, asIntOf, run_under hu, h0, h1, run_size hs, add_none]

/-- A part of a struct or an array. -/
def partOf (P : Program) (t : TypeId) (cs : Array Value) (off : Nat) : Option Value :=
  match tagg P t, tsize P t with
  | some true, some n => some (.agg (cs.extract off (off + n)))
  | some false, some _ => cs[off]?
  | _, _ => none
theorem get_rel {ρ : Rho} {cs cs' : Array Value} (hs : cs.size = cs'.size) (h : ∀ i, i < cs.size → VRel ρ (cs.getD i undef) (cs'.getD i undef)) {i : Nat} {v : Value} (hv : cs[i]? = some v) : ∃ v', cs'[i]? = some v' ∧ VRel ρ v v' := by
  obtain ⟨hi, e⟩ := Array.getElem?_eq_some_iff.1 hv
  have h1 := h i hi
  have hi' : i < cs'.size := by omega
  refine ⟨cs'[i], by simp [hi'], ?_⟩
  simpa [Array.getD, hi, hi', e] using h1
theorem rel_of_get {ρ : Rho} {cs cs' : Array Value} (h : ∀ (i : Nat) (v : Value), cs[i]? = some v → ∃ v', cs'[i]? = some v' ∧ VRel ρ v v') : ∀ i, i < cs.size → VRel ρ (cs.getD i undef) (cs'.getD i undef) := by
  intro i hi
  obtain ⟨v', h1, h2⟩ := h i cs[i] (by simp [hi])
  obtain ⟨hi', e⟩ := Array.getElem?_eq_some_iff.1 h1
  simpa [Array.getD, hi, hi', e] using h2
theorem part_run {t : TypeId} {cs cs' : Array Value} {off : Nat} {v : Value} {ρ : Rho} (hs : cs.size = cs'.size) (h : ∀ i, i < cs.size → VRel ρ (cs.getD i undef) (cs'.getD i undef)) (hp : partOf P t cs off = some v) (w : World) :
    ∃ v', (part t cs' off).run P w = .ok v' w ∧ VRel ρ v v' := by
  unfold partOf at hp
  split at hp
  · rename_i n h1 h2
    obtain rfl := Option.some.inj hp
    refine ⟨.agg (cs'.extract off (off + n)), by simp [part, Sem.run_bind, run_isAggB h1, run_size h2], .agg (by simp [hs]) (rel_of_get (fun i v hv => ?_))⟩
    rw [Array.getElem?_extract] at hv ⊢
    split at hv
    · rename_i hlt
      rw [hs] at hlt
      rw [if_pos hlt]
      exact get_rel hs h hv
    · cases hv
  · rename_i n h1 h2
    obtain ⟨v', e1, e2⟩ := get_rel hs h hp
    refine ⟨v', ?_, e2⟩
    simp [part, Sem.run_bind, run_isAggB h1, e1]
  · cases hp
theorem pure_field {t : TypeId} {x : Operand} {f : Nat} {cs : Array Value} {fs : Array Field} {fl : Field} {v : Value} (ho : o.op = .field t x f) (hx : a.eval x = .agg cs) (hu : P.underlying t = some (.struct fs)) (hf : fs[f]? = some fl)
    (hp : partOf P fl.type cs fl.offset = some v) : PureOp P o a v := by
  intro ρ ar w hrel
  have g0 := hrel x (by simp [ho, Op.operands])
  rw [hx] at g0
  obtain ⟨cs', e, hs, h⟩ := g0.agg_inv
  obtain ⟨v', h1, h2⟩ := part_run hs h hp w
  refine ⟨v', ?_, h2⟩
  simp [execOp, ho, e, Sem.run_bind, Instr.field, run_under hu, hf, asAgg, h1]
theorem pure_indexA {t e : TypeId} {x ix : Operand} {n s : Nat} {cs : Array Value} {v : Value} {k : IntKind} {j : Int} (ho : o.op = .index t x ix) (hx : a.eval x = .agg cs) (hi : a.eval ix = .int k j) (hu : P.underlying t = some (.array n e)) (hs : tsize P e = some s)
    (h0 : 0 ≤ j) (h1 : j < n) (hp : partOf P e cs (j.toNat * s) = some v) : PureOp P o a v := by
  intro ρ ar w hrel
  have g0 := hrel x (by simp [ho, Op.operands])
  have g1 := hrel ix (by simp [ho, Op.operands])
  rw [hx] at g0
  rw [hi] at g1
  obtain ⟨cs', e, hz, h⟩ := g0.agg_inv
  obtain ⟨v', k1, k2⟩ := part_run hz h hp w
  refine ⟨v', ?_, k2⟩
  simp [execOp, ho, e, g1.int_inv, Sem.run_bind, Instr.index, asIntOf, run_under hu, h0, h1, run_size hs, k1]
theorem pure_extract {x : Operand} {f : Nat} {cs : Array Value} {v : Value} (ho : o.op = .extract x f) (hx : a.eval x = .tuple cs) (hp : cs[f]? = some v) : PureOp P o a v := by
  intro ρ ar w hrel
  have g0 := hrel x (by simp [ho, Op.operands])
  rw [hx] at g0
  obtain ⟨cs', e, hs, h⟩ := g0.tup_inv
  obtain ⟨v', h1, h2⟩ := get_rel hs h hp
  refine ⟨v', ?_, h2⟩
  simp [execOp, ho, e, Sem.run_bind, Instr.extract, h1]
theorem pure_makeFunc {g : FuncId} {fs cs : Array Operand} (ho : o.op = .makeFunc (.func g) fs cs) : PureOp P o a (.func (.func g) (fs.map a.eval) (cs.map a.eval)) := by
  intro ρ ar w hrel
  have hm : ∀ (l : Array Operand), (∀ x ∈ l, x ∈ o.op.operands) → ∀ i, i < (l.map a.eval).size → VRel ρ ((l.map a.eval).getD i undef) ((l.map ar.eval).getD i undef) := by
    intro l hl
    refine rel_of_get (fun i v hv => ?_)
    rw [Array.getElem?_map] at hv ⊢
    obtain ⟨x, h1, rfl⟩ := Option.map_eq_some_iff.mp hv
    exact ⟨_, by rw [h1]; rfl, hrel x (hl x (Array.mem_of_getElem? h1))⟩
  refine ⟨.func (.func g) (fs.map ar.eval) (cs.map ar.eval), ?_, .fn (by simp) (hm fs (fun x hx => by simp [ho, Op.operands, hx])) (by simp) (hm cs (fun x hx => by simp [ho, Op.operands, hx]))⟩
  simp [execOp, ho, Sem.run_bind, Instr.makeFunc]
theorem pure_makeInterface {t : TypeId} {x : Operand} {d : TypeDesc} (ho : o.op = .makeInterface t x) (hu : P.underlying t = some d) (hd : (match d with | .interface _ => true | _ => false) = false) : PureOp P o a (.iface t (a.eval x)) := by
  intro ρ ar w hrel
  refine ⟨.iface t (ar.eval x), ?_, .ifc (hrel x (by simp [ho, Op.operands]))⟩
  simp only [execOp, ho, Sem.run_bind, Instr.makeInterface, run_under hu, Result.andThen_ok]
  cases d <;> first | (simp at hd; done) | rfl

/-- Of two values one of which is nil: are they the same. -/
def nilEq (d : TypeDesc) (x y : Value) : Option Bool :=
  match d with
  | .pointer _ => (match x, y with
    | .pointer none, .pointer none => some true
    | .pointer none, .pointer (some _) => some false
    | .pointer (some _), .pointer none => some false
    | _, _ => none)
  | .slice _ => (match x, y with
    | .slice none 0 0, .slice none 0 0 => some true
    | .slice none 0 0, .slice (some _) _ _ => some false
    | .slice (some _) _ _, .slice none 0 0 => some false
    | _, _ => none)
  | .map _ _ => (match x, y with
    | .map none, .map none => some true
    | .map none, .map (some _) => some false
    | .map (some _), .map none => some false
    | _, _ => none)
  | .func _ _ _ => (match x, y with
    | .nilFunc, .nilFunc => some true
    | .nilFunc, .func _ _ _ => some false
    | .func _ _ _, .nilFunc => some false
    | _, _ => none)
  | _ => none
theorem VRel.someptr {ρ : Rho} {q : Addr} {v' : Value} (h : VRel ρ (.pointer (some q)) v') : ∃ q', v' = .pointer (some q') := by
  cases h with
  | base h => simp [scal] at h
  | ptr h => exact ⟨_, rfl⟩
theorem VRel.someslc {ρ : Rho} {q : Addr} {n c : Nat} {v' : Value} (h : VRel ρ (.slice (some q) n c) v') : ∃ q' c', v' = .slice (some q') n c' := by
  cases h with
  | base h => simp [scal] at h
  | slc h hc => exact ⟨_, _, rfl⟩
  | slc0 => exact ⟨_, _, rfl⟩
  | slcE => exact ⟨_, _, rfl⟩
theorem VRel.somemap {ρ : Rho} {q : Nat} {v' : Value} (h : VRel ρ (.map (some q)) v') : ∃ q', v' = .map (some q') := by
  obtain ⟨R, _, e⟩ := h.map_inv
  exact ⟨_, e⟩
theorem VRel.somefn {ρ : Rho} {f : Fn} {fs cs : Array Value} {v' : Value} (h : VRel ρ (.func f fs cs) v') : ∃ f' fs' cs', v' = .func f' fs' cs' := by
  cases h with
  | base h => simp [scal] at h
  | fn h1 h2 h3 h4 => exact ⟨_, _, _, rfl⟩
  | yld h => exact ⟨_, _, _, rfl⟩
theorem nilEq_run {t : TypeId} {d : TypeDesc} (hu : P.underlying t = some d) {x y x' y' : Value} {b : Bool} {ρ : Rho} (h : nilEq d x y = some b) (hx : VRel ρ x x') (hy : VRel ρ y y') (k : Nat) (w : World) :
    (Op.equalIn (k + 1) t x' y').run P w = .ok b w := by
  unfold nilEq at h
  split at h <;> first | (cases h; done) | (split at h <;> first | (cases h; done) | obtain rfl := Option.some.inj h)
  · rw [scal_eq rfl hx, scal_eq rfl hy]; simp [Op.equalIn, run_under hu]
  · obtain ⟨q, rfl⟩ := hy.someptr; rw [scal_eq rfl hx]; simp [Op.equalIn, run_under hu]
  · obtain ⟨q, rfl⟩ := hx.someptr; rw [scal_eq rfl hy]; simp [Op.equalIn, run_under hu]
  · rw [scal_eq rfl hx, scal_eq rfl hy]; simp [Op.equalIn, run_under hu]
  · obtain ⟨q, c, rfl⟩ := hy.someslc; rw [scal_eq rfl hx]; simp [Op.equalIn, run_under hu]
  · obtain ⟨q, c, rfl⟩ := hx.someslc; rw [scal_eq rfl hy]; simp [Op.equalIn, run_under hu]
  · rw [scal_eq rfl hx, scal_eq rfl hy]; simp [Op.equalIn, run_under hu]
  · obtain ⟨q, rfl⟩ := hy.somemap; rw [scal_eq rfl hx]; simp [Op.equalIn, run_under hu]
  · obtain ⟨q, rfl⟩ := hx.somemap; rw [scal_eq rfl hy]; simp [Op.equalIn, run_under hu]
  · rw [scal_eq rfl hx, scal_eq rfl hy]; simp [Op.equalIn, run_under hu]
  · obtain ⟨f, fs, cs, rfl⟩ := hy.somefn; rw [scal_eq rfl hx]; simp [Op.equalIn, run_under hu]
  · obtain ⟨f, fs, cs, rfl⟩ := hx.somefn; rw [scal_eq rfl hy]; simp [Op.equalIn, run_under hu]
theorem nilEq_shape (P : Program) {d : TypeDesc} {x y x' y' : Value} {b : Bool} {ρ : Rho} (h : nilEq d x y = some b) (hx : VRel ρ x x') (hy : VRel ρ y y') (t : TypeId) (c1 c2 : Operand) (w : World) :
    (eqGuard .eql t c1 c2 x' y').run P w = .ok () w ∧ (eqGuard .neq t c1 c2 x' y').run P w = .ok () w ∧ binOp .eql t x' y' = (do pure (.bool (← Op.equal t x' y'))) ∧ binOp .neq t x' y' = (do pure (.bool (!(← Op.equal t x' y')))) := by
  unfold nilEq at h
  split at h <;> first | (cases h; done) | (split at h <;> first | (cases h; done) | obtain rfl := Option.some.inj h)
  · rw [scal_eq rfl hx, scal_eq rfl hy]; exact ⟨rfl, rfl, rfl, rfl⟩
  · obtain ⟨q, rfl⟩ := hy.someptr; rw [scal_eq rfl hx]; exact ⟨rfl, rfl, rfl, rfl⟩
  · obtain ⟨q, rfl⟩ := hx.someptr; rw [scal_eq rfl hy]; exact ⟨rfl, rfl, rfl, rfl⟩
  · rw [scal_eq rfl hx, scal_eq rfl hy]; exact ⟨rfl, rfl, rfl, rfl⟩
  · obtain ⟨q, c, rfl⟩ := hy.someslc; rw [scal_eq rfl hx]; exact ⟨rfl, rfl, rfl, rfl⟩
  · obtain ⟨q, c, rfl⟩ := hx.someslc; rw [scal_eq rfl hy]; exact ⟨rfl, rfl, rfl, rfl⟩
  · rw [scal_eq rfl hx, scal_eq rfl hy]; exact ⟨rfl, rfl, rfl, rfl⟩
  · obtain ⟨q, rfl⟩ := hy.somemap; rw [scal_eq rfl hx]; exact ⟨rfl, rfl, rfl, rfl⟩
  · obtain ⟨q, rfl⟩ := hx.somemap; rw [scal_eq rfl hy]; exact ⟨rfl, rfl, rfl, rfl⟩
  · rw [scal_eq rfl hx, scal_eq rfl hy]; exact ⟨rfl, rfl, rfl, rfl⟩
  · obtain ⟨f, fs, cs, rfl⟩ := hy.somefn; rw [scal_eq rfl hx]; exact ⟨rfl, rfl, rfl, rfl⟩
  · obtain ⟨f, fs, cs, rfl⟩ := hx.somefn; rw [scal_eq rfl hy]; exact ⟨rfl, rfl, rfl, rfl⟩
theorem pure_eqNil {t ty : TypeId} {d : TypeDesc} {x y : Operand} {b : Bool} (ho : o.op = .binOp .eql t x y ty) (hu : P.underlying t = some d) (h : nilEq d (a.eval x) (a.eval y) = some b) : PureOp P o a (.bool b) := by
  intro ρ ar w hrel
  have hx := hrel x (by simp [ho, Op.operands])
  have hy := hrel y (by simp [ho, Op.operands])
  obtain ⟨g1, _, g2, _⟩ := nilEq_shape P h hx hy t x y w
  refine ⟨.bool b, ?_, .base rfl⟩
  simp [execOp, ho, Sem.run_bind, g1, g2, Op.equal, Op.maxDepth, nilEq_run hu h hx hy]
theorem pure_neNil {t ty : TypeId} {d : TypeDesc} {x y : Operand} {b : Bool} (ho : o.op = .binOp .neq t x y ty) (hu : P.underlying t = some d) (h : nilEq d (a.eval x) (a.eval y) = some b) : PureOp P o a (.bool (!b)) := by
  intro ρ ar w hrel
  have hx := hrel x (by simp [ho, Op.operands])
  have hy := hrel y (by simp [ho, Op.operands])
  obtain ⟨_, g1, _, g2⟩ := nilEq_shape P h hx hy t x y w
  refine ⟨.bool !b, ?_, .base rfl⟩
  simp [execOp, ho, Sem.run_bind, g1, g2, Op.equal, Op.maxDepth, nilEq_run hu h hx hy]

/-- 'len' of a slice. -/
theorem pure_lenS {x : Operand} {t : TypeId} {ts : Array TypeId} {c : Call} {q : Option Addr} {n k : Nat} {e : TypeId} (ho : o.op = .call c) (hc : c.callee = .builtin .len) (ha : c.args = #[x]) (ht : c.argTypes[0]? = some t)
    (hx : a.eval x = .slice q n k) (hu : P.underlying t = some (.slice e)) : PureOp P o a (.int .i64 n) := by
  intro ρ ar w hrel
  have hx' := hrel x (by simp [ho, Op.operands, Call.operands, ha])
  rw [hx] at hx'
  have : ∃ q' k', ar.eval x = .slice q' n k' := by
    cases q with
    | none =>
      generalize ar.eval x = z at hx'
      cases hx' with
      | base h => exact ⟨_, _, rfl⟩
    | some q => obtain ⟨q', c', e⟩ := hx'.someslc; exact ⟨_, _, e⟩
  obtain ⟨q', k', e⟩ := this
  refine ⟨.int .i64 n, ?_, .base rfl⟩
  simp [execOp, ho, Sem.run_bind, resolve, hc, ha, invoke, builtin, Builtin.len_, ht, e, run_under hu, goInt]
end ops
end Go.Proofs.Ytmobpbhbllhdcaa.Ideal
end
noncomputable section
namespace Go.Proofs.Ytmobpbhbllhdcaa.Ideal
set_option linter.unusedVariables false
set_option linter.unusedSimpArgs false
set_option linter.unnecessarySimpa false

/-- Arrays of values, pointwise. -/
def ARel (ρ : Rho) (cs cs' : Array Value) : Prop := cs.size = cs'.size ∧ ∀ i, i < cs.size → VRel ρ (cs.getD i undef) (cs'.getD i undef)
theorem ARel.get {ρ : Rho} {cs cs' : Array Value} (h : ARel ρ cs cs') {i : Nat} {v : Value} (hv : cs[i]? = some v) : ∃ v', cs'[i]? = some v' ∧ VRel ρ v v' := get_rel h.1 h.2 hv
theorem ARel.of {ρ : Rho} {cs cs' : Array Value} (hs : cs.size = cs'.size) (h : ∀ (i : Nat) (v : Value), cs[i]? = some v → ∃ v', cs'[i]? = some v' ∧ VRel ρ v v') : ARel ρ cs cs' := ⟨hs, rel_of_get h⟩
theorem ARel.set {ρ : Rho} {cs cs' : Array Value} (h : ARel ρ cs cs') (k : Nat) {v v' : Value} (hv : VRel ρ v v') : ARel ρ (cs.setIfInBounds k v) (cs'.setIfInBounds k v') := by
  refine .of (by simp [h.1]) (fun i x hx => ?_)
  rw [Array.getElem?_setIfInBounds] at hx ⊢
  by_cases e : k = i
  · subst e
    rw [if_pos rfl] at hx ⊢
    by_cases hk : k < cs.size
    · rw [if_pos hk] at hx
      rw [if_pos (by rw [← h.1]; exact hk)]
      cases hx
      exact ⟨_, rfl, hv⟩
    · rw [if_neg hk] at hx
      cases hx
  · rw [if_neg e] at hx ⊢
    exact h.get hx
theorem ARel.cells {ρ : Rho} {v v' : Value} (h : VRel ρ v v') : ARel ρ v.cells v'.cells := by
  have one : ∀ {x x' : Value}, VRel ρ x x' → ARel ρ #[x] #[x'] := fun hx => .of rfl (fun i y hy => by
    match i, hy with
    | 0, hy => simp at hy; subst hy; exact ⟨_, rfl, hx⟩
    | i + 1, hy => simp at hy)
  cases h with
  | agg hs h => exact ⟨hs, h⟩
  | base h =>
    cases v <;> first | exact one (.base h) | (simp [scal] at h)
  | ptr h => exact one (.ptr h)
  | slc h hc => exact one (.slc h hc)
  | slc0 => exact one .slc0
  | slcE => exact one .slcE
  | mp h => exact one (.mp h)
  | tup a b => exact one (.tup a b)
  | fn a b c d => exact one (.fn a b c d)
  | yld h => exact one (.yld h)
  | ifc h => exact one (.ifc h)
theorem ARel.plain {ρ : Rho} {cs : Array Value} (h : cs.all scal = true) : ARel ρ cs cs := by
  rw [Array.all_eq_true_iff_forall_mem] at h
  exact ⟨rfl, fun i hi => .base (h _ (getD_mem hi))⟩

theorem foldl_rel {ρ : Rho} (off : Nat) : ∀ (l l' : List Value) (n : Nat) (A A' : Array Value), LRel ρ l l' → ARel ρ A A' →
    ARel ρ ((l.zipIdx n).foldl (fun cs (x : Value × Nat) => cs.setIfInBounds (off + x.2) x.1) A) ((l'.zipIdx n).foldl (fun cs (x : Value × Nat) => cs.setIfInBounds (off + x.2) x.1) A')
  | [], l', n, A, A', h, hA => by
    have : l' = [] := List.eq_nil_of_length_eq_zero h.1.symm
    subst this; exact hA
  | x :: l, l', n, A, A', h, hA => by
    cases l' with
    | nil => exact absurd h.1 (by simp)
    | cons x' l' =>
      obtain ⟨y, hy, hr⟩ := h.2 0 x rfl
      simp at hy
      subst hy
      simp only [List.zipIdx_cons, List.foldl_cons]
      exact foldl_rel off l l' (n + 1) _ _ ⟨by simpa using h.1, fun i v hv => by simpa using h.2 (i + 1) v (by simpa using hv)⟩ (hA.set _ hr)
theorem LRel.of_arr {ρ : Rho} {cs cs' : Array Value} (h : ARel ρ cs cs') : LRel ρ cs.toList cs'.toList :=
  ⟨by simp [h.1], fun i v hv => by
    rw [Array.getElem?_toList] at hv
    obtain ⟨v', h1, h2⟩ := h.get hv
    exact ⟨v', by rw [Array.getElem?_toList]; exact h1, h2⟩⟩
theorem ARel.of_list {ρ : Rho} {cs cs' : List Value} (h : LRel ρ cs cs') : ARel ρ cs.toArray cs'.toArray :=
  .of (by simp [h.1]) (fun i v hv => by simpa using h.2 i v (by simpa using hv))

/-- Parts, pointwise. -/
inductive PRel (ρ : Rho) : List (Nat × Value) → List (Nat × Value) → Prop
  | nil : PRel ρ [] []
  | cons {i : Nat} {v v' : Value} {l l' : List (Nat × Value)} (h : VRel ρ v v') (t : PRel ρ l l') : PRel ρ ((i, v) :: l) ((i, v') :: l')
theorem fill_rel {ρ : Rho} (place : Nat → Option (Nat × Nat)) : ∀ (l l' : List (Nat × Value)) (A A' out : Array Value), PRel ρ l l' → ARel ρ A A' → Instr.fill place A l = some out → ∃ out', Instr.fill place A' l' = some out' ∧ ARel ρ out out' := by
  intro l l' A A' out h
  induction h generalizing A A' with
  | nil =>
    intro hA hf
    simp only [Instr.fill, Option.some.injEq] at hf
    subst hf
    exact ⟨A', rfl, hA⟩
  | cons hv _ ih =>
    rename_i i v v' l l' _
    intro hA hf
    have hc := ARel.cells hv
    simp only [Instr.fill] at hf ⊢
    split at hf
    · cases hf
    · rename_i off size hp
      split at hf
      · cases hf
      · rename_i hne
        rw [if_neg (by rw [← hc.1, ← hA.1]; exact hne)]
        have hz := foldl_rel off v.cells.toList v'.cells.toList 0 A A' (.of_arr hc) hA
        refine ih _ _ ?_ hf
        rw [← Array.foldl_toList, ← Array.foldl_toList, Array.toList_zipIdx, Array.toList_zipIdx]
        exact hz
theorem parts_rel {ρ : Rho} {a ar : Act} (ps : Array (Nat × Operand)) (h : ∀ p ∈ ps, VRel ρ (a.eval p.2) (ar.eval p.2)) : PRel ρ (ps.map fun (i, x) => (i, a.eval x)).toList (ps.map fun (i, x) => (i, ar.eval x)).toList := by
  rw [Array.toList_map, Array.toList_map]
  have hl : ∀ p ∈ ps.toList, VRel ρ (a.eval p.2) (ar.eval p.2) := fun p hp => h p (by simpa using hp)
  generalize ps.toList = l at hl
  induction l with
  | nil => exact .nil
  | cons p l ih => exact .cons (hl p (by simp)) (ih (fun q hq => hl q (by simp [hq])))

/-- The cells of a type's zero value. -/
def zeroOf (P : Program) (t : TypeId) : Option (Array Value) :=
  match (P.info? t).bind (·.zero) with
  | some z => if z.cells.all scal then some z.cells else none
  | none => none
theorem zeroOf_inv {P : Program} {t : TypeId} {cs : Array Value} (h : zeroOf P t = some cs) : ∃ z, z.cells = cs ∧ cs.all scal = true ∧ ∀ w, (zeroValue t).run P w = .ok z w := by
  unfold zeroOf at h
  split at h
  · rename_i z hz
    split at h
    · rename_i hs
      obtain rfl := Option.some.inj h
      refine ⟨z, rfl, hs, fun w => ?_⟩
      obtain ⟨i, h1, h2⟩ := Option.bind_eq_some_iff.mp hz
      simp [zeroValue, typeInfo, program, Sem.run_bind, Sem.run, h1, h2]
    · cases h
  · cases h
/-- Where the fields of a struct, or the elements of an array, lie. -/
def placesOf (P : Program) (t : TypeId) : Option (Nat → Option (Nat × Nat)) :=
  match P.underlying t with
  | some (.struct fs) => (pureVal P (fs.mapM fun f => (do pure (f.offset, ← sizeOf f.type) : Sem (Nat × Nat)))).map fun ps => (ps[·]?)
  | some (.array _ e) => (tsize P e).map fun s => fun i => some (i * s, s)
  | _ => none
def buildOf (P : Program) (t : TypeId) (parts : List (Nat × Value)) : Option Value :=
  match zeroOf P t, placesOf P t with
  | some z, some pl => (Instr.fill pl z parts).map .agg
  | _, _ => none
theorem build_run {P : Program} {t : TypeId} {ps ps' : Array (Nat × Value)} {v : Value} {ρ : Rho} (h : PRel ρ ps.toList ps'.toList) (hb : buildOf P t ps.toList = some v) (w : World) :
    ∃ v', (Instr.build t ps').run P w = .ok v' w ∧ VRel ρ v v' := by
  unfold buildOf at hb
  split at hb
  · rename_i z pl hz hpl
    obtain ⟨out, hf, rfl⟩ := Option.map_eq_some_iff.mp hb
    obtain ⟨z0, rfl, hsc, hzr⟩ := zeroOf_inv hz
    obtain ⟨out', hf', hr⟩ := fill_rel pl _ _ _ _ _ h (.plain hsc) hf
    refine ⟨.agg out', ?_, .agg hr.1 hr.2⟩
    unfold placesOf at hpl
    split at hpl
    · rename_i fs hu
      obtain ⟨pls, hp, rfl⟩ := Option.map_eq_some_iff.mp hpl
      have := run_pureVal hp w
      simp only [Instr.build, Sem.run_bind, hzr, Result.andThen_ok, run_under hu, this, hf']
      rfl
    · rename_i n e hu
      obtain ⟨s, hs, rfl⟩ := Option.map_eq_some_iff.mp hpl
      simp only [Instr.build, Sem.run_bind, hzr, Result.andThen_ok, run_under hu, run_size hs, hf']
      rfl
    · cases hpl
  · cases hb
theorem pure_build {P : Program} {o : Oper} {a : Act} {t : TypeId} {ps : Array (Nat × Operand)} {v : Value} (ho : o.op = .build t ps) (hb : buildOf P t (ps.map fun (i, x) => (i, a.eval x)).toList = some v) : PureOp P o a v := by
  intro ρ ar w hrel
  obtain ⟨v', h1, h2⟩ := build_run (parts_rel ps (fun p hp => hrel p.2 (by simp [ho, Op.operands]; exact ⟨p.1, hp⟩))) hb w
  refine ⟨v', ?_, h2⟩
  simp only [execOp, ho, Sem.run_bind, h1, Result.andThen_ok]
  rfl

/-- A bound of a slice. -/
def bnd (v : Value) (y : Nat) : Option Nat := match v with | .int _ i => if 0 ≤ i ∧ i ≤ y then some i.toNat else none | _ => none
def bounds (n cap : Nat) (lo hi mx : Option Value) : Option (Nat × Nat × Nat) :=
  match (match mx with | some v => bnd v cap | none => some cap) with
  | some m => (match (match hi with | some v => bnd v m | none => (match mx with | some _ => none | none => some n)) with
    | some h => if h ≤ m then (match (match lo with | some v => bnd v h | none => some 0) with
      | some l => some (l, h, m)
      | none => none) else none
    | none => none)
  | none => none
theorem bnd_inv {v : Value} {y k : Nat} (h : bnd v y = some k) : ∃ q i, v = .int q i ∧ 0 ≤ i ∧ i ≤ y ∧ k = i.toNat := by
  unfold bnd at h
  split at h
  · rename_i q i
    split at h
    · rename_i hc
      exact ⟨q, i, rfl, hc.1, hc.2, (Option.some.inj h).symm⟩
    · cases h
  · cases h
theorem bnd_run {P : Program} {v : Value} {y y' k : Nat} (h : bnd v y = some k) (hy : y ≤ y') (code : BoundsCode) (w : World) : (Instr.sliceBound v y' code).run P w = .ok k w := by
  obtain ⟨q, i, rfl, h0, h1, rfl⟩ := bnd_inv h
  have : i ≤ y' := by omega
  simp [Instr.sliceBound, Sem.run_bind, asIntOf, h0, this]
theorem bnd_le {v : Value} {y k : Nat} (h : bnd v y = some k) : k ≤ y := by
  obtain ⟨q, i, rfl, h0, h1, rfl⟩ := bnd_inv h
  omega
theorem bounds_run {P : Program} {n cap cap' l h m : Nat} {lo hi mx : Option Value} (hb : bounds n cap lo hi mx = some (l, h, m)) (hc : cap ≤ cap') (isS : Bool) (w : World) :
    ∃ m', (Instr.sliceBounds isS n cap' lo hi mx).run P w = .ok (l, h, m') w ∧ l ≤ h ∧ h ≤ m ∧ m ≤ m' ∧ (m' = m ∨ (m = cap ∧ m' = cap')) ∧ (mx.isSome = true → m' = m) := by
  unfold bounds at hb
  split at hb
  · rename_i m0 hm
    split at hb
    · rename_i h0 hh
      split at hb
      · rename_i hle
        split at hb
        · rename_i l0 hl
          cases hb
          have hl0 : l ≤ h := by
            split at hl
            · exact bnd_le hl
            · cases hl; omega
          cases mx with
          | none =>
            simp only [Option.some.injEq] at hm
            subst hm
            refine ⟨cap', ?_, hl0, hle, hc, .inr ⟨rfl, rfl⟩, fun h => by cases h⟩
            cases hi with
            | none =>
              simp only [Option.some.injEq] at hh
              subst hh
              cases lo with
              | none => simp only [Option.some.injEq] at hl; subst hl; simp [Instr.sliceBounds, Sem.run_bind]
              | some vl => simp [Instr.sliceBounds, Sem.run_bind, bnd_run hl (Nat.le_refl _)]
            | some vh =>
              cases lo with
              | none => simp only [Option.some.injEq] at hl; subst hl; simp [Instr.sliceBounds, Sem.run_bind, bnd_run hh hc]
              | some vl => simp [Instr.sliceBounds, Sem.run_bind, bnd_run hh hc, bnd_run hl (Nat.le_refl _)]
          | some vm =>
            refine ⟨m, ?_, hl0, hle, Nat.le_refl _, .inl rfl, fun _ => rfl⟩
            cases hi with
            | none => cases hh
            | some vh =>
              cases lo with
              | none => simp only [Option.some.injEq] at hl; subst hl; simp [Instr.sliceBounds, Sem.run_bind, bnd_run hm hc, bnd_run hh (Nat.le_refl _)]
              | some vl => simp [Instr.sliceBounds, Sem.run_bind, bnd_run hm hc, bnd_run hh (Nat.le_refl _), bnd_run hl (Nat.le_refl _)]
        · cases hb
      · cases hb
    · cases hb
  · cases hb
end Go.Proofs.Ytmobpbhbllhdcaa.Ideal
end
