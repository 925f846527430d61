/- The ideal heap: a memory whose blocks have numbers of their own; what it means that a world bears it. -/
import Derived.RangeFuncLeaves
import Derived.OrdersIn
import Derived.KernelRfl
import Derived.Calls
noncomputable section
namespace Go.Proofs.Ytfgaggpfdckggaa.Ideal
set_option linter.unusedVariables false
set_option linter.unusedSimpArgs false
set_option linter.unnecessarySimpa false

/-- A block of the ideal heap. A row's cells; esz: the size of what is appended to it; ro: it is not ours to write. -/
inductive IObj where
  | row (ro : Bool) (esz : Nat) (cs : List Value)
  | map (es : List MapEntry) (clock : Nat)
  | loop (l : Loop)
  | defs
  | iter (m : Option Nat) (since : Nat) (seen : Array Nat) (last : Nat)
  | dead
  deriving Inhabited

def IObj.isRo : IObj → Bool
  | .row ro _ _ => ro
  | _ => false

inductive Trie (α : Type) where
  | leaf
  | node (l : Trie α) (v : α) (r : Trie α)
  deriving Inhabited

def Trie.lft {α : Type} : Trie α → Trie α | .leaf => .leaf | .node l _ _ => l
def Trie.rgt {α : Type} : Trie α → Trie α | .leaf => .leaf | .node _ _ r => r
def Trie.val {α : Type} (d : α) : Trie α → α | .leaf => d | .node _ v _ => v
def Trie.get {α : Type} (d : α) : Nat → Trie α → Nat → α
  | 0, t, _ => t.val d
  | f + 1, t, k => if k = 0 then t.val d else if k % 2 = 1 then Trie.get d f t.lft (k / 2) else Trie.get d f t.rgt (k / 2 - 1)
def Trie.set {α : Type} (d : α) : Nat → Trie α → Nat → α → Trie α
  | 0, t, _, o => .node t.lft o t.rgt
  | f + 1, t, k, o => if k = 0 then .node t.lft o t.rgt else if k % 2 = 1 then .node (Trie.set d f t.lft (k / 2) o) (t.val d) t.rgt else .node t.lft (t.val d) (Trie.set d f t.rgt (k / 2 - 1) o)

theorem Trie.get_set {α : Type} (d : α) : ∀ (f f' : Nat) (t : Trie α) (i j : Nat) (o : α), i ≤ f → j ≤ f' → Trie.get d f' (Trie.set d f t i o) j = if i = j then o else Trie.get d f' t j
  | 0, 0, t, i, j, o, hi, hj => by
    have : i = j := by omega
    simp [Trie.get, Trie.set, Trie.val, this]
  | 0, f' + 1, t, i, j, o, hi, hj => by
    have : i = 0 := by omega
    subst this
    by_cases h : j = 0
    · subst h; simp [Trie.get, Trie.set, Trie.val]
    · have h' : ¬ 0 = j := fun e => h e.symm
      simp [Trie.get, Trie.set, Trie.lft, Trie.rgt, h, h']
  | f + 1, 0, t, i, j, o, hi, hj => by
    have : j = 0 := by omega
    subst this
    by_cases h : i = 0
    · subst h; simp [Trie.get, Trie.set, Trie.val]
    · by_cases p : i % 2 = 1 <;> simp [Trie.get, Trie.set, Trie.val, h, p]
  | f + 1, f' + 1, t, i, j, o, hi, hj => by
    by_cases h : i = 0
    · subst h
      by_cases h' : j = 0
      · subst h'; simp [Trie.get, Trie.set, Trie.val]
      · have h'' : ¬ 0 = j := fun e => h' e.symm
        simp [Trie.get, Trie.set, Trie.lft, Trie.rgt, h', h'']
    · by_cases h' : j = 0
      · subst h'
        by_cases p : i % 2 = 1 <;> simp [Trie.get, Trie.set, Trie.val, h, p]
      · simp only [Trie.get, Trie.set, if_neg h, if_neg h']
        by_cases p : i % 2 = 1 <;> by_cases q : j % 2 = 1
        · simp only [if_pos p, if_pos q, Trie.lft]
          rw [Trie.get_set d f f' _ _ _ _ (by omega) (by omega)]
          by_cases e : i = j
          · simp [e]
          · rw [if_neg e, if_neg (by omega)]
        · simp only [if_pos p, if_neg q, Trie.rgt]
          rw [if_neg (by omega)]
        · simp only [if_neg p, if_pos q, Trie.lft]
          rw [if_neg (by omega)]
        · simp only [if_neg p, if_neg q, Trie.rgt]
          rw [Trie.get_set d f f' _ _ _ _ (by omega) (by omega)]
          by_cases e : i = j
          · simp [e]
          · rw [if_neg e, if_neg (by omega)]

theorem Trie.get_leaf {α : Type} (d : α) : ∀ (f i : Nat), Trie.get d f .leaf i = d
  | 0, _ => rfl
  | f + 1, i => by
    unfold Trie.get
    split
    · rfl
    · split <;> exact Trie.get_leaf d f _
/-! The same two, for the kernel: by the recursor, on bare numbers; what is laid down is laid out. -/
def oddB (i : Nat) : Bool := Nat.beq (Nat.land i (nat_lit 1)) (nat_lit 1)
theorem oddB_eq (i : Nat) : oddB i = decide (i % 2 = 1) := by
  unfold oddB
  have : Nat.land i 1 = i % 2 := Nat.and_one_is_mod i
  rw [show Nat.land i (nat_lit 1) = i % 2 from this]
  have h3 : i % 2 = 0 ∨ i % 2 = 1 := by omega
  rcases h3 with h | h <;> rw [h] <;> rfl
def Trie.getR {α : Type} (d : α) (t : Trie α) : Nat → α :=
  Trie.rec (motive := fun _ => Nat → α) (fun _ => d) (fun _ v _ il ir i => cond (Nat.beq i (nat_lit 0)) v (cond (Nat.beq (Nat.land i (nat_lit 1)) (nat_lit 1)) (il (Nat.div i (nat_lit 2))) (ir (Nat.sub (Nat.div i (nat_lit 2)) (nat_lit 1))))) t
theorem cond_beq0 {α : Type} (i : Nat) (x y : α) : cond (Nat.beq i (nat_lit 0)) x y = if i = 0 then x else y := by
  cases i <;> rfl
theorem cond_odd {α : Type} (i : Nat) (x y : α) : cond (Nat.beq (Nat.land i (nat_lit 1)) (nat_lit 1)) x y = if i % 2 = 1 then x else y := by
  have := oddB_eq i
  unfold oddB at this
  rw [this]
  by_cases h : i % 2 = 1 <;> simp [h]
theorem Trie.getR_eq {α : Type} (d : α) : ∀ (t : Trie α) (f i : Nat), i ≤ f → Trie.getR d t i = Trie.get d f t i
  | .leaf, f, i, _ => (Trie.get_leaf d f i).symm
  | .node l v r, f, i, hi => by
    have e : Trie.getR d (.node l v r) i = cond (Nat.beq i (nat_lit 0)) v (cond (Nat.beq (Nat.land i (nat_lit 1)) (nat_lit 1)) (Trie.getR d l (Nat.div i (nat_lit 2))) (Trie.getR d r (Nat.sub (Nat.div i (nat_lit 2)) (nat_lit 1)))) := rfl
    rw [e, cond_beq0, cond_odd]
    cases f with
    | zero =>
      have : i = 0 := by omega
      subst this
      rfl
    | succ f =>
      unfold Trie.get
      by_cases h : i = 0
      · rw [if_pos h, if_pos h]; rfl
      · rw [if_neg h, if_neg h]
        by_cases h2 : i % 2 = 1
        · rw [if_pos h2, if_pos h2]
          exact Trie.getR_eq d l f _ (by show i / 2 ≤ f; omega)
        · rw [if_neg h2, if_neg h2]
          exact Trie.getR_eq d r f _ (by show i / 2 - 1 ≤ f; omega)
def Trie.pathK {α β : Type} (d o : α) (f : Nat) : Nat → (Trie α → β) → β :=
  Nat.rec (motive := fun _ => Nat → (Trie α → β) → β) (fun _ k => k (.node .leaf o .leaf)) (fun _ ih i k => cond (Nat.beq i (nat_lit 0)) (k (.node .leaf o .leaf))
    (cond (Nat.beq (Nat.land i (nat_lit 1)) (nat_lit 1)) (ih (Nat.div i (nat_lit 2)) fun l' => k (.node l' d .leaf)) (ih (Nat.sub (Nat.div i (nat_lit 2)) (nat_lit 1)) fun r' => k (.node .leaf d r')))) f
def Trie.setR {α β : Type} (d : α) (t : Trie α) (o : α) : Nat → (Trie α → β) → β :=
  Trie.rec (motive := fun _ => Nat → (Trie α → β) → β) (fun i k => Trie.pathK d o i i k) (fun l v r il ir i k => cond (Nat.beq i (nat_lit 0)) (k (.node l o r))
    (cond (Nat.beq (Nat.land i (nat_lit 1)) (nat_lit 1)) (il (Nat.div i (nat_lit 2)) fun l' => k (.node l' v r)) (ir (Nat.sub (Nat.div i (nat_lit 2)) (nat_lit 1)) fun r' => k (.node l v r')))) t
theorem Trie.pathK_eq {α β : Type} (d o : α) : ∀ (g f i : Nat) (k : Trie α → β), i ≤ g → i ≤ f → Trie.pathK d o g i k = k (Trie.set d f .leaf i o)
  | 0, f, i, k, hg, hf => by
    have : i = 0 := by omega
    subst this
    cases f <;> rfl
  | g + 1, f, i, k, hg, hf => by
    have e : Trie.pathK d o (g + 1) i k = cond (Nat.beq i (nat_lit 0)) (k (.node .leaf o .leaf)) (cond (Nat.beq (Nat.land i (nat_lit 1)) (nat_lit 1)) (Trie.pathK d o g (Nat.div i (nat_lit 2)) fun l' => k (.node l' d .leaf)) (Trie.pathK d o g (Nat.sub (Nat.div i (nat_lit 2)) (nat_lit 1)) fun r' => k (.node .leaf d r'))) := rfl
    rw [e, cond_beq0, cond_odd]
    cases f with
    | zero =>
      have : i = 0 := by omega
      subst this
      rfl
    | succ f =>
      unfold Trie.set
      by_cases h : i = 0
      · rw [if_pos h, if_pos h]; rfl
      · rw [if_neg h, if_neg h]
        by_cases h2 : i % 2 = 1
        · rw [if_pos h2, if_pos h2, Trie.pathK_eq d o g f _ _ (by show i / 2 ≤ g; omega) (by show i / 2 ≤ f; omega)]; rfl
        · rw [if_neg h2, if_neg h2, Trie.pathK_eq d o g f _ _ (by show i / 2 - 1 ≤ g; omega) (by show i / 2 - 1 ≤ f; omega)]; rfl
theorem Trie.setR_eq {α β : Type} (d o : α) : ∀ (t : Trie α) (f i : Nat) (k : Trie α → β), i ≤ f → Trie.setR d t o i k = k (Trie.set d f t i o)
  | .leaf, f, i, k, hf => Trie.pathK_eq d o i f i k (Nat.le_refl _) hf
  | .node l v r, f, i, k, hf => by
    have e : Trie.setR d (.node l v r) o i k = cond (Nat.beq i (nat_lit 0)) (k (.node l o r)) (cond (Nat.beq (Nat.land i (nat_lit 1)) (nat_lit 1)) (Trie.setR d l o (Nat.div i (nat_lit 2)) fun l' => k (.node l' v r)) (Trie.setR d r o (Nat.sub (Nat.div i (nat_lit 2)) (nat_lit 1)) fun r' => k (.node l v r'))) := rfl
    rw [e, cond_beq0, cond_odd]
    cases f with
    | zero =>
      have : i = 0 := by omega
      subst this
      rfl
    | succ f =>
      unfold Trie.set
      by_cases h : i = 0
      · rw [if_pos h, if_pos h]; rfl
      · rw [if_neg h, if_neg h]
        by_cases h2 : i % 2 = 1
        · rw [if_pos h2, if_pos h2, Trie.setR_eq d o l f _ _ (by show i / 2 ≤ f; omega)]; rfl
        · rw [if_neg h2, if_neg h2, Trie.setR_eq d o r f _ _ (by show i / 2 - 1 ≤ f; omega)]; rfl
theorem cond_lt {α : Type} (i n : Nat) (x y : α) : cond (Nat.ble (Nat.succ i) n) x y = if i < n then x else y := by
  by_cases h : i < n
  · rw [if_pos h, show Nat.ble (Nat.succ i) n = true from Nat.ble_eq_true_of_le h]; rfl
  · rw [if_neg h]
    cases hb : Nat.ble (Nat.succ i) n with
    | true => exact absurd (Nat.le_of_ble_eq_true hb) h
    | false => rfl

structure IHeap where
  size : Nat
  t : Trie IObj
  deriving Inhabited

def IHeap.get (h : IHeap) (i : Nat) : Option IObj := cond (Nat.ble (Nat.succ i) h.size) (some (Trie.getR .dead h.t i)) none
theorem IHeap.get_def (h : IHeap) (i : Nat) : h.get i = if i < h.size then some (Trie.get .dead i h.t i) else none := by
  unfold IHeap.get
  rw [cond_lt, Trie.getR_eq _ _ i i (Nat.le_refl _)]
def IHeap.set (h : IHeap) (i : Nat) (o : IObj) : IHeap := { h with t := Trie.set .dead i h.t i o }
def IHeap.push (h : IHeap) (o : IObj) : IHeap := { size := h.size + 1, t := Trie.set .dead h.size h.t h.size o }

@[simp] theorem IHeap.size_set (h : IHeap) (i : Nat) (o : IObj) : (h.set i o).size = h.size := rfl
@[simp] theorem IHeap.size_push (h : IHeap) (o : IObj) : (h.push o).size = h.size + 1 := rfl
theorem IHeap.get_set (h : IHeap) (i j : Nat) (o : IObj) (hi : i < h.size) : (h.set i o).get j = if i = j then some o else h.get j := by
  rw [IHeap.get_def, IHeap.get_def]
  unfold IHeap.set
  dsimp only
  rw [Trie.get_set _ _ _ _ _ _ _ (Nat.le_refl _) (Nat.le_refl _)]
  by_cases e : i = j
  · subst e; rw [if_pos rfl, if_pos rfl, if_pos hi]
  · rw [if_neg e, if_neg e]
theorem IHeap.get_push (h : IHeap) (j : Nat) (o : IObj) : (h.push o).get j = if j = h.size then some o else h.get j := by
  rw [IHeap.get_def, IHeap.get_def]
  unfold IHeap.push
  dsimp only
  rw [Trie.get_set _ _ _ _ _ _ _ (Nat.le_refl _) (Nat.le_refl _)]
  by_cases e : j = h.size
  · subst e; rw [if_pos rfl, if_pos (by omega), if_pos rfl]
  · rw [if_neg e]
    by_cases hj : j < h.size
    · rw [if_pos hj, if_pos (by omega), if_neg (by omega)]
    · rw [if_neg hj, if_neg (by omega)]
theorem IHeap.get_lt {h : IHeap} {i : Nat} {o : IObj} (hg : h.get i = some o) : i < h.size := by
  rw [IHeap.get_def] at hg
  split at hg
  · assumption
  · cases hg
theorem IHeap.get_of_lt {h : IHeap} {i : Nat} (hi : i < h.size) : ∃ o, h.get i = some o := ⟨_, by rw [IHeap.get_def, if_pos hi]⟩
theorem IHeap.get_none {h : IHeap} {i : Nat} (hi : h.size ≤ i) : h.get i = none := by rw [IHeap.get_def, if_neg (by omega)]

/-- A number, laid out. -/
def forceN {β : Type} (n : Nat) (k : Nat → β) : β := Nat.rec (motive := fun _ => β) (k (nat_lit 0)) (fun m _ => k (Nat.succ m)) n
theorem forceN_eq {β : Type} (n : Nat) (k : Nat → β) : forceN n k = k n := by cases n <;> rfl
/-- A block is written, or made, and the tree laid out. -/
def setH {β : Type} (h : IHeap) (i : Nat) (o : IObj) (k : IHeap → β) : β := Trie.setR .dead h.t o i fun t' => k ⟨h.size, t'⟩
theorem setH_eq {β : Type} (h : IHeap) (i : Nat) (o : IObj) (k : IHeap → β) : setH h i o k = k (h.set i o) := by
  unfold setH
  rw [Trie.setR_eq _ _ _ i i _ (Nat.le_refl _)]
  rfl
def pushH {β : Type} (h : IHeap) (o : IObj) (k : IHeap → β) : β := Trie.setR .dead h.t o h.size fun t' => forceN (Nat.succ h.size) fun n' => k ⟨n', t'⟩
theorem pushH_eq {β : Type} (h : IHeap) (o : IObj) (k : IHeap → β) : pushH h o k = k (h.push o) := by
  unfold pushH
  rw [Trie.setR_eq _ _ _ h.size h.size _ (Nat.le_refl _), forceN_eq]
  rfl

/-- Where a block of the ideal heap lies: the world's block, where in it, how many cells that one has, what is appended. -/
structure Ren where
  block : Nat
  off : Nat
  room : Nat
  esz : Nat

abbrev Rho := Nat → Option Ren

/-- A value without an address. -/
def scal : Value → Bool
  | .bool _ | .int _ _ | .float _ _ | .complex _ _ _ | .string _ | .pointer none | .slice none 0 0 | .map none | .chan none | .nilFunc | .nilIface => true
  | _ => false

inductive VRel (ρ : Rho) : Value → Value → Prop
  | base {v : Value} (h : scal v = true) : VRel ρ v v
  | ptr {i o : Nat} {R : Ren} (h : ρ i = some R) : VRel ρ (.pointer (some ⟨i, o, none⟩)) (.pointer (some ⟨R.block, R.off + o, none⟩))
  | slc {i o n c c' : Nat} {R : Ren} (h : ρ i = some R) (hc : c' = c ∨ (c ≤ c' ∧ 0 < R.esz ∧ R.off + o + c' * R.esz ≤ R.room)) : VRel ρ (.slice (some ⟨i, o, none⟩) n c) (.slice (some ⟨R.block, R.off + o, none⟩) n c')
  | slc0 {i o : Nat} {a' : Addr} : VRel ρ (.slice (some ⟨i, o, none⟩) 0 0) (.slice (some a') 0 0)
  | slcE {i o s : Nat} {a' : Addr} : VRel ρ (.slice (some ⟨i, o, some s⟩) 0 0) (.slice (some a') 0 0)
  | mp {i : Nat} {R : Ren} (h : ρ i = some R) : VRel ρ (.map (some i)) (.map (some R.block))
  | agg {cs cs' : Array Value} (hs : cs.size = cs'.size) (h : ∀ i, i < cs.size → VRel ρ (cs.getD i undef) (cs'.getD i undef)) : VRel ρ (.agg cs) (.agg cs')
  | tup {cs cs' : Array Value} (hs : cs.size = cs'.size) (h : ∀ i, i < cs.size → VRel ρ (cs.getD i undef) (cs'.getD i undef)) : VRel ρ (.tuple cs) (.tuple cs')
  | fn {g : FuncId} {fs fs' cs cs' : Array Value} (hf : fs.size = fs'.size) (h1 : ∀ i, i < fs.size → VRel ρ (fs.getD i undef) (fs'.getD i undef)) (hs : cs.size = cs'.size) (h2 : ∀ i, i < cs.size → VRel ρ (cs.getD i undef) (cs'.getD i undef)) :
      VRel ρ (.func (.func g) fs cs) (.func (.func g) fs' cs')
  | yld {i : Nat} {R : Ren} (h : ρ i = some R) : VRel ρ (.func (.yield i) #[] #[]) (.func (.yield R.block) #[] #[])
  | ifc {t : TypeId} {v v' : Value} (h : VRel ρ v v') : VRel ρ (.iface t v) (.iface t v')

theorem VRel.mono {ρ ρ' : Rho} {v v' : Value} (h : VRel ρ v v') (hle : ∀ i R, ρ i = some R → ρ' i = some R) : VRel ρ' v v' := by
  induction h with
  | base h => exact .base h
  | ptr h => exact .ptr (hle _ _ h)
  | slc h hc => exact .slc (hle _ _ h) hc
  | slc0 => exact .slc0
  | slcE => exact .slcE
  | mp h => exact .mp (hle _ _ h)
  | agg hs _ ih => exact .agg hs ih
  | tup hs _ ih => exact .tup hs ih
  | fn hf _ hs _ ih1 ih2 => exact .fn hf ih1 hs ih2
  | yld h => exact .yld (hle _ _ h)
  | ifc _ ih => exact .ifc ih
theorem VRel.undef_rel {ρ : Rho} : VRel ρ undef undef := .tup rfl (fun i h => absurd h (by simp))

/-- Pointwise. -/
def LRel (ρ : Rho) (cs cs' : List Value) : Prop := cs.length = cs'.length ∧ ∀ (i : Nat) (v : Value), cs[i]? = some v → ∃ v', cs'[i]? = some v' ∧ VRel ρ v v'
theorem LRel.mono {ρ ρ' : Rho} {cs cs' : List Value} (h : LRel ρ cs cs') (hle : ∀ i R, ρ i = some R → ρ' i = some R) : LRel ρ' cs cs' :=
  ⟨h.1, fun i v hv => let ⟨v', h1, h2⟩ := h.2 i v hv; ⟨v', h1, h2.mono hle⟩⟩

structure ERel (ρ : Rho) (e e' : MapEntry) : Prop where
  key : VRel ρ e.key e'.key
  val : VRel ρ e.val e'.val
  born : e.born = e'.born

/-- The loop's record. -/
structure LoopRel (ρ : Rho) (l l' : Loop) : Prop where
  state : l.state = l'.state
  pending : l.pending = l'.pending
  params : l.params = l'.params
  assign : l.assign = l'.assign
  body : l.body = l'.body
  tmps : l.tmps.size = l'.tmps.size ∧ ∀ i, VRel ρ (l.tmps.getD i undef) (l'.tmps.getD i undef)
  defers : ∃ R, ρ l.defers = some R ∧ l'.defers = R.block

inductive ORel (ρ : Rho) (R : Ren) : IObj → Obj → Prop
  | row {ro : Bool} {esz : Nat} {cs : List Value} {c : Array Value} {e : TypeId} {fr : Nat × Nat} (hfr : ro = false → (esz = 0 → fr = (0, 0)) ∧ ∀ k, k < c.size → (decide (fr.1 ≤ k) && decide (k < fr.2)) = false) (he : R.esz = esz) (hr : c.size = R.room) (hs : R.off + cs.length ≤ c.size)
      (h : ∀ (i : Nat) (v : Value), cs[i]? = some v → ∃ v', c[R.off + i]? = some v' ∧ VRel ρ v v') : ORel ρ R (.row ro esz cs) (.cells c e fr)
  | map {es : List MapEntry} {es' : Array MapEntry} {ck : Nat} (hs : es.length = es'.size) (h : ∀ (i : Nat) (e : MapEntry), es[i]? = some e → ∃ e', es'[i]? = some e' ∧ ERel ρ e e') : ORel ρ R (.map es ck) (.map es' ck)
  | loop {l l' : Loop} (h : LoopRel ρ l l') : ORel ρ R (.loop l) (.loop l')
  | defs : ORel ρ R .defs (.deferred (some []))
  | dead {o : Obj} : ORel ρ R .dead o
  | iterN {since : Nat} {seen : Array Nat} {last : Nat} (ho : R.off = 0) : ORel ρ R (.iter none since seen last) (.mapIter none since seen last)
  | iter {m : Nat} {since : Nat} {seen : Array Nat} {last : Nat} {S : Ren} (ho : R.off = 0) (hm : ρ m = some S) : ORel ρ R (.iter (some m) since seen last) (.mapIter (some S.block) since seen last)

theorem ORel.mono {ρ ρ' : Rho} {R : Ren} {o : IObj} {ob : Obj} (h : ORel ρ R o ob) (hle : ∀ i R, ρ i = some R → ρ' i = some R) : ORel ρ' R o ob := by
  cases h with
  | row hfr he hr hs h => exact .row hfr he hr hs (fun i v hv => let ⟨v', h1, h2⟩ := h i v hv; ⟨v', h1, h2.mono hle⟩)
  | map hs h => exact .map hs (fun i e he => let ⟨e', h1, h2⟩ := h i e he; ⟨e', h1, ⟨h2.key.mono hle, h2.val.mono hle, h2.born⟩⟩)
  | loop h => exact .loop ⟨h.state, h.pending, h.params, h.assign, h.body, ⟨h.tmps.1, fun i => (h.tmps.2 i).mono hle⟩, let ⟨R, a, b⟩ := h.defers; ⟨R, hle _ _ a, b⟩⟩
  | defs => exact .defs
  | dead => exact .dead
  | iterN ho => exact .iterN ho
  | iter ho hm => exact .iter ho (hle _ _ hm)

/-- The world w bears the heap h, block i at 'ρ i'. -/
structure Models (ρ : Rho) (h : IHeap) (w : World) : Prop where
  obj : ∀ i R o, h.get i = some o → ρ i = some R → ∃ ob, w.heap[R.block]? = some ob ∧ ORel ρ R o ob
  inj : ∀ i j R R', ρ i = some R → ρ j = some R' → R.block = R'.block → h.get i ≠ some .dead → h.get j ≠ some .dead → i = j
  lt : ∀ i R, ρ i = some R → R.block < w.heap.size

/-- The heap grows: what is not ours stays, what is dead is dead. -/
structure Grow (h h' : IHeap) : Prop where
  size : h.size ≤ h'.size
  ro : ∀ i o, h.get i = some o → o.isRo = true → h'.get i = some o
  dd : ∀ i, h.get i = some .dead → h'.get i = some .dead
theorem Grow.refl (h : IHeap) : Grow h h := ⟨Nat.le_refl _, fun _ _ a _ => a, fun _ a => a⟩
theorem Grow.trans {h h' h'' : IHeap} (a : Grow h h') (b : Grow h' h'') : Grow h h'' :=
  ⟨Nat.le_trans a.size b.size, fun i o g r => b.ro i o (a.ro i o g r) r, fun i g => b.dd i (a.dd i g)⟩
theorem Grow.push (h : IHeap) (o : IObj) : Grow h (h.push o) :=
  ⟨by simp, fun i o' g _ => by rw [IHeap.get_push, if_neg (by have := IHeap.get_lt g; omega)]; exact g, fun i g => by rw [IHeap.get_push, if_neg (by have := IHeap.get_lt g; omega)]; exact g⟩
theorem Grow.set {h : IHeap} {i : Nat} {o o' : IObj} (hg : h.get i = some o) (hr : o.isRo = false) (hd : o ≠ .dead) : Grow h (h.set i o') :=
  ⟨Nat.le_refl _, fun j u g r => by
    rw [IHeap.get_set _ _ _ _ (IHeap.get_lt hg)]
    by_cases e : i = j
    · subst e; rw [hg] at g; cases g; rw [r] at hr; cases hr
    · rw [if_neg e]; exact g, fun j g => by
    rw [IHeap.get_set _ _ _ _ (IHeap.get_lt hg)]
    by_cases e : i = j
    · subst e; rw [hg] at g; exact absurd (Option.some.inj g) hd
    · rw [if_neg e]; exact g⟩

/-- From (ρ, h, w) to (ρ', h', w'): what lay there and is not ours lies as it lay. -/
structure Step (ρ : Rho) (h : IHeap) (w : World) (ρ' : Rho) (h' : IHeap) (w' : World) : Prop where
  grow : Grow h h'
  wsize : w.heap.size ≤ w'.heap.size
  os : w'.os = w.os
  tape : w'.tape = w.tape
  output : w'.output = w.output
  ext : ∀ i, (i < h.size ∨ h'.size ≤ i) → ρ' i = ρ i
  new : ∀ i R, h.size ≤ i → i < h'.size → ρ' i = some R → w.heap.size ≤ R.block ∨ ∃ j Rj o, h.get j = some o ∧ o.isRo = false ∧ o ≠ .dead ∧ ρ j = some Rj ∧ Rj.block = R.block
  keep : ∀ b, b < w.heap.size → (∀ i R o, h.get i = some o → ρ i = some R → R.block = b → o.isRo = true ∨ o = .dead) → w'.heap[b]? = w.heap[b]?

/-- No block from a to b has a place yet. -/
def Fresh (ρ : Rho) (a b : Nat) : Prop := ∀ i, a ≤ i → i < b → ρ i = none

theorem Step.size {ρ : Rho} {h : IHeap} {w : World} {ρ' : Rho} {h' : IHeap} {w' : World} (s : Step ρ h w ρ' h' w') : h.size ≤ h'.size := s.grow.size
theorem Step.refl (ρ : Rho) (h : IHeap) (w : World) : Step ρ h w ρ h w :=
  ⟨Grow.refl _, Nat.le_refl _, rfl, rfl, rfl, fun _ _ => rfl, fun i R a b => absurd b (by omega), fun _ _ _ => rfl⟩
theorem Step.le {ρ ρ' : Rho} {h h' : IHeap} {w w' : World} (s : Step ρ h w ρ' h' w') (hf : Fresh ρ h.size h'.size) : ∀ i R, ρ i = some R → ρ' i = some R := fun i R hi => by
  by_cases hlt : i < h.size ∨ h'.size ≤ i
  · rw [s.ext i hlt]; exact hi
  · rw [hf i (by omega) (by omega)] at hi; cases hi
theorem Fresh.mid {ρ ρ' : Rho} {h h' : IHeap} {w w' : World} {c : Nat} (hf : Fresh ρ h.size c) (s : Step ρ h w ρ' h' w') (hc : h'.size ≤ c) : Fresh ρ h.size h'.size ∧ Fresh ρ' h'.size c :=
  ⟨fun i a b => hf i a (by omega), fun i a b => by rw [s.ext i (.inr a)]; exact hf i (by have := s.size; omega) b⟩
theorem Step.trans {ρ ρ' ρ'' : Rho} {h h' h'' : IHeap} {w w' w'' : World} (s : Step ρ h w ρ' h' w') (s' : Step ρ' h' w' ρ'' h'' w'') : Step ρ h w ρ'' h'' w'' := by
  -- a live block that is ours was so before, if it was there
  have back : ∀ j o, j < h.size → h'.get j = some o → o.isRo = false → o ≠ .dead → ∃ o0, h.get j = some o0 ∧ o0.isRo = false ∧ o0 ≠ .dead := by
    intro j o hj hg hr hd
    obtain ⟨o0, ho0⟩ := IHeap.get_of_lt hj
    refine ⟨o0, ho0, ?_, ?_⟩
    · cases hr0 : o0.isRo with
      | false => rfl
      | true =>
        have := s.grow.ro j o0 ho0 hr0
        rw [this] at hg
        obtain rfl := Option.some.inj hg
        rw [hr0] at hr; cases hr
    · intro e
      subst e
      have := s.grow.dd j ho0
      rw [this] at hg
      exact hd (Option.some.inj hg).symm
  refine ⟨s.grow.trans s'.grow, Nat.le_trans s.wsize s'.wsize, s'.os.trans s.os, s'.tape.trans s.tape, s'.output.trans s.output, ?_, ?_, ?_⟩
  · intro i hi
    have h1 := s.size
    have h2 := s'.size
    rw [s'.ext i (by omega), s.ext i (by omega)]
  · intro i R a b hi
    by_cases hlt : i < h'.size
    · rw [s'.ext i (.inl hlt)] at hi
      exact s.new i R a hlt hi
    · rcases s'.new i R (by omega) b hi with c | ⟨j, Rj, o, g1, g2, g2', g3, g4⟩
      · exact .inl (Nat.le_trans s.wsize c)
      · by_cases hj : j < h.size
        · rw [s.ext j (.inl hj)] at g3
          obtain ⟨o0, k1, k2, k3⟩ := back j o hj g1 g2 g2'
          exact .inr ⟨j, Rj, o0, k1, k2, k3, g3, g4⟩
        · rcases s.new j Rj (by omega) (IHeap.get_lt g1) g3 with c | ⟨j', Rj', o', k1, k2, k2', k3, k4⟩
          · exact .inl (by omega)
          · exact .inr ⟨j', Rj', o', k1, k2, k2', k3, k4.trans g4⟩
  · intro b hb hall
    rw [s'.keep b (Nat.lt_of_lt_of_le hb s.wsize) ?_]
    · exact s.keep b hb hall
    · intro i R o hg hi hbk
      by_cases hlt : i < h.size
      · rw [s.ext i (.inl hlt)] at hi
        obtain ⟨o0, ho0⟩ := IHeap.get_of_lt hlt
        rcases hall i R o0 ho0 hi hbk with h0 | h0
        · have := s.grow.ro i o0 ho0 h0
          rw [this] at hg
          obtain rfl := Option.some.inj hg
          exact .inl h0
        · subst h0
          have := s.grow.dd i ho0
          rw [this] at hg
          exact .inr (Option.some.inj hg).symm
      · rcases s.new i R (by omega) (IHeap.get_lt hg) hi with c | ⟨j, Rj, o', k1, k2, k2', k3, k4⟩
        · omega
        · rcases hall j Rj o' k1 k3 (k4.trans hbk) with h0 | h0
          · rw [h0] at k2; cases k2
          · exact absurd h0 k2'
end Go.Proofs.Ytfgaggpfdckggaa.Ideal
