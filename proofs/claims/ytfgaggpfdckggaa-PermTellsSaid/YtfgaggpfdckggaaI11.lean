/- Every order of a region comes to the same. -/
import Derived.Test.YtfgaggpfdckggaaI10
noncomputable section
namespace Go.Proofs.Ytfgaggpfdckggaa.Ideal
set_option linter.unusedVariables false
set_option linter.unusedSimpArgs false
set_option linter.unnecessarySimpa false

open Classical in
/-- The last of what has been done. -/
noncomputable def pick {α : Type} (f : Nat → Bool) (chg : Nat → Prop) (new : Nat → α) (x : α) : Nat → α
  | 0 => x
  | k + 1 => if f k = true ∧ chg k then new k else pick f chg new x k
section
variable {α : Type} {f : Nat → Bool} {chg : Nat → Prop} {new : Nat → α} {x : α}
theorem pick_yes {k : Nat} (h : f k = true) (h' : chg k) : pick f chg new x (k + 1) = new k := if_pos ⟨h, h'⟩
theorem pick_no {k : Nat} (h : ¬ (f k = true ∧ chg k)) : pick f chg new x (k + 1) = pick f chg new x k := if_neg h
end
theorem pick_at {α : Type} {f : Nat → Bool} {chg : Nat → Prop} {new : Nat → α} {x : α} {i n : Nat} (h : ∀ k, k < n → chg k → (f k = true ↔ k < i)) (hi : i ≤ n) : pick f chg new x n = pick (fun _ => true) chg new x i := by
  have : ∀ m, m ≤ n → pick f chg new x m = pick (fun _ => true) chg new x (min m i) := by
    intro m
    induction m with
    | zero => intro _; rw [Nat.zero_min]; rfl
    | succ m ih =>
      intro hm
      have ihm := ih (by omega)
      by_cases hc : chg m
      · have hk := h m (by omega) hc
        by_cases hlt : m < i
        · rw [pick_yes (hk.2 hlt) hc, show min (m + 1) i = m + 1 by omega, pick_yes rfl hc]
        · rw [pick_no (fun hx => hlt (hk.1 hx.1)), ihm, show min (m + 1) i = min m i by omega]
      · rw [pick_no (fun hx => hc hx.2), ihm]
        by_cases hlt : m < i
        · rw [show min (m + 1) i = m + 1 by omega, show min m i = m by omega, pick_no (fun hx => hc hx.2)]
        · rw [show min (m + 1) i = min m i by omega]
  have := this n (Nat.le_refl _)
  rwa [Nat.min_eq_right hi] at this
theorem pick_add {α : Type} {f : Nat → Bool} {chg : Nat → Prop} {new : Nat → α} {x : α} {i n : Nat} (hi : i < n) (hf : f i = false) (h : ∀ k, i < k → k < n → chg k → chg i → f k = false) :
    pick (fun j => f j || j == i) chg new x n = (open Classical in if chg i then new i else pick f chg new x n) := by
  have same : ∀ m, m ≠ i → (f m || m == i) = f m := fun m hm => by
    have : (m == i) = false := by simpa using hm
    simp [this]
  have low : ∀ m, m ≤ i → pick (fun j => f j || j == i) chg new x m = pick f chg new x m := by
    intro m
    induction m with
    | zero => intro _; rfl
    | succ m ih =>
      intro hm
      have e := same m (by omega)
      by_cases hc : f m = true ∧ chg m
      · rw [pick_yes (by rw [e]; exact hc.1) hc.2, pick_yes hc.1 hc.2]
      · rw [pick_no (by rw [e]; exact hc), pick_no hc, ih (by omega)]
  have high : ∀ d, i + 1 + d ≤ n → pick (fun j => f j || j == i) chg new x (i + 1 + d) = (open Classical in if chg i then new i else pick f chg new x (i + 1 + d)) := by
    intro d
    induction d with
    | zero =>
      intro _
      by_cases hc : chg i
      · rw [pick_yes (by simp) hc, if_pos hc]
      · rw [pick_no (fun hx => hc hx.2), if_neg hc, Nat.add_zero, pick_no (fun hx => hc hx.2), low i (Nat.le_refl _)]
    | succ d ih =>
      intro hd
      have ihd := ih (by omega)
      rw [show i + 1 + (d + 1) = (i + 1 + d) + 1 by omega]
      have e := same (i + 1 + d) (by omega)
      by_cases hc : f (i + 1 + d) = true ∧ chg (i + 1 + d)
      · rw [pick_yes (by rw [e]; exact hc.1) hc.2, pick_yes hc.1 hc.2]
        by_cases hci : chg i
        · have := h (i + 1 + d) (by omega) (by omega) hc.2 hci
          rw [this] at hc; cases hc.1
        · rw [if_neg hci]
      · rw [pick_no (by rw [e]; exact hc), pick_no hc, ihd]
  have := high (n - (i + 1)) (by omega)
  rwa [show i + 1 + (n - (i + 1)) = n by omega] at this

/-- Operands that are constants are plain; no operand is a variable of the package. -/
def operandOk : Operand → Bool
  | .tmp _ => true
  | .const v => plainV v
  | .func _ => true
  | .global _ => false
def constsOk (ops : Array Oper) : Bool := ops.all fun o => o.op.operands.all operandOk

/-- What may not meet. -/
def Ni (H : Nat → IHeap) (i j : Nat) : Kind → Kind → Prop
  | .heavy, .heavy => False
  | .heavy, .read id => (H (i + 1)).get id = (H i).get id
  | .read id, .heavy => (H (j + 1)).get id = (H j).get id
  | .alloc, .heavy => (H (j + 1)).get (H i).size = (H j).get (H i).size
  | _, _ => True

/-- A region's run in the text's order. -/
structure Runs (P : Program) (rd : Option Nat) (ops : Array Oper) (A : Nat → Act) (H : Nat → IHeap) (V : Nat → Value) (K : Nat → Kind) : Prop where
  act : ∀ i o, ops[i]? = some o → A (i + 1) = (A i).put o.dst (V i)
  ok : ∀ i o, ops[i]? = some o → KOk P rd ops o (A i) (H i) (V i) (H (i + 1)) (K i)
  consts : constsOk ops = true

section
variable {P : Program} {rd : Option Nat} {ops : Array Oper} {A : Nat → Act} {H : Nat → IHeap} {V : Nat → Value} {K : Nat → Kind}
theorem Runs.grow (r : Runs P rd ops A H V K) {i : Nat} (hi : i < ops.size) : Grow (H i) (H (i + 1)) := by
  have := r.ok i ops[i] (by simp [hi])
  generalize K i = k at this
  cases k with
  | skip => rw [this.2.2]; exact Grow.refl _
  | pure => rw [this.2.2.1]; exact Grow.refl _
  | read id => rw [this.2.2.1]; exact Grow.refl _
  | alloc => obtain ⟨_, _, n, _, e, _⟩ := this; rw [e]; exact Grow.push _ _
  | heavy => exact this.2.1
theorem Runs.size (r : Runs P rd ops A H V K) {i : Nat} (hi : i < ops.size) : (H i).size ≤ (H (i + 1)).size := (r.grow hi).size
theorem Runs.size_le (r : Runs P rd ops A H V K) {i j : Nat} (hij : i ≤ j) (hj : j ≤ ops.size) : (H i).size ≤ (H j).size := by
  induction j with
  | zero => have : i = 0 := by omega
            subst this; exact Nat.le_refl _
  | succ j ih =>
    by_cases e : i = j + 1
    · subst e; exact Nat.le_refl _
    · exact Nat.le_trans (ih (by omega) (by omega)) (r.size (by omega))
theorem Runs.grows (r : Runs P rd ops A H V K) : ∀ i, i ≤ ops.size → Grow (H 0) (H i)
  | 0, _ => Grow.refl _
  | i + 1, h => (r.grows i (by omega)).trans (r.grow (by omega))
theorem Runs.tmpsSize (r : Runs P rd ops A H V K) : ∀ i, i ≤ ops.size → (A i).tmps.size = (A 0).tmps.size ∧ (A i).defers = (A 0).defers
  | 0, _ => ⟨rfl, rfl⟩
  | i + 1, h => by
    have ih := r.tmpsSize i (by omega)
    rw [r.act i ops[i] (by simp)]
    unfold Act.put
    cases (ops[i]).dst with
    | none => exact ih
    | some d => exact ⟨by simpa using ih.1, ih.2⟩

/-- What writes the temporary t; what turns the block id. -/
def wr (ops : Array Oper) (A : Nat → Act) (t : Tmp) (k : Nat) : Prop := (ops[k]?).bind (·.dst) = some t ∧ t < (A 0).tmps.size
def tu (H : Nat → IHeap) (id k : Nat) : Prop := (H (k + 1)).get id ≠ (H k).get id
noncomputable def va (ops : Array Oper) (A : Nat → Act) (V : Nat → Value) (f : Nat → Bool) (t : Tmp) : Value := pick f (wr ops A t) V ((A 0).tmps.getD t undef) ops.size
noncomputable def cf (ops : Array Oper) (H : Nat → IHeap) (f : Nat → Bool) (id : Nat) : Option IObj := pick f (tu H id) (fun k => (H (k + 1)).get id) ((H 0).get id) ops.size

theorem put_get (a : Act) (d : Option Tmp) (v : Value) (t : Tmp) : (a.put d v).tmps.getD t undef = if d = some t ∧ t < a.tmps.size then v else a.tmps.getD t undef := by
  unfold Act.put
  cases d with
  | none => simp
  | some d =>
    by_cases e : d = t
    · subst e
      by_cases h : d < a.tmps.size
      · simp [h, Array.getD]
      · simp [h, Array.getD]
    · rw [if_neg (fun h => e (Option.some.inj h.1))]
      simp only [Array.getD_eq_getD_getElem?]
      rw [Array.getElem?_setIfInBounds, if_neg e]
theorem full_va (r : Runs P rd ops A H V K) (t : Tmp) : ∀ i, i ≤ ops.size → pick (fun _ => true) (wr ops A t) V ((A 0).tmps.getD t undef) i = (A i).tmps.getD t undef
  | 0, _ => rfl
  | i + 1, h => by
    have ho : ops[i]? = some ops[i] := by simp
    have hz := (r.tmpsSize i (by omega)).1
    by_cases hc : wr ops A t i
    · rw [pick_yes rfl hc, r.act i _ ho, put_get]
      obtain ⟨h1, h2⟩ := hc
      rw [ho] at h1
      rw [if_pos ⟨by simpa using h1, by rw [hz]; exact h2⟩]
    · rw [pick_no (fun hx => hc hx.2), full_va r t i (by omega), r.act i _ ho, put_get]
      rw [if_neg (fun hx => hc ⟨by rw [ho]; simpa using hx.1, by rw [← hz]; exact hx.2⟩)]
theorem full_cf (id : Nat) : ∀ i, pick (fun _ => true) (tu H id) (fun k => (H (k + 1)).get id) ((H 0).get id) i = (H i).get id
  | 0 => rfl
  | i + 1 => by
    by_cases hc : tu H id i
    · rw [pick_yes rfl hc]
    · rw [pick_no (fun hx => hc hx.2), full_cf id i]
      unfold tu at hc
      exact (Classical.not_not.1 hc).symm

/-- With f done, and i ready: what i looks at is what it is in the text's order. -/
theorem va_at (r : Runs P rd ops A H V K) (hb : backOk ops = true) (ht : tmpsOk ops = true) {f : Nat → Bool} (hc : Closed ops f) {i : Nat} {o : Oper} (ho : ops[i]? = some o) (hf : f i = false) (hp : ∀ e ∈ o.after, Region.binds .any e = true → f e.on = true)
    {t : Tmp} (hn : t ∈ namesOf ops o) : va ops A V f t = (A i).tmps.getD t undef := by
  have hi : i < ops.size := (Array.getElem?_eq_some_iff.1 ho).1
  unfold va
  rw [pick_at (i := i) (fun k hk hw => ?_) (by omega), full_va r t i (by omega)]
  obtain ⟨h1, h2⟩ := hw
  have hok : ops[k]? = some ops[k] := by simp [hk]
  rw [hok] at h1
  simp only [Option.bind_some] at h1
  have hc' : Closed ops (fun j => f j || j == i) := by
    intro j oj hj hfj e he hbi
    simp only [Bool.or_eq_true, beq_iff_eq] at hfj
    rcases hfj with hfj | rfl
    · simp [hc j oj hj hfj e he hbi]
    · rw [ho] at hj; cases hj
      simp [hp e he hbi]
  by_cases e : k = i
  · subst e
    simp [hf]
  · have hbef := tmps_ord ht hok ho h1 hn e
    by_cases hlt : k < i
    · rw [Nat.min_eq_left (by omega), Nat.max_eq_right (by omega)] at hbef
      have := bef_closed hc' hb (i := k) (j := i) (by simp) hbef
      simp only [Bool.or_eq_true, beq_iff_eq] at this
      simp only [hlt, iff_true]
      rcases this with h | h
      · exact h
      · exact absurd h e
    · rw [Nat.min_eq_right (by omega), Nat.max_eq_left (by omega)] at hbef
      simp only [hlt, iff_false, Bool.not_eq_true]
      cases hfk : f k with
      | false => rfl
      | true => rw [bef_closed hc hb hfk hbef] at hf; cases hf
theorem va_add (r : Runs P rd ops A H V K) (hb : backOk ops = true) (ht : tmpsOk ops = true) {f : Nat → Bool} (hc : Closed ops f) {i : Nat} {o : Oper} (ho : ops[i]? = some o) (hf : f i = false) (t : Tmp) :
    va ops A V (fun j => f j || j == i) t = if o.dst = some t ∧ t < (A 0).tmps.size then V i else va ops A V f t := by
  have hi : i < ops.size := (Array.getElem?_eq_some_iff.1 ho).1
  unfold va
  rw [pick_add hi hf (fun k h1 h2 h3 h4 => ?_)]
  · have : wr ops A t i ↔ (o.dst = some t ∧ t < (A 0).tmps.size) := by unfold wr; rw [ho]; rfl
    by_cases hw : wr ops A t i
    · rw [if_pos hw, if_pos (this.1 hw)]
    · rw [if_neg hw, if_neg (fun h => hw (this.2 h))]
  · have hok : ops[k]? = some ops[k] := by simp [h2]
    have e3 := h3.1
    have e4 := h4.1
    rw [hok] at e3
    rw [ho] at e4
    simp only [Option.bind_some] at e3 e4
    have hbef := tmps_ord ht ho hok e4 (by simp [namesOf, e3]) (by omega)
    rw [Nat.min_eq_left (by omega), Nat.max_eq_right (by omega)] at hbef
    cases hfk : f k with
    | false => rfl
    | true => rw [bef_closed hc hb hfk hbef] at hf; cases hf
end
end Go.Proofs.Ytfgaggpfdckggaa.Ideal
