/- The ideal heap: I10, I11, I12, I13, I14. Regions that draw their order: if the text's order goes through, and what is unordered does not meet, every order comes to the same. -/
import Derived.Test.YtmobpbhbllhdcaaI9
noncomputable section
namespace Go.Proofs.Ytmobpbhbllhdcaa.Ideal
set_option linter.unusedVariables false
set_option linter.unusedSimpArgs false
set_option linter.unnecessarySimpa false

/-- The fence of a frame: a function's, or a round's of the loop l. -/
def fen : Option Nat → Fence
  | none => Fence.wide
  | some l => Fence.wide.inRound l
def RdRel (ρ : Rho) : Option Nat → Option Nat → Prop
  | none, none => True
  | some i, some l => ∃ R, ρ i = some R ∧ R.block = l
  | _, _ => False
theorem RdRel.mono {ρ ρ' : Rho} {rd rr : Option Nat} (h : RdRel ρ rd rr) (hle : ∀ i R, ρ i = some R → ρ' i = some R) : RdRel ρ' rd rr := by
  cases rd <;> cases rr <;> first | exact h | exact h.elim | exact (let ⟨R, a, b⟩ := h; ⟨R, hle _ _ a, b⟩)
theorem fen_fn (rr : Option Nat) (f : FuncId) : (fen rr).fn f := by cases rr <;> trivial
theorem fen_round (rr : Option Nat) : (fen rr).round = rr := by cases rr <;> rfl
theorem fen_depth (rr : Option Nat) : (fen rr).depth = none := by cases rr <;> rfl

/-- An operation that may do anything. -/
def HOp (P : Program) (rd : Option Nat) (o : Oper) (a : Act) (h : IHeap) (v : Value) (h' : IHeap) : Prop :=
  ∀ (ρ : Rho) (w : World) (ar : Act) (rr : Option Nat), RdRel ρ rd rr → Models ρ h w → Fresh ρ h.size h'.size → OpsRel ρ o a ar → ∀ (K : Act → World → Prop) (Q : Exit → Act → World → Prop),
    (∀ v' ρ' w', Step ρ h w ρ' h' w' → Models ρ' h' w' → VRel ρ' v v' → K (ar.put o.dst v') w') → o.wpIn (fen rr) 0 P ar w K Q

theorem wpIn_of_run {P : Program} {o : Oper} {ar : Act} {w w' : World} {rr : Option Nat} {nx : Next} {v' : Value} {K : Act → World → Prop} {Q : Exit → Act → World → Prop} (hd : ∀ c, o.op ≠ .defer c) (hr : (execOp ar.eval o).run P w = .ok nx w') (hn : nx = .value v' ∨ (nx = .skip ∧ v' = undef))
    (hK : K (ar.put o.dst v') w') : o.wpIn (fen rr) 0 P ar w K Q := by
  refine ⟨fun f _ => fen_fn rr f, ?_⟩
  rw [Oper.semAt_eq _ _ _ hd, hr]
  rcases hn with rfl | ⟨rfl, rfl⟩
  · exact hK
  · exact hK
theorem HOp.of_mem {P : Program} {rd : Option Nat} {o : Oper} {a : Act} {h h' : IHeap} {v : Value} (hd : ∀ c, o.op ≠ .defer c) (hm : MOp P o a h v h') : HOp P rd o a h v h' := by
  intro ρ w ar rr _ hmod hf hrel K Q hK
  obtain ⟨nx, w', ρ', v', h1, h2, h3, h4, h5⟩ := hm ρ ar w hmod hf hrel
  exact wpIn_of_run hd h1 h2 (hK v' ρ' w' h3 h4 h5)

/-- What an operation of a region came to, in the text's order. -/
inductive Kind where
  | skip
  | pure
  | read (i : Nat)
  | alloc
  | heavy
def KOk (P : Program) (rd : Option Nat) (ops : Array Oper) (o : Oper) (a : Act) (h : IHeap) (v : Value) (h' : IHeap) : Kind → Prop
  | .skip => Region.wanted o (yielded ops a.tmps) = false ∧ v = undef ∧ h' = h
  | .pure => Region.wanted o (yielded ops a.tmps) = true ∧ (∀ c, o.op ≠ .defer c) ∧ h' = h ∧ PureOp P o a v
  | .read i => Region.wanted o (yielded ops a.tmps) = true ∧ (∀ c, o.op ≠ .defer c) ∧ h' = h ∧ ROp P o a h v [i]
  | .alloc => Region.wanted o (yielded ops a.tmps) = true ∧ (∀ c, o.op ≠ .defer c) ∧ ∃ n, (n ≠ .dead ∧ n.isRo = false) ∧ h' = h.push n ∧ AOp P o a h.size v n
  | .heavy => Region.wanted o (yielded ops a.tmps) = true ∧ Grow h h' ∧ HOp P rd o a h v h'

/-- What an operation looks at or writes. -/
def namesOf (ops : Array Oper) (o : Oper) : List Tmp :=
  o.dst.toList ++ (o.op.operands.toList.filterMap fun | .tmp t => some t | _ => none) ++ (match o.guard with | some (j, _) => ((ops[j]?).bind (·.dst)).toList | none => [])

/-- The masks of what must come ahead. -/
def bmask (acc : List Nat) (o : Oper) : Nat := o.after.toList.foldl (fun s e => if Region.binds .any e then s ||| (2 ^ e.on ||| acc.getD e.on 0) else s) 0
def bmasks : List Oper → List Nat → List Nat
  | [], acc => acc
  | o :: os, acc => bmasks os (acc ++ [bmask acc o])
def befores (ops : Array Oper) : List Nat := bmasks ops.toList []
/-- i must come ahead of j. -/
def bef (ops : Array Oper) (i j : Nat) : Bool := ((befores ops).getD j 0).testBit i
/-- Each operation waits for earlier ones alone; the masks are right; unordered ones share no temporary that one of them writes. -/
def backOk (ops : Array Oper) : Bool :=
  (List.range ops.size).all fun i => match ops[i]? with
    | some o => o.after.all fun e => !Region.binds .any e || decide (e.on < i)
    | none => true
def tmpsOk (ops : Array Oper) : Bool :=
  let bs := befores ops
  let ws := ops.toList.zipIdx.filterMap fun (o, i) => o.dst.map fun d => (d, i)
  ops.toList.zipIdx.all fun (o, j) => let ns := namesOf ops o
    ws.all fun (d, i) => i == j || !ns.contains d || (bs.getD (max i j) 0).testBit (min i j)

section masks
variable {ops : Array Oper}
/-- A set that is closed: with each operation all that it waits for. -/
def Closed (ops : Array Oper) (f : Nat → Bool) : Prop := ∀ j o, ops[j]? = some o → f j = true → ∀ e ∈ o.after, Region.binds .any e = true → f e.on = true
theorem bmask_closed {f : Nat → Bool} {acc : List Nat} {o : Oper} (hacc : ∀ j, j < acc.length → f j = true → ∀ i, (acc.getD j 0).testBit i = true → f i = true)
    (ho : ∀ e ∈ o.after, Region.binds .any e = true → f e.on = true) (hlt : ∀ e ∈ o.after, Region.binds .any e = true → e.on < acc.length) : ∀ i, (bmask acc o).testBit i = true → f i = true := by
  unfold bmask
  have gen : ∀ (l : List Edge) (s : Nat), (∀ e ∈ l, e ∈ o.after) → (∀ i, s.testBit i = true → f i = true) → ∀ i, (l.foldl (fun s e => if Region.binds .any e then s ||| (2 ^ e.on ||| acc.getD e.on 0) else s) s).testBit i = true → f i = true := by
    intro l
    induction l with
    | nil => intro s _ hs i hi; exact hs i hi
    | cons e l ih =>
      intro s hl hs i hi
      simp only [List.foldl_cons] at hi
      refine ih _ (fun e' he' => hl e' (by simp [he'])) ?_ i hi
      intro k hk
      split at hk
      · rename_i hb
        rw [Nat.testBit_or, Nat.testBit_or, Bool.or_eq_true, Bool.or_eq_true] at hk
        rcases hk with hk | hk | hk
        · exact hs k hk
        · rw [Nat.testBit_two_pow] at hk
          have : e.on = k := by simpa using hk
          rw [← this]; exact ho e (hl e (by simp)) hb
        · exact hacc e.on (hlt e (hl e (by simp)) hb) (ho e (hl e (by simp)) hb) k hk
      · exact hs k hk
  exact gen o.after.toList 0 (fun e he => by simpa using he) (fun i hi => by simp at hi)
theorem bmasks_closed {f : Nat → Bool} (hc : Closed ops f) (hb : backOk ops = true) : ∀ (l : List Oper) (acc : List Nat), (∀ k, (l[k]?) = ops[acc.length + k]?) → (∀ j, j < acc.length → f j = true → ∀ i, (acc.getD j 0).testBit i = true → f i = true) →
    ∀ j, j < (bmasks l acc).length → f j = true → ∀ i, ((bmasks l acc).getD j 0).testBit i = true → f i = true
  | [], acc, _, hacc => hacc
  | o :: l, acc, hl, hacc => by
    unfold bmasks
    have ho : ops[acc.length]? = some o := by
      have := hl 0
      simpa using this.symm
    refine bmasks_closed hc hb l (acc ++ [bmask acc o]) (fun k => ?_) ?_
    · have := hl (k + 1)
      simp only [List.getElem?_cons_succ] at this
      rw [this]; simp; congr 1; omega
    · intro j hj hf i hi
      by_cases hlt : j < acc.length
      · rw [List.getD_eq_getElem?_getD, List.getElem?_append_left hlt, ← List.getD_eq_getElem?_getD] at hi
        exact hacc j hlt hf i hi
      · have hjl : j = acc.length := by simp at hj; omega
        subst hjl
        have : (acc ++ [bmask acc o]).getD acc.length 0 = bmask acc o := by simp
        rw [this] at hi
        refine bmask_closed hacc (hc _ o ho hf) ?_ i hi
        intro e he hbi
        have hlt' : acc.length < ops.size := (Array.getElem?_eq_some_iff.1 ho).1
        have h1 := List.all_eq_true.mp hb acc.length (List.mem_range.mpr hlt')
        rw [ho] at h1
        have h2 := Array.all_eq_true'.mp h1 e he
        simpa [hbi] using h2
theorem bmasks_length : ∀ (l : List Oper) (acc : List Nat), (bmasks l acc).length = acc.length + l.length
  | [], acc => by simp [bmasks]
  | o :: l, acc => by rw [bmasks, bmasks_length]; simp; omega
theorem bef_closed {f : Nat → Bool} (hc : Closed ops f) (hb : backOk ops = true) {i j : Nat} (hj : f j = true) (h : bef ops i j = true) : f i = true := by
  unfold bef at h
  by_cases hlt : j < (befores ops).length
  · exact bmasks_closed hc hb ops.toList [] (fun k => by simp) (fun j hj => absurd hj (by simp)) j hlt hj i h
  · rw [List.getD_eq_getElem?_getD, List.getElem?_eq_none (by omega)] at h
    simp at h
theorem tmps_ord (ht : tmpsOk ops = true) {i j : Nat} {oi oj : Oper} {d : Tmp} (hi : ops[i]? = some oi) (hj : ops[j]? = some oj) (hd : oi.dst = some d) (hn : d ∈ namesOf ops oj) (hne : i ≠ j) : bef ops (min i j) (max i j) = true := by
  unfold tmpsOk at ht
  rw [List.all_eq_true] at ht
  have hi' : i < ops.size := (Array.getElem?_eq_some_iff.1 hi).1
  have hj' : j < ops.size := (Array.getElem?_eq_some_iff.1 hj).1
  have h1 := ht (oj, j) (List.mem_iff_getElem?.2 ⟨j, by simp [List.getElem?_zipIdx, hj]⟩)
  simp only [List.all_eq_true] at h1
  have h2 := h1 (d, i) (List.mem_filterMap.2 ⟨(oi, i), List.mem_iff_getElem?.2 ⟨i, by simp [List.getElem?_zipIdx, hi]⟩, by simp [hd]⟩)
  simp only [Bool.or_eq_true, beq_iff_eq, Bool.not_eq_true'] at h2
  rcases h2 with (h2 | h2) | h2
  · exact absurd h2 hne
  · rw [List.contains_iff_mem.2 hn] at h2
    cases h2
  · exact h2
end masks
end Go.Proofs.Ytmobpbhbllhdcaa.Ideal
end
noncomputable section
namespace Go.Proofs.Ytmobpbhbllhdcaa.Ideal
set_option linter.unusedVariables false
set_option linter.unusedSimpArgs false
set_option linter.unnecessarySimpa false

open Classical in
/-- The last of what has been done. -/
noncomputable def pick {α : Type} (f : Nat → Bool) (chg : Nat → Prop) (new : Nat → α) (x : α) : Nat → α
  | 0 => x
  | k + 1 => if f k = true ∧ chg k then new k else pick f chg new x k
section
variable {α : Type} {f : Nat → Bool} {chg : Nat → Prop} {new : Nat → α} {x : α}
theorem pick_yes {k : Nat} (h : f k = true) (h' : chg k) : pick f chg new x (k + 1) = new k := if_pos ⟨h, h'⟩
theorem pick_no {k : Nat} (h : ¬ (f k = true ∧ chg k)) : pick f chg new x (k + 1) = pick f chg new x k := if_neg h
end
theorem pick_at {α : Type} {f : Nat → Bool} {chg : Nat → Prop} {new : Nat → α} {x : α} {i n : Nat} (h : ∀ k, k < n → chg k → (f k = true ↔ k < i)) (hi : i ≤ n) : pick f chg new x n = pick (fun _ => true) chg new x i := by
  have : ∀ m, m ≤ n → pick f chg new x m = pick (fun _ => true) chg new x (min m i) := by
    intro m
    induction m with
    | zero => intro _; rw [Nat.zero_min]; rfl
    | succ m ih =>
      intro hm
      have ihm := ih (by omega)
      by_cases hc : chg m
      · have hk := h m (by omega) hc
        by_cases hlt : m < i
        · rw [pick_yes (hk.2 hlt) hc, show min (m + 1) i = m + 1 by omega, pick_yes rfl hc]
        · rw [pick_no (fun hx => hlt (hk.1 hx.1)), ihm, show min (m + 1) i = min m i by omega]
      · rw [pick_no (fun hx => hc hx.2), ihm]
        by_cases hlt : m < i
        · rw [show min (m + 1) i = m + 1 by omega, show min m i = m by omega, pick_no (fun hx => hc hx.2)]
        · rw [show min (m + 1) i = min m i by omega]
  have := this n (Nat.le_refl _)
  rwa [Nat.min_eq_right hi] at this
theorem pick_add {α : Type} {f : Nat → Bool} {chg : Nat → Prop} {new : Nat → α} {x : α} {i n : Nat} (hi : i < n) (hf : f i = false) (h : ∀ k, i < k → k < n → chg k → chg i → f k = false) :
    pick (fun j => f j || j == i) chg new x n = (open Classical in if chg i then new i else pick f chg new x n) := by
  have same : ∀ m, m ≠ i → (f m || m == i) = f m := fun m hm => by
    have : (m == i) = false := by simpa using hm
    simp [this]
  have low : ∀ m, m ≤ i → pick (fun j => f j || j == i) chg new x m = pick f chg new x m := by
    intro m
    induction m with
    | zero => intro _; rfl
    | succ m ih =>
      intro hm
      have e := same m (by omega)
      by_cases hc : f m = true ∧ chg m
      · rw [pick_yes (by rw [e]; exact hc.1) hc.2, pick_yes hc.1 hc.2]
      · rw [pick_no (by rw [e]; exact hc), pick_no hc, ih (by omega)]
  have high : ∀ d, i + 1 + d ≤ n → pick (fun j => f j || j == i) chg new x (i + 1 + d) = (open Classical in if chg i then new i else pick f chg new x (i + 1 + d)) := by
    intro d
    induction d with
    | zero =>
      intro _
      by_cases hc : chg i
      · rw [pick_yes (by simp) hc, if_pos hc]
      · rw [pick_no (fun hx => hc hx.2), if_neg hc, Nat.add_zero, pick_no (fun hx => hc hx.2), low i (Nat.le_refl _)]
    | succ d ih =>
      intro hd
      have ihd := ih (by omega)
      rw [show i + 1 + (d + 1) = (i + 1 + d) + 1 by omega]
      have e := same (i + 1 + d) (by omega)
      by_cases hc : f (i + 1 + d) = true ∧ chg (i + 1 + d)
      · rw [pick_yes (by rw [e]; exact hc.1) hc.2, pick_yes hc.1 hc.2]
        by_cases hci : chg i
        · have := h (i + 1 + d) (by omega) (by omega) hc.2 hci
          rw [this] at hc; cases hc.1
        · rw [if_neg hci]
      · rw [pick_no (by rw [e]; exact hc), pick_no hc, ihd]
  have := high (n - (i + 1)) (by omega)
  rwa [show i + 1 + (n - (i + 1)) = n by omega] at this

/-- Operands that are constants are plain; no operand is a variable of the package. -/
def operandOk : Operand → Bool
  | .tmp _ => true
  | .const v => plainV v
  | .func _ => true
  | .global _ => false
def constsOk (ops : Array Oper) : Bool := ops.all fun o => o.op.operands.all operandOk

/-- What may not meet. -/
def Ni (H : Nat → IHeap) (i j : Nat) : Kind → Kind → Prop
  | .heavy, .heavy => False
  | .heavy, .read id => (H (i + 1)).get id = (H i).get id
  | .read id, .heavy => (H (j + 1)).get id = (H j).get id
  | .alloc, .heavy => (H (j + 1)).get (H i).size = (H j).get (H i).size
  | _, _ => True

/-- A region's run in the text's order. -/
structure Runs (P : Program) (rd : Option Nat) (ops : Array Oper) (A : Nat → Act) (H : Nat → IHeap) (V : Nat → Value) (K : Nat → Kind) : Prop where
  act : ∀ i o, ops[i]? = some o → A (i + 1) = (A i).put o.dst (V i)
  ok : ∀ i o, ops[i]? = some o → KOk P rd ops o (A i) (H i) (V i) (H (i + 1)) (K i)
  consts : constsOk ops = true

section
variable {P : Program} {rd : Option Nat} {ops : Array Oper} {A : Nat → Act} {H : Nat → IHeap} {V : Nat → Value} {K : Nat → Kind}
theorem Runs.grow (r : Runs P rd ops A H V K) {i : Nat} (hi : i < ops.size) : Grow (H i) (H (i + 1)) := by
  have := r.ok i ops[i] (by simp [hi])
  generalize K i = k at this
  cases k with
  | skip => rw [this.2.2]; exact Grow.refl _
  | pure => rw [this.2.2.1]; exact Grow.refl _
  | read id => rw [this.2.2.1]; exact Grow.refl _
  | alloc => obtain ⟨_, _, n, _, e, _⟩ := this; rw [e]; exact Grow.push _ _
  | heavy => exact this.2.1
theorem Runs.size (r : Runs P rd ops A H V K) {i : Nat} (hi : i < ops.size) : (H i).size ≤ (H (i + 1)).size := (r.grow hi).size
theorem Runs.size_le (r : Runs P rd ops A H V K) {i j : Nat} (hij : i ≤ j) (hj : j ≤ ops.size) : (H i).size ≤ (H j).size := by
  induction j with
  | zero => have : i = 0 := by omega
            subst this; exact Nat.le_refl _
  | succ j ih =>
    by_cases e : i = j + 1
    · subst e; exact Nat.le_refl _
    · exact Nat.le_trans (ih (by omega) (by omega)) (r.size (by omega))
theorem Runs.grows (r : Runs P rd ops A H V K) : ∀ i, i ≤ ops.size → Grow (H 0) (H i)
  | 0, _ => Grow.refl _
  | i + 1, h => (r.grows i (by omega)).trans (r.grow (by omega))
theorem Runs.tmpsSize (r : Runs P rd ops A H V K) : ∀ i, i ≤ ops.size → (A i).tmps.size = (A 0).tmps.size ∧ (A i).defers = (A 0).defers
  | 0, _ => ⟨rfl, rfl⟩
  | i + 1, h => by
    have ih := r.tmpsSize i (by omega)
    rw [r.act i ops[i] (by simp)]
    unfold Act.put
    cases (ops[i]).dst with
    | none => exact ih
    | some d => exact ⟨by simpa using ih.1, ih.2⟩

/-- What writes the temporary t; what turns the block id. -/
def wr (ops : Array Oper) (A : Nat → Act) (t : Tmp) (k : Nat) : Prop := (ops[k]?).bind (·.dst) = some t ∧ t < (A 0).tmps.size
def tu (H : Nat → IHeap) (id k : Nat) : Prop := (H (k + 1)).get id ≠ (H k).get id
noncomputable def va (ops : Array Oper) (A : Nat → Act) (V : Nat → Value) (f : Nat → Bool) (t : Tmp) : Value := pick f (wr ops A t) V ((A 0).tmps.getD t undef) ops.size
noncomputable def cf (ops : Array Oper) (H : Nat → IHeap) (f : Nat → Bool) (id : Nat) : Option IObj := pick f (tu H id) (fun k => (H (k + 1)).get id) ((H 0).get id) ops.size

theorem put_get (a : Act) (d : Option Tmp) (v : Value) (t : Tmp) : (a.put d v).tmps.getD t undef = if d = some t ∧ t < a.tmps.size then v else a.tmps.getD t undef := by
  unfold Act.put
  cases d with
  | none => simp
  | some d =>
    by_cases e : d = t
    · subst e
      by_cases h : d < a.tmps.size
      · simp [h, Array.getD]
      · simp [h, Array.getD]
    · rw [if_neg (fun h => e (Option.some.inj h.1))]
      simp only [Array.getD_eq_getD_getElem?]
      rw [Array.getElem?_setIfInBounds, if_neg e]
theorem full_va (r : Runs P rd ops A H V K) (t : Tmp) : ∀ i, i ≤ ops.size → pick (fun _ => true) (wr ops A t) V ((A 0).tmps.getD t undef) i = (A i).tmps.getD t undef
  | 0, _ => rfl
  | i + 1, h => by
    have ho : ops[i]? = some ops[i] := by simp
    have hz := (r.tmpsSize i (by omega)).1
    by_cases hc : wr ops A t i
    · rw [pick_yes rfl hc, r.act i _ ho, put_get]
      obtain ⟨h1, h2⟩ := hc
      rw [ho] at h1
      rw [if_pos ⟨by simpa using h1, by rw [hz]; exact h2⟩]
    · rw [pick_no (fun hx => hc hx.2), full_va r t i (by omega), r.act i _ ho, put_get]
      rw [if_neg (fun hx => hc ⟨by rw [ho]; simpa using hx.1, by rw [← hz]; exact hx.2⟩)]
theorem full_cf (id : Nat) : ∀ i, pick (fun _ => true) (tu H id) (fun k => (H (k + 1)).get id) ((H 0).get id) i = (H i).get id
  | 0 => rfl
  | i + 1 => by
    by_cases hc : tu H id i
    · rw [pick_yes rfl hc]
    · rw [pick_no (fun hx => hc hx.2), full_cf id i]
      unfold tu at hc
      exact (Classical.not_not.1 hc).symm

/-- With f done, and i ready: what i looks at is what it is in the text's order. -/
theorem va_at (r : Runs P rd ops A H V K) (hb : backOk ops = true) (ht : tmpsOk ops = true) {f : Nat → Bool} (hc : Closed ops f) {i : Nat} {o : Oper} (ho : ops[i]? = some o) (hf : f i = false) (hp : ∀ e ∈ o.after, Region.binds .any e = true → f e.on = true)
    {t : Tmp} (hn : t ∈ namesOf ops o) : va ops A V f t = (A i).tmps.getD t undef := by
  have hi : i < ops.size := (Array.getElem?_eq_some_iff.1 ho).1
  unfold va
  rw [pick_at (i := i) (fun k hk hw => ?_) (by omega), full_va r t i (by omega)]
  obtain ⟨h1, h2⟩ := hw
  have hok : ops[k]? = some ops[k] := by simp [hk]
  rw [hok] at h1
  simp only [Option.bind_some] at h1
  have hc' : Closed ops (fun j => f j || j == i) := by
    intro j oj hj hfj e he hbi
    simp only [Bool.or_eq_true, beq_iff_eq] at hfj
    rcases hfj with hfj | rfl
    · simp [hc j oj hj hfj e he hbi]
    · rw [ho] at hj; cases hj
      simp [hp e he hbi]
  by_cases e : k = i
  · subst e
    simp [hf]
  · have hbef := tmps_ord ht hok ho h1 hn e
    by_cases hlt : k < i
    · rw [Nat.min_eq_left (by omega), Nat.max_eq_right (by omega)] at hbef
      have := bef_closed hc' hb (i := k) (j := i) (by simp) hbef
      simp only [Bool.or_eq_true, beq_iff_eq] at this
      simp only [hlt, iff_true]
      rcases this with h | h
      · exact h
      · exact absurd h e
    · rw [Nat.min_eq_right (by omega), Nat.max_eq_left (by omega)] at hbef
      simp only [hlt, iff_false, Bool.not_eq_true]
      cases hfk : f k with
      | false => rfl
      | true => rw [bef_closed hc hb hfk hbef] at hf; cases hf
theorem va_add (r : Runs P rd ops A H V K) (hb : backOk ops = true) (ht : tmpsOk ops = true) {f : Nat → Bool} (hc : Closed ops f) {i : Nat} {o : Oper} (ho : ops[i]? = some o) (hf : f i = false) (t : Tmp) :
    va ops A V (fun j => f j || j == i) t = if o.dst = some t ∧ t < (A 0).tmps.size then V i else va ops A V f t := by
  have hi : i < ops.size := (Array.getElem?_eq_some_iff.1 ho).1
  unfold va
  rw [pick_add hi hf (fun k h1 h2 h3 h4 => ?_)]
  · have : wr ops A t i ↔ (o.dst = some t ∧ t < (A 0).tmps.size) := by unfold wr; rw [ho]; rfl
    by_cases hw : wr ops A t i
    · rw [if_pos hw, if_pos (this.1 hw)]
    · rw [if_neg hw, if_neg (fun h => hw (this.2 h))]
  · have hok : ops[k]? = some ops[k] := by simp [h2]
    have e3 := h3.1
    have e4 := h4.1
    rw [hok] at e3
    rw [ho] at e4
    simp only [Option.bind_some] at e3 e4
    have hbef := tmps_ord ht ho hok e4 (by simp [namesOf, e3]) (by omega)
    rw [Nat.min_eq_left (by omega), Nat.max_eq_right (by omega)] at hbef
    cases hfk : f k with
    | false => rfl
    | true => rw [bef_closed hc hb hfk hbef] at hf; cases hf
end
end Go.Proofs.Ytmobpbhbllhdcaa.Ideal
end
noncomputable section
namespace Go.Proofs.Ytmobpbhbllhdcaa.Ideal
set_option linter.unusedVariables false
set_option linter.unusedSimpArgs false
set_option linter.unnecessarySimpa false

/-- The frames' temporaries and deferred calls. -/
structure ActRel (ρ : Rho) (a ar : Act) : Prop where
  size : a.tmps.size = ar.tmps.size
  tmp : ∀ t, VRel ρ (a.tmps.getD t undef) (ar.tmps.getD t undef)
  dfr : ∃ bs : List Nat, a.defers = bs.map (fun b => { target := .collected b, args := #[] }) ∧ ∃ rs : List Ren, rs.length = bs.length ∧ (∀ (k b : Nat), bs[k]? = some b → ∃ R, rs[k]? = some R ∧ ρ b = some R) ∧ ar.defers = rs.map (fun R => { target := .collected R.block, args := #[] })
theorem ActRel.mono {ρ ρ' : Rho} {a ar : Act} (h : ActRel ρ a ar) (hle : ∀ i R, ρ i = some R → ρ' i = some R) : ActRel ρ' a ar :=
  ⟨h.size, fun t => (h.tmp t).mono hle, let ⟨bs, h1, rs, h2, h3, h4⟩ := h.dfr; ⟨bs, h1, rs, h2, fun k b hk => let ⟨R, a, b⟩ := h3 k b hk; ⟨R, a, hle _ _ b⟩, h4⟩⟩
theorem ActRel.put {ρ : Rho} {a ar : Act} (h : ActRel ρ a ar) (d : Option Tmp) {v v' : Value} (hv : VRel ρ v v') : ActRel ρ (a.put d v) (ar.put d v') := by
  refine ⟨?_, fun t => ?_, ?_⟩
  · unfold Act.put
    cases d with
    | none => exact h.size
    | some d => simpa using h.size
  · rw [put_get, put_get]
    have := h.size
    by_cases e : d = some t ∧ t < a.tmps.size
    · rw [if_pos e, if_pos ⟨e.1, by rw [← this]; exact e.2⟩]; exact hv
    · rw [if_neg e, if_neg (fun x => e ⟨x.1, by rw [this]; exact x.2⟩)]; exact h.tmp t
  · have : ∀ (b : Act) (u : Value), (b.put d u).defers = b.defers := fun b u => by unfold Act.put; cases d <;> rfl
    rw [this, this]; exact h.dfr

section
variable {P : Program} {rd rr : Option Nat} {ops : Array Oper} {A : Nat → Act} {H : Nat → IHeap} {V : Nat → Value} {K : Nat → Kind} {ρ0 : Rho} {w0 : World} {ar0 : Act}

structure Inv (ops : Array Oper) (A : Nat → Act) (H : Nat → IHeap) (V : Nat → Value) (ρ0 : Rho) (w0 : World) (ar0 : Act) (f : Nat → Bool) (ρ : Rho) (ar : Act) (w : World) : Prop where
  tsz : ar.tmps.size = (A 0).tmps.size
  tmp : ∀ t, VRel ρ (va ops A V f t) (ar.tmps.getD t undef)
  dfr : ar.defers = ar0.defers
  dom : ∀ id R, ρ id = some R → id < (H 0).size ∨ (∃ k, k < ops.size ∧ f k = true ∧ (H k).size ≤ id ∧ id < (H (k + 1)).size) ∨ (H ops.size).size ≤ id
  obj : ∀ id R o, ρ id = some R → cf ops H f id = some o → ∃ ob, w.heap[R.block]? = some ob ∧ ORel ρ R o ob
  inj : ∀ x y Rx Ry, ρ x = some Rx → ρ y = some Ry → Rx.block = Ry.block → cf ops H f x ≠ some .dead → cf ops H f y ≠ some .dead → x = y ∨ (RoO (cf ops H f x) ∧ RoO (cf ops H f y))
  lt : ∀ id R, ρ id = some R → R.block < w.heap.size
  wsize : w0.heap.size ≤ w.heap.size
  os : w.os = w0.os
  tape : w.tape = w0.tape
  output : w.output = w0.output
  ext : ∀ id, (id < (H 0).size ∨ (H ops.size).size ≤ id) → ρ id = ρ0 id
  new : ∀ id R, (H 0).size ≤ id → id < (H ops.size).size → ρ id = some R → w0.heap.size ≤ R.block ∨ ∃ j Rj o, (H 0).get j = some o ∧ o.isRo = false ∧ o ≠ .dead ∧ ρ0 j = some Rj ∧ Rj.block = R.block
  keep : ∀ b, b < w0.heap.size → (∀ i R o, (H 0).get i = some o → ρ0 i = some R → R.block = b → o.isRo = true ∨ o = .dead) → w.heap[b]? = w0.heap[b]?

theorem tu_alloc (r : Runs P rd ops A H V K) {k id : Nat} (hk : k < ops.size) (ht : tu H id k) : (K k = .alloc ∧ id = (H k).size ∧ ∃ n, (n ≠ .dead ∧ n.isRo = false) ∧ (H (k + 1)).get id = some n) ∨ K k = .heavy := by
  have := r.ok k ops[k] (by simp [hk])
  unfold tu at ht
  generalize hK : K k = c at this
  cases c with
  | skip => rw [this.2.2] at ht; exact absurd rfl ht
  | pure => rw [this.2.2.1] at ht; exact absurd rfl ht
  | read id => rw [this.2.2.1] at ht; exact absurd rfl ht
  | alloc =>
    obtain ⟨_, _, n, hn, e, _⟩ := this
    refine .inl ⟨rfl, ?_, n, hn, ?_⟩
    · rw [e, IHeap.get_push] at ht
      split at ht
      · assumption
      · exact absurd rfl ht
    · rw [e, IHeap.get_push] at ht ⊢
      split at ht
      · rename_i h; rw [if_pos h]
      · exact absurd rfl ht
  | heavy => exact .inr rfl
theorem tu_of_new (r : Runs P rd ops A H V K) {k id : Nat} (h1 : (H k).size ≤ id) (h2 : id < (H (k + 1)).size) : tu H id k := by
  unfold tu
  rw [IHeap.get_none h1]
  obtain ⟨o, ho⟩ := IHeap.get_of_lt h2
  rw [ho]; simp

/-- Unordered ones do not meet. -/
def NiAll (ops : Array Oper) (H : Nat → IHeap) (K : Nat → Kind) : Prop := ∀ i j, i < j → j < ops.size → bef ops i j = false → Ni H i j (K i) (K j)

/-- With f done, and i ready: a block that i looks at is what it is in the text's order. -/
theorem cf_at (r : Runs P rd ops A H V K) (hb : backOk ops = true) (ni : NiAll ops H K) {f : Nat → Bool} (hc : Closed ops f) {i : Nat} {o : Oper} (ho : ops[i]? = some o) (hf : f i = false) (hp : ∀ e ∈ o.after, Region.binds .any e = true → f e.on = true)
    {id : Nat} (hcl : K i = .heavy ∨ K i = .read id) (hid : id < (H i).size) (hdom : id < (H 0).size ∨ (∃ k, k < ops.size ∧ f k = true ∧ (H k).size ≤ id ∧ id < (H (k + 1)).size) ∨ (H ops.size).size ≤ id) : cf ops H f id = (H i).get id := by
  have hi : i < ops.size := (Array.getElem?_eq_some_iff.1 ho).1
  have hc' : Closed ops (fun j => f j || j == i) := by
    intro j oj hj hfj e he hbi
    simp only [Bool.or_eq_true, beq_iff_eq] at hfj
    rcases hfj with hfj | rfl
    · simp [hc j oj hj hfj e he hbi]
    · rw [ho] at hj; cases hj
      simp [hp e he hbi]
  unfold cf
  rw [pick_at (i := i) (fun k hk ht => ?_) (by omega), full_cf]
  rcases tu_alloc r hk ht with ⟨hK, hid', _⟩ | hK
  · -- made by k
    have hki : k < i := by
      refine Nat.lt_of_not_le (fun hle => ?_)
      have := r.size_le hle (by omega)
      omega
    simp only [hki, iff_true]
    rcases hdom with h | ⟨k', h1, h2, h3, h4⟩ | h
    · have := r.size_le (Nat.zero_le k) (by omega); omega
    · have : k' = k := by
        rcases Nat.lt_trichotomy k' k with h | h | h
        · have := r.size_le (show k' + 1 ≤ k by omega) (by omega); omega
        · exact h
        · have := r.size_le (show k + 1 ≤ k' by omega) (by omega)
          have hk1 : (H (k + 1)).size = (H k).size + 1 := by
            have := r.ok k ops[k] (by simp [hk])
            rw [hK] at this
            obtain ⟨_, _, n, _, e, _⟩ := this
            rw [e]; rfl
          omega
      rw [← this]; exact h2
    · have := r.size_le (show i ≤ ops.size by omega) (Nat.le_refl _); omega
  · by_cases e : k = i
    · subst e; simp [hf]
    · by_cases hlt : k < i
      · simp only [hlt, iff_true]
        cases hbef : bef ops k i with
        | true =>
          have := bef_closed hc' hb (i := k) (j := i) (by simp) hbef
          simp only [Bool.or_eq_true, beq_iff_eq] at this
          rcases this with h | h
          · exact h
          · exact absurd h e
        | false =>
          have h := ni k i hlt hi hbef
          rw [hK] at h
          rcases hcl with h2 | h2
          · rw [h2] at h; exact h.elim
          · rw [h2] at h; exact absurd h ht
      · simp only [hlt, iff_false, Bool.not_eq_true]
        cases hfk : f k with
        | false => rfl
        | true =>
          cases hbef : bef ops i k with
          | true => rw [bef_closed hc hb hfk hbef] at hf; cases hf
          | false =>
            have h := ni i k (by omega) hk hbef
            rw [hK] at h
            rcases hcl with h2 | h2
            · rw [h2] at h; exact h.elim
            · rw [h2] at h; exact absurd h ht
theorem cf_add (r : Runs P rd ops A H V K) (hb : backOk ops = true) (ni : NiAll ops H K) {f : Nat → Bool} (hc : Closed ops f) {i : Nat} {o : Oper} (ho : ops[i]? = some o) (hf : f i = false) (id : Nat) :
    cf ops H (fun j => f j || j == i) id = (open Classical in if tu H id i then (H (i + 1)).get id else cf ops H f id) := by
  have hi : i < ops.size := (Array.getElem?_eq_some_iff.1 ho).1
  unfold cf
  rw [pick_add hi hf (fun k h1 h2 h3 h4 => ?_)]
  cases hfk : f k with
  | false => rfl
  | true =>
    have hbef : bef ops i k = false := by
      cases hbef : bef ops i k with
      | true => rw [bef_closed hc hb hfk hbef] at hf; cases hf
      | false => rfl
    have h := ni i k h1 h2 hbef
    have hlt : id < (H (i + 1)).size := by
      refine Nat.lt_of_not_le (fun c => h4 ?_)
      rw [IHeap.get_none c, IHeap.get_none (Nat.le_trans (r.size hi) c)]
    rcases tu_alloc r h2 h3 with ⟨hK, hid, _⟩ | hK
    · have := r.size_le (show i + 1 ≤ k by omega) (by omega)
      omega
    · rw [hK] at h
      rcases tu_alloc r hi h4 with ⟨hK', hid, _⟩ | hK'
      · rw [hK'] at h
        rw [hid] at h3
        exact absurd h h3
      · rw [hK'] at h; exact h.elim
end
end Go.Proofs.Ytmobpbhbllhdcaa.Ideal
end
noncomputable section
namespace Go.Proofs.Ytmobpbhbllhdcaa.Ideal
set_option linter.unusedVariables false
set_option linter.unusedSimpArgs false
set_option linter.unnecessarySimpa false
section
variable {P : Program} {rd rr : Option Nat} {ops : Array Oper} {A : Nat → Act} {H : Nat → IHeap} {V : Nat → Value} {K : Nat → Kind} {ρ0 : Rho} {w0 : World} {ar0 : Act}

theorem one_interval (r : Runs P rd ops A H V K) {i k id : Nat} (hi : i < ops.size) (hk : k < ops.size) (h1 : (H i).size ≤ id) (h2 : id < (H (i + 1)).size) (h3 : (H k).size ≤ id) (h4 : id < (H (k + 1)).size) : k = i := by
  rcases Nat.lt_trichotomy k i with h | h | h
  · have := r.size_le (show k + 1 ≤ i by omega) (by omega); omega
  · exact h
  · have := r.size_le (show i + 1 ≤ k by omega) (by omega); omega

variable {f : Nat → Bool} {ρ : Rho} {ar : Act} {w : World} {i : Nat} {o : Oper}
/-- What i makes has no place yet. -/
theorem Inv.fresh (v : Inv ops A H V ρ0 w0 ar0 f ρ ar w) (r : Runs P rd ops A H V K) (ho : ops[i]? = some o) (hf : f i = false) : Fresh ρ (H i).size (H (i + 1)).size := by
  have hi : i < ops.size := (Array.getElem?_eq_some_iff.1 ho).1
  intro id h1 h2
  cases hr : ρ id with
  | none => rfl
  | some R =>
    rcases v.dom id R hr with h | ⟨k, k1, k2, k3, k4⟩ | h
    · have := r.size_le (Nat.zero_le i) (by omega); omega
    · have := one_interval r hi k1 h1 h2 k3 k4
      rw [this, hf] at k2; cases k2
    · have := r.size_le (show i + 1 ≤ ops.size by omega) (Nat.le_refl _); omega
/-- What others have made ahead of a heavy one is alive. -/
theorem Inv.junk (v : Inv ops A H V ρ0 w0 ar0 f ρ ar w) (r : Runs P rd ops A H V K) (hb : backOk ops = true) (ni : NiAll ops H K) (hc : Closed ops f) (ho : ops[i]? = some o) (hf : f i = false) (hK : K i = .heavy) {x : Nat} {R : Ren} (hx : ρ x = some R) (hge : (H i).size ≤ x) :
    cf ops H f x ≠ some .dead ∧ ¬ RoO (cf ops H f x) := by
  have hi : i < ops.size := (Array.getElem?_eq_some_iff.1 ho).1
  have hheavy : ∀ k, k < ops.size → i < k → K k = .heavy → f k = false := by
    intro k hk hik hKk
    cases hfk : f k with
    | false => rfl
    | true =>
      cases hbef : bef ops i k with
      | true => rw [bef_closed hc hb hfk hbef] at hf; cases hf
      | false =>
        have h := ni i k hik hk hbef
        rw [hK, hKk] at h
        exact h.elim
  rcases v.dom x R hx with h | ⟨k, k1, k2, k3, k4⟩ | h
  · have := r.size_le (Nat.zero_le i) (by omega); omega
  · have hik : i < k := by
      rcases Nat.lt_trichotomy k i with h | h | h
      · have := r.size_le (show k + 1 ≤ i by omega) (by omega); omega
      · rw [h, hf] at k2; cases k2
      · exact h
    have htu := tu_of_new r k3 k4
    rcases tu_alloc r k1 htu with ⟨hKk, hxk, n, hn, hg⟩ | hKk
    · unfold cf
      rw [pick_at (i := k + 1) (fun m hm ht => ?_) (by omega), full_cf, hg]
      · exact ⟨fun e => hn.1 (Option.some.inj e), RoO.not hn.2⟩
      · rcases Nat.lt_trichotomy m k with h | h | h
        · exfalso
          have := r.size_le (show m + 1 ≤ k by omega) (by omega)
          exact ht (by rw [IHeap.get_none (by omega), IHeap.get_none (by have := r.size hm; omega)])
        · subst h; simp [k2]
        · have hn1 : ¬ (m < k + 1) := by omega
          simp only [hn1, iff_false, Bool.not_eq_true]
          rcases tu_alloc r hm ht with ⟨_, hxm, _⟩ | hKm
          · have := r.size_le (show k + 1 ≤ m by omega) (by omega); omega
          · exact hheavy m hm (by omega) hKm
    · rw [hheavy k k1 hik hKk] at k2; cases k2
  · unfold cf
    rw [pick_at (i := 0) (fun m hm ht => ?_) (by omega), full_cf, IHeap.get_none (by have := r.size_le (Nat.zero_le ops.size) (Nat.le_refl _); omega)]
    · exact ⟨by simp, RoO.none⟩
    · exfalso
      have := r.size_le (show m + 1 ≤ ops.size by omega) (Nat.le_refl _)
      exact ht (by rw [IHeap.get_none (by omega), IHeap.get_none (by have := r.size hm; omega)])
/-- At a heavy one the world bears the text's heap. -/
theorem Inv.models (v : Inv ops A H V ρ0 w0 ar0 f ρ ar w) (r : Runs P rd ops A H V K) (hb : backOk ops = true) (ni : NiAll ops H K) (hc : Closed ops f) (ho : ops[i]? = some o) (hf : f i = false) (hp : ∀ e ∈ o.after, Region.binds .any e = true → f e.on = true) (hK : K i = .heavy) :
    Models ρ (H i) w := by
  have alive : ∀ x R, ρ x = some R → (H i).get x ≠ some .dead → cf ops H f x ≠ some .dead := by
    intro x R hx hd
    by_cases hlt : x < (H i).size
    · rw [cf_at r hb ni hc ho hf hp (.inl hK) hlt (v.dom x R hx)]; exact hd
    · exact (v.junk r hb ni hc ho hf hK hx (by omega)).1
  have roh : ∀ x R, ρ x = some R → RoO (cf ops H f x) → RoO ((H i).get x) := by
    intro x R hx hd
    by_cases hlt : x < (H i).size
    · rw [cf_at r hb ni hc ho hf hp (.inl hK) hlt (v.dom x R hx)] at hd; exact hd
    · exact absurd hd (v.junk r hb ni hc ho hf hK hx (by omega)).2
  refine ⟨fun x R u hg hx => ?_, fun x y Rx Ry hx hy he hdx hdy => (v.inj x y Rx Ry hx hy he (alive x Rx hx hdx) (alive y Ry hy hdy)).imp id (fun z => ⟨roh x Rx hx z.1, roh y Ry hy z.2⟩), v.lt⟩
  exact v.obj x R u hx (by rw [cf_at r hb ni hc ho hf hp (.inl hK) (IHeap.get_lt hg) (v.dom x R hx)]; exact hg)

theorem Inv.opsRel (v : Inv ops A H V ρ0 w0 ar0 f ρ ar w) (r : Runs P rd ops A H V K) (hb : backOk ops = true) (ht : tmpsOk ops = true) (hc : Closed ops f) (ho : ops[i]? = some o) (hf : f i = false) (hp : ∀ e ∈ o.after, Region.binds .any e = true → f e.on = true) : OpsRel ρ o (A i) ar := by
  intro x hx
  cases x with
  | tmp t =>
    have := v.tmp t
    rw [va_at r hb ht hc ho hf hp (by simp only [namesOf, List.mem_append]; exact .inl (.inr (List.mem_filterMap.2 ⟨.tmp t, by simpa using hx, rfl⟩)))] at this
    exact this
  | const u =>
    have h1 := r.consts
    unfold constsOk at h1
    rw [Array.all_eq_true_iff_forall_mem] at h1
    have h2 := h1 o (Array.mem_of_getElem? ho)
    rw [Array.all_eq_true_iff_forall_mem] at h2
    exact plain_rel (h2 _ hx)
  | func g => exact .fn rfl (fun i hi => absurd hi (by simp)) rfl (fun i hi => absurd hi (by simp))
  | global g =>
    have h1 := r.consts
    unfold constsOk at h1
    rw [Array.all_eq_true_iff_forall_mem] at h1
    have h2 := h1 o (Array.mem_of_getElem? ho)
    rw [Array.all_eq_true_iff_forall_mem] at h2
    exact absurd (h2 _ hx) (by simp [operandOk])
theorem Inv.wanted (v : Inv ops A H V ρ0 w0 ar0 f ρ ar w) (r : Runs P rd ops A H V K) (hb : backOk ops = true) (ht : tmpsOk ops = true) (hc : Closed ops f) (ho : ops[i]? = some o) (hf : f i = false) (hp : ∀ e ∈ o.after, Region.binds .any e = true → f e.on = true) :
    Region.wanted o (yielded ops ar.tmps) = Region.wanted o (yielded ops (A i).tmps) := by
  have hi : i < ops.size := (Array.getElem?_eq_some_iff.1 ho).1
  unfold Region.wanted
  cases hg : o.guard with
  | none => rfl
  | some jw =>
    obtain ⟨j, want⟩ := jw
    dsimp only
    have : yielded ops ar.tmps j = yielded ops (A i).tmps j := by
      unfold yielded
      cases hd : (ops[j]?).bind (·.dst) with
      | none => rfl
      | some t =>
        simp only [Option.bind_some]
        have h1 := v.tmp t
        rw [va_at r hb ht hc ho hf hp (by simp only [namesOf, List.mem_append, hg]; exact .inr (by rw [hd]; simp))] at h1
        have hz := (r.tmpsSize i (by omega)).1
        have hz2 := v.tsz
        by_cases hlt : t < (A 0).tmps.size
        · have e1 : ar.tmps[t]? = some (ar.tmps.getD t undef) := by
            have : t < ar.tmps.size := by rw [hz2]; exact hlt
            simp [Array.getD, this]
          have e2 : (A i).tmps[t]? = some ((A i).tmps.getD t undef) := by
            have : t < (A i).tmps.size := by rw [hz]; exact hlt
            simp [Array.getD, this]
          rw [e1, e2]
          generalize (A i).tmps.getD t undef = y at h1
          generalize ar.tmps.getD t undef = y' at h1
          cases h1 <;> rfl
        · have e1 : ar.tmps[t]? = none := by
            have : ¬ (t < ar.tmps.size) := by rw [hz2]; exact hlt
            exact Array.getElem?_eq_none (Nat.le_of_not_lt this)
          have e2 : (A i).tmps[t]? = none := by
            have : ¬ (t < (A i).tmps.size) := by rw [hz]; exact hlt
            exact Array.getElem?_eq_none (Nat.le_of_not_lt this)
          rw [e1, e2]
    rw [this]
/-- i's value in its place. -/
theorem Inv.tmps (v : Inv ops A H V ρ0 w0 ar0 f ρ ar w) (r : Runs P rd ops A H V K) (hb : backOk ops = true) (ht : tmpsOk ops = true) (hc : Closed ops f) (ho : ops[i]? = some o) (hf : f i = false) {ρ' : Rho} (hle : ∀ j R, ρ j = some R → ρ' j = some R) {v' : Value} (hv : VRel ρ' (V i) v') :
    ((ar.put o.dst v').tmps.size = (A 0).tmps.size) ∧ (∀ t, VRel ρ' (va ops A V (fun j => f j || j == i) t) ((ar.put o.dst v').tmps.getD t undef)) ∧ (ar.put o.dst v').defers = ar0.defers := by
  refine ⟨?_, fun t => ?_, ?_⟩
  · rw [← v.tsz]
    unfold Act.put
    cases o.dst <;> simp
  · rw [va_add r hb ht hc ho hf, put_get, v.tsz]
    by_cases e : o.dst = some t ∧ t < (A 0).tmps.size
    · rw [if_pos e, if_pos e]; exact hv
    · rw [if_neg e, if_neg e]; exact (v.tmp t).mono hle
  · rw [← v.dfr]
    unfold Act.put
    cases o.dst <;> rfl
/-- An operation that changes nothing. -/
theorem Inv.still (v : Inv ops A H V ρ0 w0 ar0 f ρ ar w) (r : Runs P rd ops A H V K) (hb : backOk ops = true) (ht : tmpsOk ops = true) (ni : NiAll ops H K) (hc : Closed ops f) (ho : ops[i]? = some o) (hf : f i = false) (hH : H (i + 1) = H i) {v' : Value} (hv : VRel ρ (V i) v') :
    Inv ops A H V ρ0 w0 ar0 (fun j => f j || j == i) ρ (ar.put o.dst v') w := by
  obtain ⟨t1, t2, t3⟩ := v.tmps r hb ht hc ho hf (fun _ _ h => h) hv
  have hcf : ∀ id, cf ops H (fun j => f j || j == i) id = cf ops H f id := by
    intro id
    rw [cf_add r hb ni hc ho hf, if_neg (fun h => h (by rw [hH]))]
  refine ⟨t1, t2, t3, fun id R hr => ?_, fun id R u hr hu => v.obj id R u hr (by rw [← hcf]; exact hu), fun x y Rx Ry hx hy he h1 h2 => by rw [hcf, hcf]; exact v.inj x y Rx Ry hx hy he (by rw [← hcf]; exact h1) (by rw [← hcf]; exact h2), v.lt, v.wsize, v.os, v.tape, v.output, v.ext, v.new, v.keep⟩
  rcases v.dom id R hr with h | ⟨k, k1, k2, k3, k4⟩ | h
  · exact .inl h
  · exact .inr (.inl ⟨k, k1, by simp [k2], k3, k4⟩)
  · exact .inr (.inr h)
/-- An operation that takes a step. -/
theorem Inv.step (v : Inv ops A H V ρ0 w0 ar0 f ρ ar w) (r : Runs P rd ops A H V K) (hb : backOk ops = true) (ht : tmpsOk ops = true) (ni : NiAll ops H K) (hc : Closed ops f) (ho : ops[i]? = some o) (hf : f i = false) (hp : ∀ e ∈ o.after, Region.binds .any e = true → f e.on = true) (hK : K i = .heavy)
    {ρ' : Rho} {w' : World} {v' : Value} (s : Step ρ (H i) w ρ' (H (i + 1)) w') (m' : Models ρ' (H (i + 1)) w') (hv : VRel ρ' (V i) v') : Inv ops A H V ρ0 w0 ar0 (fun j => f j || j == i) ρ' (ar.put o.dst v') w' := by
  have hi : i < ops.size := (Array.getElem?_eq_some_iff.1 ho).1
  have hfr := v.fresh r ho hf
  have hle := s.le hfr
  obtain ⟨t1, t2, t3⟩ := v.tmps r hb ht hc ho hf hle hv
  have m := v.models r hb ni hc ho hf hp hK
  have g0 := r.grows i (by omega)
  have hz1 := r.size hi
  have hz2 := r.size_le (show i + 1 ≤ ops.size by omega) (Nat.le_refl _)
  -- where ids of ρ' come from
  have src : ∀ id R, ρ' id = some R → ((H i).size ≤ id ∧ id < (H (i + 1)).size) ∨ ((id < (H i).size ∨ (H (i + 1)).size ≤ id) ∧ ρ id = some R) := by
    intro id R hr
    by_cases h : id < (H i).size ∨ (H (i + 1)).size ≤ id
    · exact .inr ⟨h, by rw [← s.ext id h]; exact hr⟩
    · exact .inl (by omega)
  -- the content behind i
  have cont : ∀ id R, ρ' id = some R → id < (H (i + 1)).size → cf ops H (fun j => f j || j == i) id = (H (i + 1)).get id := by
    intro id R hr hlt
    rw [cf_add r hb ni hc ho hf]
    by_cases htu : tu H id i
    · rw [if_pos htu]
    · rw [if_neg htu]
      rcases src id R hr with h | ⟨h, h2⟩
      · exact absurd (tu_of_new r h.1 h.2) htu
      · rw [cf_at r hb ni hc ho hf hp (.inl hK) (by omega) (v.dom id R h2)]
        unfold tu at htu
        exact (Classical.not_not.1 htu).symm
  have far : ∀ id, (H (i + 1)).size ≤ id → cf ops H (fun j => f j || j == i) id = cf ops H f id := by
    intro id hge
    rw [cf_add r hb ni hc ho hf, if_neg (fun h => h (by rw [IHeap.get_none hge, IHeap.get_none (by omega)]))]
  refine ⟨t1, t2, t3, ?_, ?_, ?_, m'.lt, Nat.le_trans v.wsize s.wsize, s.os.trans v.os, s.tape.trans v.tape, s.output.trans v.output, ?_, ?_, ?_⟩
  · intro id R hr
    rcases src id R hr with h | ⟨_, h2⟩
    · exact .inr (.inl ⟨i, hi, by simp, h.1, h.2⟩)
    · rcases v.dom id R h2 with h | ⟨k, k1, k2, k3, k4⟩ | h
      · exact .inl h
      · exact .inr (.inl ⟨k, k1, by simp [k2], k3, k4⟩)
      · exact .inr (.inr h)
  · intro id R u hr hu
    by_cases hlt : id < (H (i + 1)).size
    · rw [cont id R hr hlt] at hu
      exact m'.obj id R u hu hr
    · rw [far id (by omega)] at hu
      rcases src id R hr with h | ⟨_, h2⟩
      · omega
      · obtain ⟨ob, h3, h4⟩ := v.obj id R u h2 hu
        refine ⟨ob, ?_, h4.mono hle⟩
        rw [s.keep R.block (v.lt id R h2) ?_]
        · exact h3
        · intro x Rx ox hg hx hbk
          cases hdx : (decide (ox.isRo = true)) with
          | true => exact .inl (by simpa using hdx)
          | false =>
            refine .inr (Classical.byContradiction (fun hne => ?_))
            have h5 := (m.inj x id Rx R hx h2 hbk (by rw [hg]; intro e; exact hne (Option.some.inj e)) (by rw [IHeap.get_none (by omega)]; simp)).resolve_right (fun z => RoO.none (by have := z.2; rwa [IHeap.get_none (by omega)] at this))
            have := IHeap.get_lt hg
            omega
  · intro x y Rx Ry hx hy he h1 h2
    have al : ∀ z R, ρ' z = some R → cf ops H (fun j => f j || j == i) z ≠ some .dead → (H (i + 1)).get z ≠ some .dead := by
      intro z R hz h
      by_cases hlt : z < (H (i + 1)).size
      · rw [← cont z R hz hlt]; exact h
      · rw [IHeap.get_none (by omega)]; simp
    have ro' : ∀ z R, ρ' z = some R → RoO ((H (i + 1)).get z) → RoO (cf ops H (fun j => f j || j == i) z) := by
      intro z R hz h
      by_cases hlt : z < (H (i + 1)).size
      · rw [cont z R hz hlt]; exact h
      · rw [IHeap.get_none (by omega)] at h; exact absurd h RoO.none
    exact (m'.inj x y Rx Ry hx hy he (al x Rx hx h1) (al y Ry hy h2)).imp id (fun z => ⟨ro' x Rx hx z.1, ro' y Ry hy z.2⟩)
  · intro id hid
    rw [s.ext id (by have := r.size_le (Nat.zero_le i) (by omega); omega)]
    exact v.ext id hid
  · intro id R h1 h2 hr
    rcases src id R hr with h | ⟨_, h3⟩
    · rcases s.new id R h.1 h.2 hr with c | ⟨j, Rj, u, k1, k2, k3, k4, k5⟩
      · exact .inl (Nat.le_trans v.wsize c)
      · by_cases hj : j < (H 0).size
        · obtain ⟨u0, hu0⟩ := IHeap.get_of_lt hj
          refine .inr ⟨j, Rj, u0, hu0, ?_, ?_, by rw [← v.ext j (.inl hj)]; exact k4, k5⟩
          · cases hr0 : u0.isRo with
            | false => rfl
            | true =>
              have := g0.ro j u0 hu0 hr0
              rw [this] at k1; cases k1
              rw [hr0] at k2; cases k2
          · intro e
            subst e
            have := g0.dd j hu0
            rw [this] at k1; cases k1
            exact k3 rfl
        · have hjn : j < (H ops.size).size := by have := IHeap.get_lt k1; omega
          rcases v.new j Rj (by omega) hjn k4 with c | ⟨j', Rj', u', l1, l2, l3, l4, l5⟩
          · exact .inl (by omega)
          · exact .inr ⟨j', Rj', u', l1, l2, l3, l4, l5.trans k5⟩
    · exact v.new id R h1 h2 h3
  · intro b hlt hall
    rw [s.keep b (Nat.lt_of_lt_of_le hlt v.wsize) ?_]
    · exact v.keep b hlt hall
    · intro x Rx ox hg hx hbk
      by_cases hx0 : x < (H 0).size
      · obtain ⟨u0, hu0⟩ := IHeap.get_of_lt hx0
        rcases hall x Rx u0 hu0 (by rw [← v.ext x (.inl hx0)]; exact hx) hbk with h | h
        · have := g0.ro x u0 hu0 h
          rw [this] at hg; cases hg
          exact .inl h
        · subst h
          have := g0.dd x hu0
          rw [this] at hg
          exact .inr (Option.some.inj hg).symm
      · have hxn : x < (H ops.size).size := by have := IHeap.get_lt hg; omega
        rcases v.new x Rx (by omega) hxn hx with c | ⟨j', Rj', u', l1, l2, l3, l4, l5⟩
        · omega
        · rcases hall j' Rj' u' l1 l4 (l5.trans hbk) with h | h
          · rw [h] at l2; cases l2
          · exact absurd h l3
end
end Go.Proofs.Ytmobpbhbllhdcaa.Ideal
end
noncomputable section
namespace Go.Proofs.Ytmobpbhbllhdcaa.Ideal
set_option linter.unusedVariables false
set_option linter.unusedSimpArgs false
set_option linter.unnecessarySimpa false
section
variable {P : Program} {rd rr : Option Nat} {ops : Array Oper} {A : Nat → Act} {H : Nat → IHeap} {V : Nat → Value} {K : Nat → Kind} {ρ0 : Rho} {w0 : World} {ar0 : Act}
variable {f : Nat → Bool} {ρ : Rho} {ar : Act} {w : World} {i : Nat} {o : Oper}

/-- An operation that makes a block. -/
theorem Inv.made (v : Inv ops A H V ρ0 w0 ar0 f ρ ar w) (r : Runs P rd ops A H V K) (hb : backOk ops = true) (ht : tmpsOk ops = true) (ni : NiAll ops H K) (hc : Closed ops f) (ho : ops[i]? = some o) (hf : f i = false)
    {n : IObj} {ob : Obj} {R : Ren} {w' : World} {v' : Value} (hH : H (i + 1) = (H i).push n) (h2 : w'.heap = w.heap.push ob) (h3 : w'.os = w.os) (h4 : w'.tape = w.tape) (h5 : w'.output = w.output) (h6 : R.block = w.heap.size)
    (h7 : ORel (ρ.upd (H i).size R) R n ob) (hv : VRel (ρ.upd (H i).size R) (V i) v') : Inv ops A H V ρ0 w0 ar0 (fun j => f j || j == i) (ρ.upd (H i).size R) (ar.put o.dst v') w' := by
  have hi : i < ops.size := (Array.getElem?_eq_some_iff.1 ho).1
  have hz1 : (H (i + 1)).size = (H i).size + 1 := by rw [hH]; rfl
  have hz2 := r.size_le (show i + 1 ≤ ops.size by omega) (Nat.le_refl _)
  have hz0 := r.size_le (Nat.zero_le i) (by omega)
  have hf0 : ρ (H i).size = none := v.fresh r ho hf _ (Nat.le_refl _) (by omega)
  have hle := upd_le (R := R) hf0
  obtain ⟨t1, t2, t3⟩ := v.tmps r hb ht hc ho hf hle hv
  have hup : ∀ j R', ρ.upd (H i).size R j = some R' → (j = (H i).size ∧ R' = R) ∨ (j ≠ (H i).size ∧ ρ j = some R') := by
    intro j R' hj
    unfold Rho.upd at hj
    split at hj
    · exact .inl ⟨by assumption, (Option.some.inj hj).symm⟩
    · exact .inr ⟨by assumption, hj⟩
  have hcf : ∀ id, cf ops H (fun j => f j || j == i) id = if id = (H i).size then some n else cf ops H f id := by
    intro id
    rw [cf_add r hb ni hc ho hf]
    by_cases e : id = (H i).size
    · subst e
      rw [if_pos (tu_of_new r (Nat.le_refl _) (by omega)), if_pos rfl, hH, IHeap.get_push, if_pos rfl]
    · rw [if_neg (fun h => h (by rw [hH, IHeap.get_push, if_neg e])), if_neg e]
  have hold : ∀ b, b < w.heap.size → w'.heap[b]? = w.heap[b]? := fun b hb => by rw [h2, Array.getElem?_push, if_neg (by omega)]
  refine ⟨t1, t2, t3, ?_, ?_, ?_, ?_, by rw [h2, Array.size_push]; have := v.wsize; omega, h3.trans v.os, h4.trans v.tape, h5.trans v.output, ?_, ?_, ?_⟩
  · intro id R' hr
    rcases hup id R' hr with ⟨rfl, _⟩ | ⟨_, h⟩
    · exact .inr (.inl ⟨i, hi, by simp, Nat.le_refl _, by omega⟩)
    · rcases v.dom id R' h with h | ⟨k, k1, k2, k3, k4⟩ | h
      · exact .inl h
      · exact .inr (.inl ⟨k, k1, by simp [k2], k3, k4⟩)
      · exact .inr (.inr h)
  · intro id R' u hr hu
    rw [hcf] at hu
    rcases hup id R' hr with ⟨rfl, rfl⟩ | ⟨hne, h⟩
    · rw [if_pos rfl] at hu
      cases hu
      exact ⟨ob, by rw [h2, Array.getElem?_push, if_pos h6], h7⟩
    · rw [if_neg hne] at hu
      obtain ⟨b, k1, k2⟩ := v.obj id R' u h hu
      exact ⟨b, by rw [hold _ (v.lt id R' h)]; exact k1, k2.mono hle⟩
  · intro x y Rx Ry hx hy he d1 d2
    rw [hcf] at d1 d2
    rcases hup x Rx hx with ⟨rfl, rfl⟩ | ⟨nx, hx'⟩ <;> rcases hup y Ry hy with ⟨rfl, rfl⟩ | ⟨ny, hy'⟩
    · exact .inl rfl
    · have := v.lt y Ry hy'; omega
    · have := v.lt x Rx hx'; omega
    · rw [if_neg nx] at d1
      rw [if_neg ny] at d2
      rw [hcf, hcf, if_neg nx, if_neg ny]
      exact v.inj x y Rx Ry hx' hy' he d1 d2
  · intro id R' hr
    rw [h2, Array.size_push]
    rcases hup id R' hr with ⟨_, rfl⟩ | ⟨_, h⟩
    · omega
    · have := v.lt id R' h; omega
  · intro id hid
    unfold Rho.upd
    rw [if_neg (by omega)]
    exact v.ext id hid
  · intro id R' k1 k2 hr
    rcases hup id R' hr with ⟨_, rfl⟩ | ⟨_, h⟩
    · exact .inl (by have := v.wsize; omega)
    · exact v.new id R' k1 k2 h
  · intro b hlt hall
    rw [hold b (Nat.lt_of_lt_of_le hlt v.wsize)]
    exact v.keep b hlt hall

theorem wpIn_value {nx : Next} {v' : Value} {w' : World} {K' : Act → World → Prop} {Q : Exit → Act → World → Prop} (ho : ops[i]? = some o) (hw : Region.wanted o (yielded ops ar.tmps) = true) (hd : ∀ c, o.op ≠ .defer c) (hr : (execOp ar.eval o).run P w = .ok nx w') (hn : nx = .value v' ∨ (nx = .skip ∧ v' = undef)) (hK : K' (ar.put o.dst v') w') :
    wpOpIn (fen rr) 0 P ops Q i K' ar w := by
  unfold wpOpIn
  rw [ho]
  dsimp only
  rw [if_pos hw]
  exact wpIn_of_run hd hr hn hK
theorem wpIn_skipped {K' : Act → World → Prop} {Q : Exit → Act → World → Prop} (ho : ops[i]? = some o) (hw : Region.wanted o (yielded ops ar.tmps) = false) (hK : K' (ar.put o.dst undef) w) : wpOpIn (fen rr) 0 P ops Q i K' ar w := by
  unfold wpOpIn
  rw [ho]
  dsimp only
  rw [hw]
  exact ⟨fun f _ => fen_fn rr f, hK⟩

/-- One operation comes up. -/
theorem Inv.op (v : Inv ops A H V ρ0 w0 ar0 f ρ ar w) (r : Runs P rd ops A H V K) (hb : backOk ops = true) (ht : tmpsOk ops = true) (ni : NiAll ops H K) (hrd : RdRel ρ0 rd rr) (hle : ∀ j R, ρ0 j = some R → ρ j = some R) (hc : Closed ops f) (ho : ops[i]? = some o) (hf : f i = false) (hp : ∀ e ∈ o.after, Region.binds .any e = true → f e.on = true) (Q : Exit → Act → World → Prop) :
    wpOpIn (fen rr) 0 P ops Q i (fun a' w' => ∃ ρ', Inv ops A H V ρ0 w0 ar0 (fun j => f j || j == i) ρ' a' w' ∧ ∀ j R, ρ0 j = some R → ρ' j = some R) ar w := by
  have hi : i < ops.size := (Array.getElem?_eq_some_iff.1 ho).1
  have hok := r.ok i o ho
  have hw := v.wanted r hb ht hc ho hf hp
  have hrel := v.opsRel r hb ht hc ho hf hp
  cases hK : K i with
  | skip =>
    rw [hK] at hok
    obtain ⟨h1, h2, h3⟩ := hok
    refine wpIn_skipped ho (by rw [hw]; exact h1) ⟨ρ, v.still r hb ht ni hc ho hf h3 (by rw [h2]; exact VRel.undef_rel), hle⟩
  | pure =>
    rw [hK] at hok
    obtain ⟨h1, h2, h3, h4⟩ := hok
    obtain ⟨v', k1, k2⟩ := h4 ρ ar w hrel
    exact wpIn_value ho (by rw [hw]; exact h1) h2 k1 (.inl rfl) ⟨ρ, v.still r hb ht ni hc ho hf h3 k2, hle⟩
  | read id =>
    rw [hK] at hok
    obtain ⟨h1, h2, h3, h4⟩ := hok
    obtain ⟨v', k1, k2⟩ := h4 ρ ar w (fun x hx R ob hg hr => by
      simp only [List.mem_singleton] at hx
      subst hx
      exact v.obj x R ob hr (by rw [cf_at r hb ni hc ho hf hp (.inr hK) (IHeap.get_lt hg) (v.dom x R hr)]; exact hg)) hrel
    exact wpIn_value ho (by rw [hw]; exact h1) h2 k1 (.inl rfl) ⟨ρ, v.still r hb ht ni hc ho hf h3 k2, hle⟩
  | alloc =>
    rw [hK] at hok
    obtain ⟨h1, h2, n, hn, h3, h4⟩ := hok
    have hf0 : ρ (H i).size = none := v.fresh r ho hf _ (Nat.le_refl _) (by rw [h3]; simp)
    obtain ⟨v', ob, R, w', k1, k2, k3, k4, k5, k6, k7, k8⟩ := h4 ρ ar w hf0 hrel
    exact wpIn_value ho (by rw [hw]; exact h1) h2 k1 (.inl rfl) ⟨_, v.made r hb ht ni hc ho hf h3 k2 k3 k4 k5 k6 k7 k8, fun j R hj => upd_le hf0 j R (hle j R hj)⟩
  | heavy =>
    rw [hK] at hok
    obtain ⟨h1, h2, h3⟩ := hok
    unfold wpOpIn
    rw [ho]
    dsimp only
    rw [if_pos (by rw [hw]; exact h1)]
    refine h3 ρ w ar rr (hrd.mono hle) (v.models r hb ni hc ho hf hp hK) (v.fresh r ho hf) hrel _ Q ?_
    intro v' ρ' w' s m hv
    exact ⟨ρ', v.step r hb ht ni hc ho hf hp hK s m hv, fun j R hj => s.le (v.fresh r ho hf) j R (hle j R hj)⟩

theorem Inv.congr {g : Nat → Bool} (v : Inv ops A H V ρ0 w0 ar0 f ρ ar w) (h : ∀ k, k < ops.size → f k = g k) : Inv ops A H V ρ0 w0 ar0 g ρ ar w := by
  have hpick : ∀ {α : Type} (chg : Nat → Prop) (new : Nat → α) (x : α) n, n ≤ ops.size → pick f chg new x n = pick g chg new x n := by
    intro α chg new x n
    induction n with
    | zero => intro _; rfl
    | succ n ih =>
      intro hn
      have e := h n (by omega)
      by_cases hc : f n = true ∧ chg n
      · rw [pick_yes hc.1 hc.2, pick_yes (by rw [← e]; exact hc.1) hc.2]
      · rw [pick_no hc, pick_no (by rw [← e]; exact hc), ih (by omega)]
  have hva : ∀ t, va ops A V g t = va ops A V f t := fun t => (hpick _ _ _ _ (Nat.le_refl _)).symm
  have hcf : ∀ id, cf ops H g id = cf ops H f id := fun id => (hpick _ _ _ _ (Nat.le_refl _)).symm
  refine ⟨v.tsz, fun t => by rw [hva]; exact v.tmp t, v.dfr, fun id R hr => ?_, fun id R u hr hu => v.obj id R u hr (by rw [← hcf]; exact hu), fun x y Rx Ry hx hy he h1 h2 => by rw [hcf, hcf]; exact v.inj x y Rx Ry hx hy he (by rw [← hcf]; exact h1) (by rw [← hcf]; exact h2), v.lt, v.wsize, v.os, v.tape, v.output, v.ext, v.new, v.keep⟩
  rcases v.dom id R hr with h' | ⟨k, k1, k2, k3, k4⟩ | h'
  · exact .inl h'
  · exact .inr (.inl ⟨k, k1, by rw [← h k k1]; exact k2, k3, k4⟩)
  · exact .inr (.inr h')

theorem ready_all {l : Array Bool} (hl : l.size = ops.size) (hB : backOk ops = true) (hr : Region.ready .any ops l = []) : ∀ i, i < ops.size → l.getD i true = true := by
  intro i
  induction i using Nat.strongRecOn with
  | ind i ih =>
    intro hi
    cases hb : l.getD i true with
    | true => rfl
    | false =>
      have hm : i ∈ Region.ready .any ops l := by
        refine mem_ready.2 ⟨hb, ops[i], by simp [hi], fun e he hbi => ?_⟩
        have h1 := List.all_eq_true.mp hB i (List.mem_range.mpr hi)
        simp only [hi, Array.getElem?_eq_getElem] at h1
        have h2 := Array.all_eq_true'.mp h1 e he
        simp only [hbi, Bool.not_true, Bool.false_or, decide_eq_true_eq] at h2
        have h3 := ih _ h2 (by omega)
        have h4 : e.on < l.size := by omega
        simp [h4] at h3 ⊢
        exact h3
      rw [hr] at hm
      exact absurd hm (by simp)

theorem wpAnyIn_inv {F : Fence} {n0 : Nat} {Q : Exit → Act → World → Prop} (hB : backOk ops = true) (I : (Nat → Bool) → Act → World → Prop) (hcg : ∀ f g a w, (∀ i, i < ops.size → f i = g i) → I f a w → I g a w)
    (hstep : ∀ (i : Nat) (o : Oper) (f : Nat → Bool) (a : Act) (w : World), ops[i]? = some o → Closed ops f → I f a w → f i = false → (∀ e ∈ o.after, Region.binds .any e = true → f e.on = true) → wpOpIn F n0 P ops Q i (fun a' w' => I (fun j => f j || j == i) a' w') a w)
    (hend : ∀ a w, I (fun _ => true) a w → Q .normal a w) :
    ∀ (n : Nat) (l : Array Bool) (a : Act) (w : World), l.size = ops.size → (Array.count false l ≤ n) → Closed ops (fun i => l.getD i false) → I (fun i => l.getD i false) a w → wpAnyIn F n0 P .any ops Q n l a w := by
  have fin : ∀ (l : Array Bool) (a : Act) (w : World), l.size = ops.size → I (fun i => l.getD i false) a w → Region.ready .any ops l = [] → Q .normal a w := by
    intro l a w hl hI hr
    refine hend a w (hcg _ _ a w (fun i hi => ?_) hI)
    have h := ready_all hl hB hr i hi
    have hi' : i < l.size := by omega
    simp [hi'] at h ⊢
    exact h
  intro n
  induction n with
  | zero =>
    intro l a w hl hn hc hI
    have h0 : Region.ready .any ops l = [] := by
      apply List.eq_nil_iff_forall_not_mem.mpr
      intro i hi
      obtain ⟨hb, o, ho, -⟩ := mem_ready.1 hi
      have hlt : i < l.size := by rw [hl]; exact (Array.getElem?_eq_some_iff.1 ho).1
      simp [hlt] at hb
      have : 0 < Array.count false l := Array.count_pos_iff.mpr (Array.mem_of_getElem hb)
      omega
    exact ⟨h0, fin l a w hl hI h0⟩
  | succ n ih =>
    intro l a w hl hn hc hI
    refine ⟨fin l a w hl hI, fun i hi => ?_⟩
    obtain ⟨hb, o, ho, hp⟩ := mem_ready.1 hi
    have hlt : i < l.size := by rw [hl]; exact (Array.getElem?_eq_some_iff.1 ho).1
    have hset : ∀ j, j < l.size → ((l.setIfInBounds i true).getD j false) = (l.getD j false || j == i) := by
      intro j hj'
      by_cases hij : j = i
      · subst hij; simp [hlt]
      · simp [hj', hij, Array.getElem_setIfInBounds, show ¬ i = j from fun h => hij h.symm]
    refine wpOpIn_mono (fun a' w' h' => ih _ a' w' (by simp [hl]) ?_ ?_ (hcg _ _ a' w' ?_ h')) (hstep i o _ a w ho hc hI (by simp [hlt] at hb ⊢; exact hb) hp)
    · simp [hlt] at hb
      rw [Array.setIfInBounds_def, dif_pos hlt, Array.count_set hlt]
      simp [hb]
      omega
    · intro j oj hj hfj e he hbi
      have hjl : j < l.size := by rw [hl]; exact (Array.getElem?_eq_some_iff.1 hj).1
      have hel : e.on < l.size := by
        have h1 := List.all_eq_true.mp hB j (List.mem_range.mpr (by omega))
        rw [hj] at h1
        have h2 := Array.all_eq_true'.mp h1 e he
        simp [hbi] at h2; omega
      dsimp only at hfj ⊢
      rw [hset j hjl] at hfj
      rw [hset e.on hel]
      simp only [Bool.or_eq_true, beq_iff_eq] at hfj
      rcases hfj with h | rfl
      · have := hc j oj hj h e he hbi
        simp [this]
      · rw [ho] at hj; cases hj
        have := hp e he hbi
        simp [this]
    · intro j hj
      exact (hset j (by omega)).symm

/-- What lies behind: a step, the heap borne, the frame's temporaries. -/
def After (ρ : Rho) (h : IHeap) (w : World) (a' : Act) (h' : IHeap) (ar' : Act) (w' : World) : Prop := ∃ ρ', Step ρ h w ρ' h' w' ∧ Models ρ' h' w' ∧ ActRel ρ' a' ar'

theorem region_any (hm : P.follows .mixedOrders = true) (r : Runs P rd ops A H V K) (hb : backOk ops = true) (ht : tmpsOk ops = true) (ni : NiAll ops H K) {id : Nat} {Q : Exit → Act → World → Prop} (hrd : RdRel ρ0 rd rr) (hmod : Models ρ0 (H 0) w0) (hfr : Fresh ρ0 (H 0).size (H ops.size).size) (hact : ActRel ρ0 (A 0) ar0)
    (hQ : ∀ ar' w', After ρ0 (H 0) w0 (A ops.size) (H ops.size) ar' w' → Q .normal ar' w') : (Code.region id ops true).wpIn (fen rr) 0 P Q ar0 w0 := by
  refine wpIn_region_any hm (wpAnyIn_inv (Q := Q) hb (fun f ar w => ∃ ρ, Inv ops A H V ρ0 w0 ar0 f ρ ar w ∧ ∀ j R, ρ0 j = some R → ρ j = some R) ?_ ?_ ?_ ops.size _ ar0 _ (by simp) ?_ ?_ ?_)
  · rintro f g a w hfg ⟨ρ, h1, h2⟩
    exact ⟨ρ, h1.congr hfg, h2⟩
  · rintro i o f a w ho hc ⟨ρ, h1, h2⟩ hf hp
    exact h1.op r hb ht ni hrd h2 hc ho hf hp Q
  · rintro a w ⟨ρ, v, hle⟩
    have hcf : ∀ id, cf ops H (fun _ => true) id = (H ops.size).get id := fun id => full_cf id ops.size
    have hva : ∀ t, va ops A V (fun _ => true) t = (A ops.size).tmps.getD t undef := fun t => full_va r t ops.size (Nat.le_refl _)
    have hz := r.tmpsSize ops.size (Nat.le_refl _)
    refine hQ a w ⟨ρ, ⟨r.grows ops.size (Nat.le_refl _), v.wsize, v.os, v.tape, v.output, fun i hi => v.ext i hi, v.new, v.keep⟩, ⟨fun i R o hg hr => v.obj i R o hr (by rw [hcf]; exact hg), fun x y Rx Ry hx hy he h1 h2 => by rw [← hcf, ← hcf]; exact v.inj x y Rx Ry hx hy he (by rw [hcf]; exact h1) (by rw [hcf]; exact h2), v.lt⟩, ⟨by rw [hz.1]; exact v.tsz.symm, fun t => by rw [← hva]; exact v.tmp t, ?_⟩⟩
    rw [hz.2, v.dfr]
    exact (hact.mono hle).dfr
  · have := Array.count_le_size (a := false) (xs := Array.replicate ops.size false)
    simpa using this
  · intro j oj hj hfj
    exfalso
    have hjl : j < ops.size := (Array.getElem?_eq_some_iff.1 hj).1
    simp [hjl] at hfj
  · refine ⟨ρ0, ?_, fun _ _ h => h⟩
    have hpick : ∀ {α : Type} (chg : Nat → Prop) (new : Nat → α) (x : α) n, pick (fun i => (Array.replicate ops.size false).getD i false) chg new x n = x := by
      intro α chg new x n
      induction n with
      | zero => rfl
      | succ n ih => rw [pick_no (fun h => by
          have := h.1
          by_cases hn : n < ops.size
          · simp [hn] at this
          · simp [hn] at this), ih]
    have hcf : ∀ id, cf ops H (fun i => (Array.replicate ops.size false).getD i false) id = (H 0).get id := fun id => hpick _ _ _ _
    have hva : ∀ t, va ops A V (fun i => (Array.replicate ops.size false).getD i false) t = (A 0).tmps.getD t undef := fun t => hpick _ _ _ _
    refine ⟨hact.size.symm, fun t => by rw [hva]; exact hact.tmp t, rfl, ?_, ?_, ?_, hmod.lt, Nat.le_refl _, rfl, rfl, rfl, fun _ _ => rfl, ?_, fun _ _ _ => rfl⟩
    · intro id R hr
      by_cases h : id < (H 0).size
      · exact .inl h
      · by_cases h' : (H ops.size).size ≤ id
        · exact .inr (.inr h')
        · rw [hfr id (by omega) (by omega)] at hr; cases hr
    · intro id R o hr ho
      rw [hcf] at ho
      exact hmod.obj id R o ho hr
    · intro x y Rx Ry hx hy he h1 h2
      rw [hcf] at h1 h2
      rw [hcf, hcf]
      exact hmod.inj x y Rx Ry hx hy he h1 h2
    · intro id R h1 h2 hr
      rw [hfr id h1 h2] at hr; cases hr
end
end Go.Proofs.Ytmobpbhbllhdcaa.Ideal
end
