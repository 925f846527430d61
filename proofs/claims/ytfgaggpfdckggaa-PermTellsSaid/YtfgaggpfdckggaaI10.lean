/- Regions that draw their order: if the text's order goes through, and what is unordered does not meet, every order comes to the same. -/
import Derived.Test.YtfgaggpfdckggaaI9
noncomputable section
namespace Go.Proofs.Ytfgaggpfdckggaa.Ideal
set_option linter.unusedVariables false
set_option linter.unusedSimpArgs false
set_option linter.unnecessarySimpa false

/-- The fence of a frame: a function's, or a round's of the loop l. -/
def fen : Option Nat → Fence
  | none => Fence.wide
  | some l => Fence.wide.inRound l
def RdRel (ρ : Rho) : Option Nat → Option Nat → Prop
  | none, none => True
  | some i, some l => ∃ R, ρ i = some R ∧ R.block = l
  | _, _ => False
theorem RdRel.mono {ρ ρ' : Rho} {rd rr : Option Nat} (h : RdRel ρ rd rr) (hle : ∀ i R, ρ i = some R → ρ' i = some R) : RdRel ρ' rd rr := by
  cases rd <;> cases rr <;> first | exact h | exact h.elim | exact (let ⟨R, a, b⟩ := h; ⟨R, hle _ _ a, b⟩)
theorem fen_fn (rr : Option Nat) (f : FuncId) : (fen rr).fn f := by cases rr <;> trivial
theorem fen_round (rr : Option Nat) : (fen rr).round = rr := by cases rr <;> rfl
theorem fen_depth (rr : Option Nat) : (fen rr).depth = none := by cases rr <;> rfl

/-- An operation that may do anything. -/
def HOp (P : Program) (rd : Option Nat) (o : Oper) (a : Act) (h : IHeap) (v : Value) (h' : IHeap) : Prop :=
  ∀ (ρ : Rho) (w : World) (ar : Act) (rr : Option Nat), RdRel ρ rd rr → Models ρ h w → Fresh ρ h.size h'.size → OpsRel ρ o a ar → ∀ (K : Act → World → Prop) (Q : Exit → Act → World → Prop),
    (∀ v' ρ' w', Step ρ h w ρ' h' w' → Models ρ' h' w' → VRel ρ' v v' → K (ar.put o.dst v') w') → o.wpIn (fen rr) 0 P ar w K Q

theorem wpIn_of_run {P : Program} {o : Oper} {ar : Act} {w w' : World} {rr : Option Nat} {nx : Next} {v' : Value} {K : Act → World → Prop} {Q : Exit → Act → World → Prop} (hd : ∀ c, o.op ≠ .defer c) (hr : (execOp ar.eval o).run P w = .ok nx w') (hn : nx = .value v' ∨ (nx = .skip ∧ v' = undef))
    (hK : K (ar.put o.dst v') w') : o.wpIn (fen rr) 0 P ar w K Q := by
  refine ⟨fun f _ => fen_fn rr f, ?_⟩
  rw [Oper.semAt_eq _ _ _ hd, hr]
  rcases hn with rfl | ⟨rfl, rfl⟩
  · exact hK
  · exact hK
theorem HOp.of_mem {P : Program} {rd : Option Nat} {o : Oper} {a : Act} {h h' : IHeap} {v : Value} (hd : ∀ c, o.op ≠ .defer c) (hm : MOp P o a h v h') : HOp P rd o a h v h' := by
  intro ρ w ar rr _ hmod hf hrel K Q hK
  obtain ⟨nx, w', ρ', v', h1, h2, h3, h4, h5⟩ := hm ρ ar w hmod hf hrel
  exact wpIn_of_run hd h1 h2 (hK v' ρ' w' h3 h4 h5)

/-- What an operation of a region came to, in the text's order. -/
inductive Kind where
  | skip
  | pure
  | read (i : Nat)
  | alloc
  | heavy
def KOk (P : Program) (rd : Option Nat) (ops : Array Oper) (o : Oper) (a : Act) (h : IHeap) (v : Value) (h' : IHeap) : Kind → Prop
  | .skip => Region.wanted o (yielded ops a.tmps) = false ∧ v = undef ∧ h' = h
  | .pure => Region.wanted o (yielded ops a.tmps) = true ∧ (∀ c, o.op ≠ .defer c) ∧ h' = h ∧ PureOp P o a v
  | .read i => Region.wanted o (yielded ops a.tmps) = true ∧ (∀ c, o.op ≠ .defer c) ∧ h' = h ∧ ROp P o a h v [i]
  | .alloc => Region.wanted o (yielded ops a.tmps) = true ∧ (∀ c, o.op ≠ .defer c) ∧ ∃ n, n ≠ .dead ∧ h' = h.push n ∧ AOp P o a h.size v n
  | .heavy => Region.wanted o (yielded ops a.tmps) = true ∧ Grow h h' ∧ HOp P rd o a h v h'

/-- What an operation looks at or writes. -/
def namesOf (ops : Array Oper) (o : Oper) : List Tmp :=
  o.dst.toList ++ (o.op.operands.toList.filterMap fun | .tmp t => some t | _ => none) ++ (match o.guard with | some (j, _) => ((ops[j]?).bind (·.dst)).toList | none => [])

/-- The masks of what must come ahead. -/
def bmask (acc : List Nat) (o : Oper) : Nat := o.after.toList.foldl (fun s e => if Region.binds .any e then s ||| (2 ^ e.on ||| acc.getD e.on 0) else s) 0
def bmasks : List Oper → List Nat → List Nat
  | [], acc => acc
  | o :: os, acc => bmasks os (acc ++ [bmask acc o])
def befores (ops : Array Oper) : List Nat := bmasks ops.toList []
/-- i must come ahead of j. -/
def bef (ops : Array Oper) (i j : Nat) : Bool := ((befores ops).getD j 0).testBit i
/-- Each operation waits for earlier ones alone; the masks are right; unordered ones share no temporary that one of them writes. -/
def backOk (ops : Array Oper) : Bool :=
  (List.range ops.size).all fun i => match ops[i]? with
    | some o => o.after.all fun e => !Region.binds .any e || decide (e.on < i)
    | none => true
def tmpsOk (ops : Array Oper) : Bool :=
  let bs := befores ops
  let ws := ops.toList.zipIdx.filterMap fun (o, i) => o.dst.map fun d => (d, i)
  ops.toList.zipIdx.all fun (o, j) => let ns := namesOf ops o
    ws.all fun (d, i) => i == j || !ns.contains d || (bs.getD (max i j) 0).testBit (min i j)

section masks
variable {ops : Array Oper}
/-- A set that is closed: with each operation all that it waits for. -/
def Closed (ops : Array Oper) (f : Nat → Bool) : Prop := ∀ j o, ops[j]? = some o → f j = true → ∀ e ∈ o.after, Region.binds .any e = true → f e.on = true
theorem bmask_closed {f : Nat → Bool} {acc : List Nat} {o : Oper} (hacc : ∀ j, j < acc.length → f j = true → ∀ i, (acc.getD j 0).testBit i = true → f i = true)
    (ho : ∀ e ∈ o.after, Region.binds .any e = true → f e.on = true) (hlt : ∀ e ∈ o.after, Region.binds .any e = true → e.on < acc.length) : ∀ i, (bmask acc o).testBit i = true → f i = true := by
  unfold bmask
  have gen : ∀ (l : List Edge) (s : Nat), (∀ e ∈ l, e ∈ o.after) → (∀ i, s.testBit i = true → f i = true) → ∀ i, (l.foldl (fun s e => if Region.binds .any e then s ||| (2 ^ e.on ||| acc.getD e.on 0) else s) s).testBit i = true → f i = true := by
    intro l
    induction l with
    | nil => intro s _ hs i hi; exact hs i hi
    | cons e l ih =>
      intro s hl hs i hi
      simp only [List.foldl_cons] at hi
      refine ih _ (fun e' he' => hl e' (by simp [he'])) ?_ i hi
      intro k hk
      split at hk
      · rename_i hb
        rw [Nat.testBit_or, Nat.testBit_or, Bool.or_eq_true, Bool.or_eq_true] at hk
        rcases hk with hk | hk | hk
        · exact hs k hk
        · rw [Nat.testBit_two_pow] at hk
          have : e.on = k := by simpa using hk
          rw [← this]; exact ho e (hl e (by simp)) hb
        · exact hacc e.on (hlt e (hl e (by simp)) hb) (ho e (hl e (by simp)) hb) k hk
      · exact hs k hk
  exact gen o.after.toList 0 (fun e he => by simpa using he) (fun i hi => by simp at hi)
theorem bmasks_closed {f : Nat → Bool} (hc : Closed ops f) (hb : backOk ops = true) : ∀ (l : List Oper) (acc : List Nat), (∀ k, (l[k]?) = ops[acc.length + k]?) → (∀ j, j < acc.length → f j = true → ∀ i, (acc.getD j 0).testBit i = true → f i = true) →
    ∀ j, j < (bmasks l acc).length → f j = true → ∀ i, ((bmasks l acc).getD j 0).testBit i = true → f i = true
  | [], acc, _, hacc => hacc
  | o :: l, acc, hl, hacc => by
    unfold bmasks
    have ho : ops[acc.length]? = some o := by
      have := hl 0
      simpa using this.symm
    refine bmasks_closed hc hb l (acc ++ [bmask acc o]) (fun k => ?_) ?_
    · have := hl (k + 1)
      simp only [List.getElem?_cons_succ] at this
      rw [this]; simp; congr 1; omega
    · intro j hj hf i hi
      by_cases hlt : j < acc.length
      · rw [List.getD_eq_getElem?_getD, List.getElem?_append_left hlt, ← List.getD_eq_getElem?_getD] at hi
        exact hacc j hlt hf i hi
      · have hjl : j = acc.length := by simp at hj; omega
        subst hjl
        have : (acc ++ [bmask acc o]).getD acc.length 0 = bmask acc o := by simp
        rw [this] at hi
        refine bmask_closed hacc (hc _ o ho hf) ?_ i hi
        intro e he hbi
        have hlt' : acc.length < ops.size := (Array.getElem?_eq_some_iff.1 ho).1
        have h1 := List.all_eq_true.mp hb acc.length (List.mem_range.mpr hlt')
        rw [ho] at h1
        have h2 := Array.all_eq_true'.mp h1 e he
        simpa [hbi] using h2
theorem bmasks_length : ∀ (l : List Oper) (acc : List Nat), (bmasks l acc).length = acc.length + l.length
  | [], acc => by simp [bmasks]
  | o :: l, acc => by rw [bmasks, bmasks_length]; simp; omega
theorem bef_closed {f : Nat → Bool} (hc : Closed ops f) (hb : backOk ops = true) {i j : Nat} (hj : f j = true) (h : bef ops i j = true) : f i = true := by
  unfold bef at h
  by_cases hlt : j < (befores ops).length
  · exact bmasks_closed hc hb ops.toList [] (fun k => by simp) (fun j hj => absurd hj (by simp)) j hlt hj i h
  · rw [List.getD_eq_getElem?_getD, List.getElem?_eq_none (by omega)] at h
    simp at h
theorem tmps_ord (ht : tmpsOk ops = true) {i j : Nat} {oi oj : Oper} {d : Tmp} (hi : ops[i]? = some oi) (hj : ops[j]? = some oj) (hd : oi.dst = some d) (hn : d ∈ namesOf ops oj) (hne : i ≠ j) : bef ops (min i j) (max i j) = true := by
  unfold tmpsOk at ht
  rw [List.all_eq_true] at ht
  have hi' : i < ops.size := (Array.getElem?_eq_some_iff.1 hi).1
  have hj' : j < ops.size := (Array.getElem?_eq_some_iff.1 hj).1
  have h1 := ht (oj, j) (List.mem_iff_getElem?.2 ⟨j, by simp [List.getElem?_zipIdx, hj]⟩)
  simp only [List.all_eq_true] at h1
  have h2 := h1 (d, i) (List.mem_filterMap.2 ⟨(oi, i), List.mem_iff_getElem?.2 ⟨i, by simp [List.getElem?_zipIdx, hi]⟩, by simp [hd]⟩)
  simp only [Bool.or_eq_true, beq_iff_eq, Bool.not_eq_true'] at h2
  rcases h2 with (h2 | h2) | h2
  · exact absurd h2 hne
  · rw [List.contains_iff_mem.2 hn] at h2
    cases h2
  · exact h2
end masks
end Go.Proofs.Ytfgaggpfdckggaa.Ideal
