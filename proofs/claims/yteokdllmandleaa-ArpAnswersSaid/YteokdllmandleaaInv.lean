/- Regions that draw their order, by an invariant over what has come up: one obligation for each operation, whatever the order. -/
import Derived.Test.YteokdllmandleaaBase
namespace Go.Proofs.Yteokdllmandleaa
set_option linter.unusedVariables false
set_option linter.unusedSimpArgs false
set_option linter.unnecessarySimpa false

/-- Nothing but the plain way on. -/
def only (K : Act → World → Prop) : Exit → Act → World → Prop
  | .normal => K
  | _ => fun _ _ => False

theorem letsOut_only {K : Act → World → Prop} {Q : Exit → Act → World → Prop} (h : LetsOut (only K)) : LetsOut Q := by
  obtain ⟨_, _, h⟩ := h
  exact h.elim

section
variable {P : Program} {ops : Array Oper} {Q : Exit → Act → World → Prop}
theorem wp_only {o : Oper} {a : Act} {w : World} {K K' : Act → World → Prop} (hh : o.wp P a w K (only K')) : o.wp P a w K Q := by
  unfold Oper.wp at *
  generalize (execOp a.eval o).run P w = r at *
  cases r with
  | ok n w' =>
    cases n <;> simp only [Oper.upon] at hh ⊢ <;>
      first
        | exact hh
        | exact Calls.mono hh (fun e w'' he => by cases e <;> first | exact he | exact he.elim | exact letsOut_only he)
  | halt x w' => cases x <;> simp only [Oper.upon] at hh ⊢ <;> first | exact hh | exact hh.elim
theorem wpOp_only {i : Nat} {o : Oper} {a : Act} {w : World} {K : Act → World → Prop} (ho : ops[i]? = some o) (h : wpList P ops (only K) [o] a w) : wpOp P ops Q i K a w := by
  unfold wpOp
  rw [ho]
  unfold wpList at h
  dsimp only
  split
  · rename_i hw
    rw [if_pos hw] at h
    exact h.imp (fun h => wp_only h) (fun h => ⟨h.1, letsOut_only h.2⟩)
  · rename_i hw
    rw [if_neg hw] at h
    exact h

/-- Each operation waits for earlier ones alone. -/
def backB (ops : Array Oper) : Bool :=
  (List.range ops.size).all fun i => match ops[i]? with
    | some o => o.after.all fun e => !Region.binds .any e || decide (e.on < i)
    | none => true

theorem all_of_ready {l : Array Bool} (hl : l.size = ops.size) (hB : backB ops = true) (hr : Region.ready .any ops l = []) : ∀ i, i < ops.size → l.getD i true = true := by
  intro i
  induction i using Nat.strongRecOn with
  | ind i ih =>
    intro hi
    cases hb : l.getD i true with
    | true => rfl
    | false =>
      have hm : i ∈ Region.ready .any ops l := by
        refine mem_ready.2 ⟨hb, ops[i], by simp [hi], fun e he hbi => ?_⟩
        have h1 := List.all_eq_true.mp hB i (List.mem_range.mpr hi)
        simp only [hi, Array.getElem?_eq_getElem] at h1
        have h2 := Array.all_eq_true'.mp h1 e he
        simp only [hbi, Bool.not_true, Bool.false_or, decide_eq_true_eq] at h2
        have h3 := ih _ h2 (by omega)
        have h4 : e.on < l.size := by omega
        simp [h4] at h3 ⊢
        exact h3
      rw [hr] at hm
      exact absurd hm (by simp)

theorem wpAny_inv (hB : backB ops = true) (I : (Nat → Bool) → Act → World → Prop) (hc : ∀ f g a w, (∀ i, i < ops.size → f i = g i) → I f a w → I g a w)
    (hstep : ∀ (i : Nat) (o : Oper) (f : Nat → Bool) (a : Act) (w : World), ops[i]? = some o → I f a w → f i = false → (∀ e ∈ o.after, Region.binds .any e = true → f e.on = true) → wpList P ops (only fun a' w' => I (fun j => f j || j == i) a' w') [o] a w)
    (hend : ∀ a w, I (fun _ => true) a w → Q .normal a w) :
    ∀ (n : Nat) (l : Array Bool) (a : Act) (w : World), l.size = ops.size → (Array.count false l ≤ n) → I (fun i => l.getD i false) a w → wpAny P .any ops Q n l a w := by
  have fin : ∀ (l : Array Bool) (a : Act) (w : World), l.size = ops.size → I (fun i => l.getD i false) a w → Region.ready .any ops l = [] → Q .normal a w := by
    intro l a w hl hI hr
    refine hend a w (hc _ _ a w (fun i hi => ?_) hI)
    have h := all_of_ready hl hB hr i hi
    have hi' : i < l.size := by omega
    simp [hi'] at h ⊢
    exact h
  intro n
  induction n with
  | zero =>
    intro l a w hl hn hI
    have h0 : Region.ready .any ops l = [] := by
      apply List.eq_nil_iff_forall_not_mem.mpr
      intro i hi
      obtain ⟨hb, o, ho, -⟩ := mem_ready.1 hi
      have hlt : i < l.size := by rw [hl]; exact (Array.getElem?_eq_some_iff.1 ho).1
      simp [hlt] at hb
      have : 0 < Array.count false l := Array.count_pos_iff.mpr (Array.mem_of_getElem hb)
      omega
    exact ⟨h0, fin l a w hl hI h0⟩
  | succ n ih =>
    intro l a w hl hn hI
    refine ⟨fin l a w hl hI, fun i hi => ?_⟩
    obtain ⟨hb, o, ho, hp⟩ := mem_ready.1 hi
    have hlt : i < l.size := by rw [hl]; exact (Array.getElem?_eq_some_iff.1 ho).1
    refine wpOp_mono (fun a' w' h' => ih _ a' w' (by simp [hl]) ?_ (hc _ _ a' w' ?_ h')) (wpOp_only ho (hstep i o _ a w ho hI (by simp [hlt] at hb ⊢; exact hb) hp))
    · simp [hlt] at hb
      rw [Array.setIfInBounds_def, dif_pos hlt, Array.count_set hlt]
      simp [hb]
      omega
    · intro j hj
      by_cases hij : j = i
      · subst hij; simp [hlt]
      · have hj' : j < l.size := by omega
        simp [hj', hij, Array.getElem_setIfInBounds, show ¬ i = j from fun h => hij h.symm]

/-- The law. -/
theorem wp_region_inv {id : Nat} {a : Act} {w : World} (hm : P.follows .mixedOrders = true) (hB : backB ops = true) (I : (Nat → Bool) → Act → World → Prop) (hc : ∀ f g a w, (∀ i, i < ops.size → f i = g i) → I f a w → I g a w)
    (h0 : I (fun _ => false) a w.drew)
    (hstep : ∀ (i : Nat) (o : Oper) (f : Nat → Bool) (a : Act) (w : World), ops[i]? = some o → I f a w → f i = false → (∀ e ∈ o.after, Region.binds .any e = true → f e.on = true) → wpList P ops (only fun a' w' => I (fun j => f j || j == i) a' w') [o] a w)
    (hend : ∀ a w, I (fun _ => true) a w → Q .normal a w) : (Code.region id ops true).wp P Q a w := by
  refine wp_region_any hm (wpAny_inv hB I hc hstep hend _ _ _ _ (by simp) ?_ (hc _ _ _ _ (fun i hi => ?_) h0))
  · have := Array.count_le_size (a := false) (xs := Array.replicate ops.size false)
    simpa using this
  · simp [hi]
theorem wpList_only_mono {o : Oper} {a : Act} {w : World} {K K' : Act → World → Prop} (hk : ∀ a w, K a w → K' a w) (h : wpList P ops (only K) [o] a w) : wpList P ops (only K') [o] a w := by
  unfold wpList at *
  split at h
  · rename_i hw
    rw [if_pos hw]
    exact h.imp (fun h => wp_only (Oper.wp_mono (fun a w h => hk a w h) h)) (fun h => ⟨h.1, letsOut_only h.2⟩)
  · rename_i hw
    rw [if_neg hw]
    exact hk _ _ h

/-- By the values that have come up: V f i x w: number i has left x, in the world w, when those of f have come up. -/
theorem wp_region_vals {id : Nat} {a : Act} {w : World} (hm : P.follows .mixedOrders = true) (hB : backB ops = true) (base : (Nat → Value) → Act) (S : World → Prop) (V : (Nat → Bool) → Nat → Value → World → Prop) (v0 : Nat → Value)
    (ha : a = base v0) (hS0 : S w.drew) (hVc : ∀ f g j x w, (∀ i, i < ops.size → f i = g i) → V f j x w → V g j x w)
    (hstep : ∀ (i : Nat) (o : Oper), ops[i]? = some o → ∀ (f : Nat → Bool) (v : Nat → Value) (w : World), S w → f i = false → (∀ e ∈ o.after, Region.binds .any e = true → f e.on = true ∧ V f e.on (v e.on) w) →
      wpList P ops (only fun a' w' => ∃ x, a' = base (fun j => if j = i then x else v j) ∧ S w' ∧ V (fun j => f j || j == i) i x w' ∧ ∀ j y, f j = true → V f j y w → V (fun j => f j || j == i) j y w') [o] (base v) w)
    (hend : ∀ v w, S w → (∀ i, i < ops.size → V (fun _ => true) i (v i) w) → Q .normal (base v) w) : (Code.region id ops true).wp P Q a w := by
  refine wp_region_inv hm hB (fun f a w => ∃ v, a = base v ∧ S w ∧ ∀ j, j < ops.size → f j = true → V f j (v j) w) ?_ ⟨v0, ha, hS0, fun j _ h => absurd h (by simp)⟩ ?_ ?_
  · rintro f g a w hfg ⟨v, rfl, hS, hV⟩
    exact ⟨v, rfl, hS, fun j hj hg => hVc f g j _ w hfg (hV j hj (by rw [hfg j hj]; exact hg))⟩
  · rintro i o f a w ho ⟨v, rfl, hS, hV⟩ hf hp
    have hi : i < ops.size := (Array.getElem?_eq_some_iff.1 ho).1
    have hback : ∀ e ∈ o.after, Region.binds .any e = true → e.on < i := by
      intro e he hb
      have h1 := List.all_eq_true.mp hB i (List.mem_range.mpr hi)
      rw [ho] at h1
      have h2 := Array.all_eq_true'.mp h1 e he
      simpa [hb] using h2
    refine wpList_only_mono ?_ (hstep i o ho f v w hS hf (fun e he hb => ⟨hp e he hb, hV _ (by have := hback e he hb; omega) (hp e he hb)⟩))
    rintro a' w' ⟨x, rfl, hS', hx, hrest⟩
    refine ⟨_, rfl, hS', fun j hj hfj => ?_⟩
    by_cases hji : j = i
    · subst hji; simpa using hx
    · have hfj' : f j = true := by simpa [hji] using hfj
      simp only [hji, if_false]
      exact hrest j _ hfj' (hV j hj hfj')
  · rintro a w ⟨v, rfl, hS, hV⟩
    exact hend v w hS (fun i hi => hV i hi rfl)
end
end Go.Proofs.Yteokdllmandleaa
