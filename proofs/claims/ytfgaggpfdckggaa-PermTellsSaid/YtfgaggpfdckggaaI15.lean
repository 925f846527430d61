/- Code on the ideal heap: what a piece of code comes to. -/
import Derived.Test.YtfgaggpfdckggaaI14
noncomputable section
namespace Go.Proofs.Ytfgaggpfdckggaa.Ideal
set_option linter.unusedVariables false
set_option linter.unusedSimpArgs false
set_option linter.unnecessarySimpa false

theorem After.refl {ρ : Rho} {h : IHeap} {w : World} {a ar : Act} (m : Models ρ h w) (r : ActRel ρ a ar) : After ρ h w a h ar w := ⟨ρ, Step.refl _ _ _, m, r⟩

/-- The code c, from (a, h), leaves by e with (a', h'), whatever world bears h. rd: the round's loop. -/
structure IExec (P : Program) (rd : Option Nat) (c : Code) (a : Act) (h : IHeap) (e : Exit) (a' : Act) (h' : IHeap) : Prop where
  grow : Grow h h'
  run : ∀ (ρ : Rho) (w : World) (ar : Act) (rr : Option Nat), RdRel ρ rd rr → Models ρ h w → Fresh ρ h.size h'.size → ActRel ρ a ar → ∀ Q : Exit → Act → World → Prop, (∀ ar' w', After ρ h w a' h' ar' w' → Q e ar' w') → c.wpIn (fen rr) 0 P Q ar w

section
variable {P : Program} {rd : Option Nat}

theorem operand_rel {ρ : Rho} {a ar : Act} (hact : ActRel ρ a ar) {x : Operand} (hx : operandOk x = true) : VRel ρ (a.eval x) (ar.eval x) := by
  cases x with
  | tmp t => exact hact.tmp t
  | const u => exact plain_rel hx
  | func g => exact .fn rfl (fun i hi => absurd hi (by simp)) rfl (fun i hi => absurd hi (by simp))
  | global g => simp [operandOk] at hx
theorem ops_rel {ρ : Rho} {a ar : Act} (hact : ActRel ρ a ar) {o : Oper} (ho : o.op.operands.all operandOk = true) : OpsRel ρ o a ar := by
  intro x hx
  rw [Array.all_eq_true_iff_forall_mem] at ho
  exact operand_rel hact (ho x hx)
theorem wanted_rel {ρ : Rho} {a ar : Act} (hact : ActRel ρ a ar) (ops : Array Oper) (o : Oper) : Region.wanted o (yielded ops ar.tmps) = Region.wanted o (yielded ops a.tmps) := by
  unfold Region.wanted
  cases hg : o.guard with
  | none => rfl
  | some jw =>
    obtain ⟨j, want⟩ := jw
    dsimp only
    have : yielded ops ar.tmps j = yielded ops a.tmps j := by
      unfold yielded
      cases hd : (ops[j]?).bind (·.dst) with
      | none => rfl
      | some t =>
        simp only [Option.bind_some]
        have h1 := hact.tmp t
        by_cases hlt : t < a.tmps.size
        · have e1 : ar.tmps[t]? = some (ar.tmps.getD t undef) := by
            have : t < ar.tmps.size := by rw [← hact.size]; exact hlt
            simp [Array.getD, this]
          have e2 : a.tmps[t]? = some (a.tmps.getD t undef) := by
            simp [Array.getD, hlt]
          rw [e1, e2]
          generalize a.tmps.getD t undef = y at h1
          generalize ar.tmps.getD t undef = y' at h1
          cases h1 <;> rfl
        · have e1 : ar.tmps[t]? = none := Array.getElem?_eq_none (Nat.le_of_not_lt (by rw [← hact.size]; exact hlt))
          have e2 : a.tmps[t]? = none := Array.getElem?_eq_none (Nat.le_of_not_lt hlt)
          rw [e1, e2]
    rw [this]

/-- One operation, in the text's order. -/
theorem op_seq {ops : Array Oper} {a : Act} {h h' : IHeap} {v : Value} {k : Kind} {ρ : Rho} {w : World} {ar : Act} {rr : Option Nat} {i : Nat} {o : Oper} (hk : KOk P rd ops o a h v h' k) (hcon : o.op.operands.all operandOk = true) (ho : ops[i]? = some o) (hrd : RdRel ρ rd rr) (hm : Models ρ h w) (hf : Fresh ρ h.size h'.size) (hact : ActRel ρ a ar)
    {K : Act → World → Prop} {Q : Exit → Act → World → Prop} (hK : ∀ ar' w', After ρ h w (a.put o.dst v) h' ar' w' → K ar' w') : wpOpIn (fen rr) 0 P ops Q i K ar w := by
  have hw := wanted_rel hact ops o
  have hrel := ops_rel hact hcon
  cases k with
  | skip =>
    obtain ⟨h1, rfl, rfl⟩ := hk
    exact wpIn_skipped ho (by rw [hw]; exact h1) (hK _ _ (.refl hm (hact.put _ VRel.undef_rel)))
  | pure =>
    obtain ⟨h1, h2, rfl, h4⟩ := hk
    obtain ⟨v', k1, k2⟩ := h4 ρ ar w hrel
    exact wpIn_value ho (by rw [hw]; exact h1) h2 k1 (.inl rfl) (hK _ _ (.refl hm (hact.put _ k2)))
  | read id =>
    obtain ⟨h1, h2, rfl, h4⟩ := hk
    obtain ⟨v', k1, k2⟩ := h4 ρ ar w (fun x _ R ob hg hr => hm.obj x R ob hg hr) hrel
    exact wpIn_value ho (by rw [hw]; exact h1) h2 k1 (.inl rfl) (hK _ _ (.refl hm (hact.put _ k2)))
  | alloc =>
    obtain ⟨h1, h2, n, hn, rfl, h4⟩ := hk
    have hf0 : ρ h.size = none := hf _ (Nat.le_refl _) (by simp)
    obtain ⟨v', ob, R, w', k1, k2, k3, k4, k5, k6, k7, k8⟩ := h4 ρ ar w hf0 hrel
    obtain ⟨s, m⟩ := hm.push hf0 k2 k3 k4 k5 k6 k7 hn
    exact wpIn_value ho (by rw [hw]; exact h1) h2 k1 (.inl rfl) (hK _ _ ⟨_, s, m, (hact.mono (upd_le hf0)).put _ k8⟩)
  | heavy =>
    obtain ⟨h1, h2, h3⟩ := hk
    unfold wpOpIn
    rw [ho]
    dsimp only
    rw [if_pos (by rw [hw]; exact h1)]
    exact h3 ρ w ar rr hrd hm hf hrel _ Q (fun v' ρ' w' s m hv => hK _ _ ⟨ρ', s, m, (hact.mono (s.le hf)).put _ hv⟩)

/-- A list of operations, in the text's order; what each came to. -/
structure Ent where
  kind : Kind
  pre : IHeap
  post : IHeap
inductive OpsRun (P : Program) (rd : Option Nat) (all : Array Oper) : List Oper → Act → IHeap → List Ent → Act → IHeap → Prop
  | nil {a : Act} {h : IHeap} : OpsRun P rd all [] a h [] a h
  | cons {o : Oper} {os : List Oper} {a a'' : Act} {h h' h'' : IHeap} {v : Value} {k : Kind} {es : List Ent} (hk : KOk P rd all o a h v h' k) (ht : OpsRun P rd all os (a.put o.dst v) h' es a'' h'') : OpsRun P rd all (o :: os) a h (⟨k, h, h'⟩ :: es) a'' h''
theorem KOk.grow {all : Array Oper} {o : Oper} {a : Act} {h h' : IHeap} {v : Value} {k : Kind} (hk : KOk P rd all o a h v h' k) : Grow h h' := by
  cases k with
  | skip => rw [hk.2.2]; exact Grow.refl _
  | pure => rw [hk.2.2.1]; exact Grow.refl _
  | read id => rw [hk.2.2.1]; exact Grow.refl _
  | alloc => obtain ⟨_, _, n, _, e, _⟩ := hk; rw [e]; exact Grow.push _ _
  | heavy => exact hk.2.1
theorem OpsRun.grow {all : Array Oper} {os : List Oper} {a a' : Act} {h h' : IHeap} {es : List Ent} (r : OpsRun P rd all os a h es a' h') : Grow h h' := by
  induction r with
  | nil => exact Grow.refl _
  | cons hk _ ih => exact hk.grow.trans ih

theorem ops_seq {all : Array Oper} {rr : Option Nat} {Q : Exit → Act → World → Prop} (hcon : constsOk all = true) {os : List Oper} {a a' : Act} {h h' : IHeap} {es : List Ent} (r : OpsRun P rd all os a h es a' h') :
    ∀ (k : Nat), (∀ j, os[j]? = all[k + j]?) → ∀ (ρ : Rho) (w : World) (ar : Act), RdRel ρ rd rr → Models ρ h w → Fresh ρ h.size h'.size → ActRel ρ a ar → (∀ ar' w', After ρ h w a' h' ar' w' → Q .normal ar' w') → wpOpsIn (fen rr) 0 P all Q (List.range' k os.length) ar w := by
  induction r with
  | nil =>
    intro k hall ρ w ar hrd hm hf hact hQ
    exact hQ ar w (.refl hm hact)
  | cons hk ht ih =>
    rename_i o os a a'' h h' h'' v kd es
    intro k hall ρ w ar hrd hm hf hact hQ
    have ho : all[k]? = some o := by simpa using (hall 0).symm
    have hc1 : o.op.operands.all operandOk = true := by
      unfold constsOk at hcon
      rw [Array.all_eq_true_iff_forall_mem] at hcon
      exact hcon o (Array.mem_of_getElem? ho)
    have g1 := hk.grow
    have g2 := ht.grow
    rw [List.length_cons, List.range'_succ, wpOpsIn_cons]
    have hf1 : Fresh ρ h.size h'.size := fun i a b => hf i a (by have := g2.size; omega)
    refine op_seq hk hc1 ho hrd hm hf1 hact ?_
    rintro ar' w' ⟨ρ', s, m, ra⟩
    refine ih (k + 1) (fun j => ?_) ρ' w' ar' (hrd.mono (s.le hf1)) m (fun i x y => by rw [s.ext i (.inr x)]; exact hf i (by have := g1.size; omega) y) ra ?_
    · have := hall (j + 1)
      simp only [List.getElem?_cons_succ] at this
      rw [this]; congr 1; omega
    · rintro ar'' w'' ⟨ρ'', s', m', ra'⟩
      exact hQ ar'' w'' ⟨ρ'', s.trans s', m', ra'⟩

/-- Entries that may not meet. -/
def NiE (e e' : Ent) : Prop :=
  match e.kind, e'.kind with
  | .heavy, .heavy => False
  | .heavy, .read id => e.post.get id = e.pre.get id
  | .read id, .heavy => e'.post.get id = e'.pre.get id
  | .alloc, .heavy => e'.post.get e.pre.size = e'.pre.get e.pre.size
  | _, _ => True
def NiL (ops : Array Oper) (es : List Ent) : Prop := ∀ (i j : Nat) (e e' : Ent), i < j → es[i]? = some e → es[j]? = some e' → bef ops i j = false → NiE e e'

theorem OpsRun.length {all : Array Oper} {os : List Oper} {a a' : Act} {h h' : IHeap} {es : List Ent} (r : OpsRun P rd all os a h es a' h') : es.length = os.length := by
  induction r with
  | nil => rfl
  | cons _ _ ih => simp [ih]
theorem OpsRun.fns {all : Array Oper} {os : List Oper} {a a' : Act} {h h' : IHeap} {es : List Ent} (r : OpsRun P rd all os a h es a' h') :
    ∃ (A : Nat → Act) (H : Nat → IHeap) (V : Nat → Value) (K : Nat → Kind), A 0 = a ∧ H 0 = h ∧ A os.length = a' ∧ H os.length = h' ∧ (∀ i o, os[i]? = some o → A (i + 1) = (A i).put o.dst (V i) ∧ KOk P rd all o (A i) (H i) (V i) (H (i + 1)) (K i)) ∧ ∀ i e, es[i]? = some e → e.kind = K i ∧ e.pre = H i ∧ e.post = H (i + 1) := by
  induction r with
  | nil =>
    rename_i a h
    exact ⟨fun _ => a, fun _ => h, fun _ => undef, fun _ => .skip, rfl, rfl, rfl, rfl, fun i o hi => by simp at hi, fun i e hi => by simp at hi⟩
  | cons hk ht ih =>
    rename_i o os a a'' h h' h'' v k es
    obtain ⟨A, H, V, K, e1, e2, e3, e4, h5, h6⟩ := ih
    refine ⟨fun i => match i with | 0 => a | i + 1 => A i, fun i => match i with | 0 => h | i + 1 => H i, fun i => match i with | 0 => v | i + 1 => V i, fun i => match i with | 0 => k | i + 1 => K i, rfl, rfl, e3, e4, ?_, ?_⟩
    · intro i o' hi
      cases i with
      | zero =>
        simp only [List.getElem?_cons_zero, Option.some.injEq] at hi
        subst hi
        exact ⟨e1, by dsimp only; rw [e2]; exact hk⟩
      | succ i => exact h5 i o' (by simpa using hi)
    · intro i e hi
      cases i with
      | zero =>
        simp only [List.getElem?_cons_zero, Option.some.injEq] at hi
        subst hi
        exact ⟨rfl, rfl, e2.symm⟩
      | succ i => exact h6 i e (by simpa using hi)

/-- What is asked of a region's text. -/
def regionOk (ops : Array Oper) : Bool := constsOk ops && backOk ops && tmpsOk ops

theorem IExec.region {id : Nat} {ops : Array Oper} {draw : Bool} {a a' : Act} {h h' : IHeap} {es : List Ent} (hm : P.follows .mixedOrders = true) (hok : regionOk ops = true) (r : OpsRun P rd ops ops.toList a h es a' h') (hni : draw = true → NiL ops es) :
    IExec P rd (.region id ops draw) a h .normal a' h' := by
  unfold regionOk at hok
  simp only [Bool.and_eq_true] at hok
  obtain ⟨⟨hcon, hb⟩, ht⟩ := hok
  refine ⟨r.grow, fun ρ w ar rr hrd hmod hf hact Q hQ => ?_⟩
  cases draw with
  | false =>
    refine wpIn_region ?_
    have := ops_seq (Q := Q) hcon r 0 (fun j => by simp) ρ w ar hrd hmod hf hact hQ
    rwa [Array.length_toList, ← List.range_eq_range'] at this
  | true =>
    obtain ⟨A, H, V, K, e1, e2, e3, e4, h5, h6⟩ := r.fns
    subst e1 e2
    have hlen : es.length = ops.size := by rw [r.length, Array.length_toList]
    rw [Array.length_toList] at e3 e4
    subst e3 e4
    refine region_any hm ⟨fun i o ho => (h5 i o (by simpa using ho)).1, fun i o ho => (h5 i o (by simpa using ho)).2, hcon⟩ hb ht ?_ hrd hmod hf hact hQ
    intro i j hij hj hbef
    have hi' : i < es.length := by omega
    have hj' : j < es.length := by omega
    have := hni rfl i j es[i] es[j] hij (by simp [hi']) (by simp [hj']) hbef
    obtain ⟨a1, a2, a3⟩ := h6 i es[i] (by simp [hi'])
    obtain ⟨b1, b2, b3⟩ := h6 j es[j] (by simp [hj'])
    unfold NiE at this
    unfold Ni
    rw [a1, a2, a3, b1, b2, b3] at this
    exact this
end
end Go.Proofs.Ytfgaggpfdckggaa.Ideal
