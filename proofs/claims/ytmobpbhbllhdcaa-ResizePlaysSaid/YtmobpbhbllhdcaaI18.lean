/- The ideal heap: I15, I16, I17, I18. Code on the ideal heap: what a piece of code comes to. -/
import Derived.Test.YtmobpbhbllhdcaaI14
noncomputable section
namespace Go.Proofs.Ytmobpbhbllhdcaa.Ideal
set_option linter.unusedVariables false
set_option linter.unusedSimpArgs false
set_option linter.unnecessarySimpa false

theorem After.refl {ρ : Rho} {h : IHeap} {w : World} {a ar : Act} (m : Models ρ h w) (r : ActRel ρ a ar) : After ρ h w a h ar w := ⟨ρ, Step.refl _ _ _, m, r⟩

/-- The code c, from (a, h), leaves by e with (a', h'), whatever world bears h. rd: the round's loop. -/
structure IExec (P : Program) (rd : Option Nat) (c : Code) (a : Act) (h : IHeap) (e : Exit) (a' : Act) (h' : IHeap) : Prop where
  grow : Grow h h'
  run : ∀ (ρ : Rho) (w : World) (ar : Act) (rr : Option Nat), RdRel ρ rd rr → Models ρ h w → Fresh ρ h.size h'.size → ActRel ρ a ar → ∀ Q : Exit → Act → World → Prop, (∀ ar' w', After ρ h w a' h' ar' w' → Q e ar' w') → c.wpIn (fen rr) 0 P Q ar w

section
variable {P : Program} {rd : Option Nat}

theorem operand_rel {ρ : Rho} {a ar : Act} (hact : ActRel ρ a ar) {x : Operand} (hx : operandOk x = true) : VRel ρ (a.eval x) (ar.eval x) := by
  cases x with
  | tmp t => exact hact.tmp t
  | const u => exact plain_rel hx
  | func g => exact .fn rfl (fun i hi => absurd hi (by simp)) rfl (fun i hi => absurd hi (by simp))
  | global g => simp [operandOk] at hx
theorem ops_rel {ρ : Rho} {a ar : Act} (hact : ActRel ρ a ar) {o : Oper} (ho : o.op.operands.all operandOk = true) : OpsRel ρ o a ar := by
  intro x hx
  rw [Array.all_eq_true_iff_forall_mem] at ho
  exact operand_rel hact (ho x hx)
theorem wanted_rel {ρ : Rho} {a ar : Act} (hact : ActRel ρ a ar) (ops : Array Oper) (o : Oper) : Region.wanted o (yielded ops ar.tmps) = Region.wanted o (yielded ops a.tmps) := by
  unfold Region.wanted
  cases hg : o.guard with
  | none => rfl
  | some jw =>
    obtain ⟨j, want⟩ := jw
    dsimp only
    have : yielded ops ar.tmps j = yielded ops a.tmps j := by
      unfold yielded
      cases hd : (ops[j]?).bind (·.dst) with
      | none => rfl
      | some t =>
        simp only [Option.bind_some]
        have h1 := hact.tmp t
        by_cases hlt : t < a.tmps.size
        · have e1 : ar.tmps[t]? = some (ar.tmps.getD t undef) := by
            have : t < ar.tmps.size := by rw [← hact.size]; exact hlt
            simp [Array.getD, this]
          have e2 : a.tmps[t]? = some (a.tmps.getD t undef) := by
            simp [Array.getD, hlt]
          rw [e1, e2]
          generalize a.tmps.getD t undef = y at h1
          generalize ar.tmps.getD t undef = y' at h1
          cases h1 <;> rfl
        · have e1 : ar.tmps[t]? = none := Array.getElem?_eq_none (Nat.le_of_not_lt (by rw [← hact.size]; exact hlt))
          have e2 : a.tmps[t]? = none := Array.getElem?_eq_none (Nat.le_of_not_lt hlt)
          rw [e1, e2]
    rw [this]

/-- One operation, in the text's order. -/
theorem op_seq {ops : Array Oper} {a : Act} {h h' : IHeap} {v : Value} {k : Kind} {ρ : Rho} {w : World} {ar : Act} {rr : Option Nat} {i : Nat} {o : Oper} (hk : KOk P rd ops o a h v h' k) (hcon : o.op.operands.all operandOk = true) (ho : ops[i]? = some o) (hrd : RdRel ρ rd rr) (hm : Models ρ h w) (hf : Fresh ρ h.size h'.size) (hact : ActRel ρ a ar)
    {K : Act → World → Prop} {Q : Exit → Act → World → Prop} (hK : ∀ ar' w', After ρ h w (a.put o.dst v) h' ar' w' → K ar' w') : wpOpIn (fen rr) 0 P ops Q i K ar w := by
  have hw := wanted_rel hact ops o
  have hrel := ops_rel hact hcon
  cases k with
  | skip =>
    obtain ⟨h1, rfl, rfl⟩ := hk
    exact wpIn_skipped ho (by rw [hw]; exact h1) (hK _ _ (.refl hm (hact.put _ VRel.undef_rel)))
  | pure =>
    obtain ⟨h1, h2, rfl, h4⟩ := hk
    obtain ⟨v', k1, k2⟩ := h4 ρ ar w hrel
    exact wpIn_value ho (by rw [hw]; exact h1) h2 k1 (.inl rfl) (hK _ _ (.refl hm (hact.put _ k2)))
  | read id =>
    obtain ⟨h1, h2, rfl, h4⟩ := hk
    obtain ⟨v', k1, k2⟩ := h4 ρ ar w (fun x _ R ob hg hr => hm.obj x R ob hg hr) hrel
    exact wpIn_value ho (by rw [hw]; exact h1) h2 k1 (.inl rfl) (hK _ _ (.refl hm (hact.put _ k2)))
  | alloc =>
    obtain ⟨h1, h2, n, hn, rfl, h4⟩ := hk
    have hf0 : ρ h.size = none := hf _ (Nat.le_refl _) (by simp)
    obtain ⟨v', ob, R, w', k1, k2, k3, k4, k5, k6, k7, k8⟩ := h4 ρ ar w hf0 hrel
    obtain ⟨s, m⟩ := hm.push hf0 k2 k3 k4 k5 k6 k7 hn.1
    exact wpIn_value ho (by rw [hw]; exact h1) h2 k1 (.inl rfl) (hK _ _ ⟨_, s, m, (hact.mono (upd_le hf0)).put _ k8⟩)
  | heavy =>
    obtain ⟨h1, h2, h3⟩ := hk
    unfold wpOpIn
    rw [ho]
    dsimp only
    rw [if_pos (by rw [hw]; exact h1)]
    exact h3 ρ w ar rr hrd hm hf hrel _ Q (fun v' ρ' w' s m hv => hK _ _ ⟨ρ', s, m, (hact.mono (s.le hf)).put _ hv⟩)

/-- A list of operations, in the text's order; what each came to. -/
structure Ent where
  kind : Kind
  pre : IHeap
  post : IHeap
inductive OpsRun (P : Program) (rd : Option Nat) (all : Array Oper) : List Oper → Act → IHeap → List Ent → Act → IHeap → Prop
  | nil {a : Act} {h : IHeap} : OpsRun P rd all [] a h [] a h
  | cons {o : Oper} {os : List Oper} {a a'' : Act} {h h' h'' : IHeap} {v : Value} {k : Kind} {es : List Ent} (hk : KOk P rd all o a h v h' k) (ht : OpsRun P rd all os (a.put o.dst v) h' es a'' h'') : OpsRun P rd all (o :: os) a h (⟨k, h, h'⟩ :: es) a'' h''
theorem KOk.grow {all : Array Oper} {o : Oper} {a : Act} {h h' : IHeap} {v : Value} {k : Kind} (hk : KOk P rd all o a h v h' k) : Grow h h' := by
  cases k with
  | skip => rw [hk.2.2]; exact Grow.refl _
  | pure => rw [hk.2.2.1]; exact Grow.refl _
  | read id => rw [hk.2.2.1]; exact Grow.refl _
  | alloc => obtain ⟨_, _, n, _, e, _⟩ := hk; rw [e]; exact Grow.push _ _
  | heavy => exact hk.2.1
theorem OpsRun.grow {all : Array Oper} {os : List Oper} {a a' : Act} {h h' : IHeap} {es : List Ent} (r : OpsRun P rd all os a h es a' h') : Grow h h' := by
  induction r with
  | nil => exact Grow.refl _
  | cons hk _ ih => exact hk.grow.trans ih

theorem ops_seq {all : Array Oper} {rr : Option Nat} {Q : Exit → Act → World → Prop} (hcon : constsOk all = true) {os : List Oper} {a a' : Act} {h h' : IHeap} {es : List Ent} (r : OpsRun P rd all os a h es a' h') :
    ∀ (k : Nat), (∀ j, os[j]? = all[k + j]?) → ∀ (ρ : Rho) (w : World) (ar : Act), RdRel ρ rd rr → Models ρ h w → Fresh ρ h.size h'.size → ActRel ρ a ar → (∀ ar' w', After ρ h w a' h' ar' w' → Q .normal ar' w') → wpOpsIn (fen rr) 0 P all Q (List.range' k os.length) ar w := by
  induction r with
  | nil =>
    intro k hall ρ w ar hrd hm hf hact hQ
    exact hQ ar w (.refl hm hact)
  | cons hk ht ih =>
    rename_i o os a a'' h h' h'' v kd es
    intro k hall ρ w ar hrd hm hf hact hQ
    have ho : all[k]? = some o := by simpa using (hall 0).symm
    have hc1 : o.op.operands.all operandOk = true := by
      unfold constsOk at hcon
      rw [Array.all_eq_true_iff_forall_mem] at hcon
      exact hcon o (Array.mem_of_getElem? ho)
    have g1 := hk.grow
    have g2 := ht.grow
    rw [List.length_cons, List.range'_succ, wpOpsIn_cons]
    have hf1 : Fresh ρ h.size h'.size := fun i a b => hf i a (by have := g2.size; omega)
    refine op_seq hk hc1 ho hrd hm hf1 hact ?_
    rintro ar' w' ⟨ρ', s, m, ra⟩
    refine ih (k + 1) (fun j => ?_) ρ' w' ar' (hrd.mono (s.le hf1)) m (fun i x y => by rw [s.ext i (.inr x)]; exact hf i (by have := g1.size; omega) y) ra ?_
    · have := hall (j + 1)
      simp only [List.getElem?_cons_succ] at this
      rw [this]; congr 1; omega
    · rintro ar'' w'' ⟨ρ'', s', m', ra'⟩
      exact hQ ar'' w'' ⟨ρ'', s.trans s', m', ra'⟩

/-- Entries that may not meet. -/
def NiE (e e' : Ent) : Prop :=
  match e.kind, e'.kind with
  | .heavy, .heavy => False
  | .heavy, .read id => e.post.get id = e.pre.get id
  | .read id, .heavy => e'.post.get id = e'.pre.get id
  | .alloc, .heavy => e'.post.get e.pre.size = e'.pre.get e.pre.size
  | _, _ => True
def NiL (ops : Array Oper) (es : List Ent) : Prop := ∀ (i j : Nat) (e e' : Ent), i < j → es[i]? = some e → es[j]? = some e' → bef ops i j = false → NiE e e'

theorem OpsRun.length {all : Array Oper} {os : List Oper} {a a' : Act} {h h' : IHeap} {es : List Ent} (r : OpsRun P rd all os a h es a' h') : es.length = os.length := by
  induction r with
  | nil => rfl
  | cons _ _ ih => simp [ih]
theorem OpsRun.fns {all : Array Oper} {os : List Oper} {a a' : Act} {h h' : IHeap} {es : List Ent} (r : OpsRun P rd all os a h es a' h') :
    ∃ (A : Nat → Act) (H : Nat → IHeap) (V : Nat → Value) (K : Nat → Kind), A 0 = a ∧ H 0 = h ∧ A os.length = a' ∧ H os.length = h' ∧ (∀ i o, os[i]? = some o → A (i + 1) = (A i).put o.dst (V i) ∧ KOk P rd all o (A i) (H i) (V i) (H (i + 1)) (K i)) ∧ ∀ i e, es[i]? = some e → e.kind = K i ∧ e.pre = H i ∧ e.post = H (i + 1) := by
  induction r with
  | nil =>
    rename_i a h
    exact ⟨fun _ => a, fun _ => h, fun _ => undef, fun _ => .skip, rfl, rfl, rfl, rfl, fun i o hi => by simp at hi, fun i e hi => by simp at hi⟩
  | cons hk ht ih =>
    rename_i o os a a'' h h' h'' v k es
    obtain ⟨A, H, V, K, e1, e2, e3, e4, h5, h6⟩ := ih
    refine ⟨fun i => match i with | 0 => a | i + 1 => A i, fun i => match i with | 0 => h | i + 1 => H i, fun i => match i with | 0 => v | i + 1 => V i, fun i => match i with | 0 => k | i + 1 => K i, rfl, rfl, e3, e4, ?_, ?_⟩
    · intro i o' hi
      cases i with
      | zero =>
        simp only [List.getElem?_cons_zero, Option.some.injEq] at hi
        subst hi
        exact ⟨e1, by dsimp only; rw [e2]; exact hk⟩
      | succ i => exact h5 i o' (by simpa using hi)
    · intro i e hi
      cases i with
      | zero =>
        simp only [List.getElem?_cons_zero, Option.some.injEq] at hi
        subst hi
        exact ⟨rfl, rfl, e2.symm⟩
      | succ i => exact h6 i e (by simpa using hi)

/-- What is asked of a region's text. -/
def regionOk (ops : Array Oper) : Bool := constsOk ops && backOk ops && tmpsOk ops

theorem IExec.region {id : Nat} {ops : Array Oper} {draw : Bool} {a a' : Act} {h h' : IHeap} {es : List Ent} (hm : P.follows .mixedOrders = true) (hok : regionOk ops = true) (r : OpsRun P rd ops ops.toList a h es a' h') (hni : draw = true → NiL ops es) :
    IExec P rd (.region id ops draw) a h .normal a' h' := by
  unfold regionOk at hok
  simp only [Bool.and_eq_true] at hok
  obtain ⟨⟨hcon, hb⟩, ht⟩ := hok
  refine ⟨r.grow, fun ρ w ar rr hrd hmod hf hact Q hQ => ?_⟩
  cases draw with
  | false =>
    refine wpIn_region ?_
    have := ops_seq (Q := Q) hcon r 0 (fun j => by simp) ρ w ar hrd hmod hf hact hQ
    rwa [Array.length_toList, ← List.range_eq_range'] at this
  | true =>
    obtain ⟨A, H, V, K, e1, e2, e3, e4, h5, h6⟩ := r.fns
    subst e1 e2
    have hlen : es.length = ops.size := by rw [r.length, Array.length_toList]
    rw [Array.length_toList] at e3 e4
    subst e3 e4
    refine region_any hm ⟨fun i o ho => (h5 i o (by simpa using ho)).1, fun i o ho => (h5 i o (by simpa using ho)).2, hcon⟩ hb ht ?_ hrd hmod hf hact hQ
    intro i j hij hj hbef
    have hi' : i < es.length := by omega
    have hj' : j < es.length := by omega
    have := hni rfl i j es[i] es[j] hij (by simp [hi']) (by simp [hj']) hbef
    obtain ⟨a1, a2, a3⟩ := h6 i es[i] (by simp [hi'])
    obtain ⟨b1, b2, b3⟩ := h6 j es[j] (by simp [hj'])
    unfold NiE at this
    unfold Ni
    rw [a1, a2, a3, b1, b2, b3] at this
    exact this
end
end Go.Proofs.Ytmobpbhbllhdcaa.Ideal
end
noncomputable section
namespace Go.Proofs.Ytmobpbhbllhdcaa.Ideal
set_option linter.unusedVariables false
set_option linter.unusedSimpArgs false
set_option linter.unnecessarySimpa false

section
variable {P : Program} {rd : Option Nat} {a a' a'' : Act} {h h' h'' : IHeap} {e : Exit}
theorem IExec.skip : IExec P rd .skip a h .normal a h := ⟨Grow.refl _, fun ρ w ar rr hrd hm hf hact Q hQ => wpIn_skip (hQ _ _ (.refl hm hact))⟩
theorem IExec.label {l : Nat} : IExec P rd (.label l) a h .normal a h := ⟨Grow.refl _, fun ρ w ar rr hrd hm hf hact Q hQ => wpIn_label (hQ _ _ (.refl hm hact))⟩
theorem IExec.exit {id : Nat} : IExec P rd (.exit id) a h (.exit id) a h := ⟨Grow.refl _, fun ρ w ar rr hrd hm hf hact Q hQ => wpIn_exit (hQ _ _ (.refl hm hact))⟩
theorem IExec.goto {l : Nat} : IExec P rd (.goto l) a h (.goto l) a h := ⟨Grow.refl _, fun ρ w ar rr hrd hm hf hact Q hQ => wpIn_goto (hQ _ _ (.refl hm hact))⟩
theorem IExec.ret : IExec P rd .ret a h .ret a h := ⟨Grow.refl _, fun ρ w ar rr hrd hm hf hact Q hQ => wpIn_ret (hQ _ _ (.refl hm hact))⟩
theorem Fresh.left {ρ : Rho} {x y z : Nat} (hf : Fresh ρ x z) (hyz : y ≤ z) : Fresh ρ x y := fun i a b => hf i a (by omega)
theorem Fresh.right {ρ ρ' : Rho} {w w' : World} (hf : Fresh ρ h.size h''.size) (s : Step ρ h w ρ' h' w') : Fresh ρ' h'.size h''.size := fun i x y => by rw [s.ext i (.inr x)]; exact hf i (by have := s.size; omega) y
theorem After.trans {ρ : Rho} {w w' w'' : World} {ar' ar'' : Act} (s : After ρ h w a' h' ar' w') (k : ∀ ρ', Step ρ h w ρ' h' w' → Models ρ' h' w' → ActRel ρ' a' ar' → After ρ' h' w' a'' h'' ar'' w'') : After ρ h w a'' h'' ar'' w'' := by
  obtain ⟨ρ', s1, m1, r1⟩ := s
  obtain ⟨ρ'', s2, m2, r2⟩ := k ρ' s1 m1 r1
  exact ⟨ρ'', s1.trans s2, m2, r2⟩
theorem IExec.seq {x y : Code} (h1 : IExec P rd x a h .normal a' h') (h2 : IExec P rd y a' h' e a'' h'') : IExec P rd (.seq x y) a h e a'' h'' := by
  refine ⟨h1.grow.trans h2.grow, fun ρ w ar rr hrd hm hf hact Q hQ => wpIn_seq (h1.run ρ w ar rr hrd hm (hf.left h2.grow.size) hact _ ?_)⟩
  rintro ar' w' ⟨ρ', s, m, r⟩
  refine h2.run ρ' w' ar' rr (hrd.mono (s.le (hf.left h2.grow.size))) m (hf.right s) r Q ?_
  rintro ar'' w'' ⟨ρ'', s', m', r'⟩
  exact hQ _ _ ⟨ρ'', s.trans s', m', r'⟩
theorem IExec.seq_out {x y : Code} (h1 : IExec P rd x a h e a' h') (he : e ≠ .normal) : IExec P rd (.seq x y) a h e a' h' := by
  refine ⟨h1.grow, fun ρ w ar rr hrd hm hf hact Q hQ => wpIn_seq (h1.run ρ w ar rr hrd hm hf hact _ (fun ar' w' hA => ?_))⟩
  cases e <;> first | exact absurd rfl he | exact hQ _ _ hA
theorem IExec.cond {c : Operand} {x y : Code} {t : Bool} (hc : a.eval c = .bool t) (ho : operandOk c = true) (h1 : IExec P rd (if t then x else y) a h e a' h') : IExec P rd (.cond c x y) a h e a' h' := by
  refine ⟨h1.grow, fun ρ w ar rr hrd hm hf hact Q hQ => ?_⟩
  have hr := operand_rel hact ho
  rw [hc] at hr
  exact wpIn_cond hr.bool_inv (h1.run ρ w ar rr hrd hm hf hact Q hQ)
/-- How a block is left. -/
def outOf (id : Nat) : Exit → Exit
  | .exit id' => if id' = id then .normal else .exit id'
  | e => e
theorem IExec.block {id : Nat} {c : Code} (h1 : IExec P rd c a h e a' h') : IExec P rd (.block id c) a h (outOf id e) a' h' := by
  refine ⟨h1.grow, fun ρ w ar rr hrd hm hf hact Q hQ => wpIn_block (h1.run ρ w ar rr hrd hm hf hact _ (fun ar' w' hA => ?_))⟩
  have := hQ ar' w' hA
  cases e with
  | exit id' =>
    by_cases hid : id' = id
    · simp only [outOf, if_pos hid] at this
      simp only [Exit.inBlock, if_pos hid]
      exact this
    · simp only [outOf, if_neg hid] at this
      simp only [Exit.inBlock, if_neg hid]
      exact this
  | _ => exact this

theorem stepR_scope {b : Frame} {a : Act} {k : List Item} {cs : List Frame} {w : World} {c : Code} : step P (lone (b.atR a (.code (.scope c) :: k)) cs w) = .next (lone (b.atR a (.code c :: .inScope c :: k)) cs w) :=
  step_lone_go (by simp [stepG, stepG.exec, Frame.atR])
theorem stepR_inScope {b : Frame} {a : Act} {k : List Item} {cs : List Frame} {w : World} {c : Code} : step P (lone (b.atR a (.inScope c :: k)) cs w) = .next (lone (b.atR a k) cs w) :=
  step_lone_go (by simp [stepG, stepG.exec, Frame.atR])
theorem wpIn_scope_straight {F : Fence} {n : Nat} {c : Code} {Q : Exit → Act → World → Prop} {a : Act} {w : World} (h : c.wpIn F n P Q a w) (hg : ∀ l a w, ¬ Q (.goto l) a w) : (Code.scope c).wpIn F n P Q a w := by
  intro b k cs hro hb hr
  have h0 : (lone (b.atR a (.code (.scope c) :: k)) cs w).fenced P F := fenced_calm hb hr rfl
  obtain ⟨e, a₁, w₁, hq, harr⟩ := h b (.inScope c :: k) cs hro hb hr
  cases e with
  | normal => exact ⟨.normal, a₁, w₁, hq, .head h0 stepR_scope (StepsIn.trans harr (.one (fenced_calm hb hr rfl) stepR_inScope))⟩
  | exit id =>
    have hx : exitTo id (.inScope c :: k) = exitTo id k := by simp [exitTo]
    exact ⟨_, a₁, w₁, hq, fun k' hk => .head h0 stepR_scope (harr.1 k' (by rw [hx]; exact hk)),
      fun hr' hk => let ⟨k₁, h1, h2⟩ := harr.2 hr' (by rw [hx]; exact hk); ⟨k₁, h1, .head h0 stepR_scope h2⟩⟩
  | goto l => exact (hg _ _ _ hq).elim
  | ret => exact ⟨_, a₁, w₁, hq, .of_steps (.one h0 stepR_scope) harr⟩
  | panic ch => exact ⟨_, a₁, w₁, hq, .of_steps (.one h0 stepR_scope) harr⟩
  | outgrown => exact ⟨_, a₁, w₁, hq, .of_steps (.one h0 stepR_scope) harr⟩
theorem IExec.scope {c : Code} (h1 : IExec P rd c a h e a' h') (he : ∀ l, e ≠ .goto l) : IExec P rd (.scope c) a h e a' h' := by
  refine ⟨h1.grow, fun ρ w ar rr hrd hm hf hact Q hQ => ?_⟩
  have h2 := h1.run ρ w ar rr hrd hm hf hact (fun x a1 w1 => Q x a1 w1 ∧ ∀ l, x ≠ .goto l) (fun ar' w' hA => ⟨hQ ar' w' hA, he⟩)
  have h3 := wpIn_scope_straight h2 (fun l a w hh => hh.2 l rfl)
  intro b k cs hro hb hr
  obtain ⟨x, a1, w1, hq, harr⟩ := h3 b k cs hro hb hr
  exact ⟨x, a1, w1, hq.1, harr⟩
/-- From the head of a loop on. -/
def LoopFrom (F : Fence) (P : Program) (c : Code) (Q : Exit → Act → World → Prop) (a : Act) (w : World) : Prop :=
  ∀ (b : Frame) (k : List Item) (cs : List Frame), b.roundOf = F.round → F.fn b.fn → F.room (cs.length + 1 + 0) →
    ∃ e a' w', Q e a' w' ∧ ArrivesIn (Machine.fenced P F) P (lone (b.atR a (.code c :: .inLoop c :: k)) cs w) b k cs e a' w'
theorem loopFrom_wp {F : Fence} {c : Code} {Q : Exit → Act → World → Prop} {w : World} (h : LoopFrom F P c Q a w) : (Code.loop c).wpIn F 0 P Q a w := fun b k cs hro hb hr => by
  obtain ⟨e, a', w', hq, harr⟩ := h b k cs hro hb hr
  exact ⟨e, a', w', hq, .of_steps (.one (fenced_calm hb hr rfl) stepR_loop) harr⟩
theorem loopFrom_of {F : Fence} {c : Code} {Q : Exit → Act → World → Prop} {w : World} (h : c.wpIn F 0 P (Exit.then (LoopFrom F P c Q) Q) a w) : LoopFrom F P c Q a w := fun b k cs hro hb hr => by
  obtain ⟨e, a₁, w₁, hq, harr⟩ := h b (.inLoop c :: k) cs hro hb hr
  cases e with
  | normal =>
    obtain ⟨e₂, a₂, w₂, hq₂, harr₂⟩ := hq b k cs hro hb hr
    exact ⟨e₂, a₂, w₂, hq₂, .of_steps (StepsIn.trans harr (.one (fenced_calm hb hr rfl) stepR_inLoop)) harr₂⟩
  | exit id => exact ⟨_, a₁, w₁, hq, .pass (x := .inLoop c) rfl (fun _ _ => .inl (by simp)) harr⟩
  | goto l => exact ⟨_, a₁, w₁, hq, .pass (x := .inLoop c) rfl (fun _ _ => .inl (by simp)) harr⟩
  | ret => exact ⟨_, a₁, w₁, hq, .pass (x := .inLoop c) rfl (fun _ _ => .inl (by simp)) harr⟩
  | panic ch => exact ⟨_, a₁, w₁, hq, .pass (x := .inLoop c) rfl (fun _ _ => .inl (by simp)) harr⟩
  | outgrown => exact ⟨_, a₁, w₁, hq, .pass (x := .inLoop c) rfl (fun _ _ => .inl (by simp)) harr⟩
/-- A loop's run from its head. -/
structure ILoop (P : Program) (rd : Option Nat) (c : Code) (a : Act) (h : IHeap) (e : Exit) (a' : Act) (h' : IHeap) : Prop where
  grow : Grow h h'
  run : ∀ (ρ : Rho) (w : World) (ar : Act) (rr : Option Nat), RdRel ρ rd rr → Models ρ h w → Fresh ρ h.size h'.size → ActRel ρ a ar → ∀ Q : Exit → Act → World → Prop, (∀ ar' w', After ρ h w a' h' ar' w' → Q e ar' w') → LoopFrom (fen rr) P c Q ar w
theorem ILoop.stop {c : Code} (h1 : IExec P rd c a h e a' h') (he : e ≠ .normal) : ILoop P rd c a h e a' h' := by
  refine ⟨h1.grow, fun ρ w ar rr hrd hm hf hact Q hQ => loopFrom_of (h1.run ρ w ar rr hrd hm hf hact _ (fun ar' w' hA => ?_))⟩
  cases e <;> first | exact absurd rfl he | exact hQ _ _ hA
theorem ILoop.more {c : Code} (h1 : IExec P rd c a h .normal a' h') (h2 : ILoop P rd c a' h' e a'' h'') : ILoop P rd c a h e a'' h'' := by
  refine ⟨h1.grow.trans h2.grow, fun ρ w ar rr hrd hm hf hact Q hQ => loopFrom_of (h1.run ρ w ar rr hrd hm (hf.left h2.grow.size) hact _ ?_)⟩
  rintro ar' w' ⟨ρ', s, m, r⟩
  refine h2.run ρ' w' ar' rr (hrd.mono (s.le (hf.left h2.grow.size))) m (hf.right s) r Q ?_
  rintro ar'' w'' ⟨ρ'', s', m', r'⟩
  exact hQ _ _ ⟨ρ'', s.trans s', m', r'⟩
theorem IExec.loop {c : Code} (h1 : ILoop P rd c a h e a' h') : IExec P rd (.loop c) a h e a' h' :=
  ⟨h1.grow, fun ρ w ar rr hrd hm hf hact Q hQ => loopFrom_wp (h1.run ρ w ar rr hrd hm hf hact Q hQ)⟩
end

/-- A function's call. -/
structure ICall (P : Program) (f : FuncId) (args : Array Value) (h : IHeap) (v : Value) (h' : IHeap) : Prop where
  grow : Grow h h'
  run : ∀ (ρ : Rho) (w : World) (args' : Array Value), ARel ρ args args' → Models ρ h w → Fresh ρ h.size h'.size → Calls P f args' w (fun e w' => ∃ ρ' v', e = .returned v' ∧ Step ρ h w ρ' h' w' ∧ Models ρ' h' w' ∧ VRel ρ' v v')

def startAct (fn : Func) (args : Array Value) : Act := { tmps := args ++ Array.replicate (fn.ntmps - args.size) undef, defers := [] }
theorem start_rel {ρ : Rho} {fn : Func} {args args' : Array Value} (h : ARel ρ args args') : ActRel ρ (startAct fn args) (startAct fn args') := by
  refine ⟨by simp [startAct, h.1], fun t => ?_, [], rfl, [], rfl, fun k b hk => by simp at hk, rfl⟩
  simp only [startAct, Array.getD_eq_getD_getElem?]
  by_cases ht : t < args.size
  · rw [Array.getElem?_append_left ht, Array.getElem?_append_left (by rw [← h.1]; exact ht)]
    have := h.2 t ht
    simpa [Array.getD_eq_getD_getElem?] using this
  · rw [Array.getElem?_append_right (Nat.le_of_not_lt ht), Array.getElem?_append_right (by rw [← h.1]; exact Nat.le_of_not_lt ht), h.1]
    have hz : ∀ n k : Nat, ((Array.replicate n undef)[k]?).getD undef = undef := by
      intro n k
      by_cases hk : k < n
      · simp [hk]
      · simp [hk]
    rw [hz]
    exact VRel.undef_rel

/-- A result. -/
def ires1 (P : Program) (h : IHeap) (tmps : Array Value) : ResultVar → Option Value
  | .tmp t => some (tmps.getD t undef)
  | .cell p t => match tmps.getD p undef with
    | .pointer (some ⟨i, q, none⟩) => (match h.get i with
      | some (.row _ _ cs) => loadOf P t cs q
      | _ => none)
    | _ => none
def iresults (P : Program) (h : IHeap) (rs : Array ResultVar) (tmps : Array Value) : Option Value :=
  match rs.toList.mapM (ires1 P h tmps) with
  | some [v] => some v
  | some vs => some (.tuple vs.toArray)
  | none => none
/-- The loops' marks are taken up at the end. -/
def closeMarks : List Nat → IHeap → Option IHeap
  | [], h => some h
  | b :: bs, h => match h.get b with
    | some .defs => closeMarks bs (h.set b .dead)
    | _ => none

theorem load_run {P : Program} {ρ : Rho} {h : IHeap} {w : World} {t : TypeId} {i q : Nat} {ro : Bool} {esz : Nat} {cs : List Value} {v : Value} {R : Ren} (hm : Models ρ h w) (hR : ρ i = some R) (hg : h.get i = some (.row ro esz cs)) (hv : loadOf P t cs q = some v) :
    ∃ v', (loadVar t ⟨R.block, R.off + q, none⟩).run P w = .ok v' w ∧ VRel ρ v v' := by
  obtain ⟨ob, hb, hor⟩ := hm.obj i R _ hg hR
  unfold loadOf at hv
  split at hv
  · rename_i n h1 h2
    obtain ⟨vs, hs, rfl⟩ := Option.map_eq_some_iff.mp hv
    obtain ⟨vs', k1, k2, _⟩ := slots_run (P := P) hb hor hs
    refine ⟨.agg vs'.toArray, ?_, .agg (ARel.of_list k2).1 (ARel.of_list k2).2⟩
    simp [Sem.run_bind, loadVar, run_isAggB h1, run_size h2, k1]
  · rename_i n h1 h2
    obtain ⟨c, e', fr, rfl, _, _, hr, hz, hc⟩ := hor.cells
    obtain ⟨v', k1, k2⟩ := hc q v hv
    refine ⟨v', ?_, k2⟩
    have hcell := cell_of hb (R.off + q)
    rw [k1] at hcell
    simp [Sem.run_bind, loadVar, run_isAggB h1, load, Sem.run, hcell]
  · cases hv
theorem run_mapM {α β : Type} {P : Program} (f : α → Sem β) (w : World) : ∀ (l : List α) (vs : List β), (∀ (k : Nat) (x : α), l[k]? = some x → ∃ y, vs[k]? = some y ∧ (f x).run P w = .ok y w) → l.length = vs.length → (l.mapM f).run P w = .ok vs w
  | [], vs, _, hl => by
    have : vs = [] := List.eq_nil_of_length_eq_zero hl.symm
    subst this; simp
  | x :: l, vs, h, hl => by
    cases vs with
    | nil => simp at hl
    | cons y vs =>
      obtain ⟨y', h1, h2⟩ := h 0 x rfl
      simp at h1
      subst h1
      have ih := run_mapM f w l vs (fun k x hk => by simpa using h (k + 1) x (by simpa using hk)) (by simpa using hl)
      simp [List.mapM_cons, Sem.run_bind, h2, ih]
theorem mapM_get {α β : Type} (f : α → Option β) : ∀ (l : List α) (vs : List β), l.mapM f = some vs → l.length = vs.length ∧ ∀ (k : Nat) (x : α), l[k]? = some x → ∃ y, vs[k]? = some y ∧ f x = some y
  | [], vs, h => by simp at h; subst h; exact ⟨rfl, fun k x hk => by simp at hk⟩
  | x :: l, vs, h => by
    rw [List.mapM_cons] at h
    obtain ⟨y, h1, h2⟩ := Option.bind_eq_some_iff.mp h
    obtain ⟨ys, h3, h4⟩ := Option.bind_eq_some_iff.mp h2
    cases h4
    obtain ⟨i1, i2⟩ := mapM_get f l ys h3
    refine ⟨by simp [i1], fun k z hk => ?_⟩
    cases k with
    | zero => simp at hk; subst hk; exact ⟨y, rfl, h1⟩
    | succ k => simpa using i2 k z (by simpa using hk)
theorem results_run {P : Program} {ρ : Rho} {h : IHeap} {w : World} {a ar : Act} {fn : Func} {v : Value} (hm : Models ρ h w) (hact : ActRel ρ a ar) (hr : iresults P h fn.results a.tmps = some v) : ∃ v', (results fn ar.tmps).run P w = .ok v' w ∧ VRel ρ v v' := by
  have one : ∀ r u, ires1 P h a.tmps r = some u → ∃ u', ((match r with | .tmp t => pure (ar.tmps.getD t undef) | .cell p t => (do loadVar t (← asAddr (ar.tmps.getD p undef)))) : Sem Value).run P w = .ok u' w ∧ VRel ρ u u' := by
    intro r u hu
    unfold ires1 at hu
    split at hu
    · cases hu
      exact ⟨_, rfl, hact.tmp _⟩
    · rename_i p t
      split at hu
      · rename_i i q hp
        split at hu
        · rename_i ro esz cs hg
          have h1 := hact.tmp p
          rw [hp] at h1
          obtain ⟨R, hR, e⟩ := h1.ptr_inv
          obtain ⟨v', k1, k2⟩ := load_run (P := P) hm hR hg hu
          refine ⟨v', ?_, k2⟩
          simp [Sem.run_bind, e, asAddr, k1]
        · cases hu
      · cases hu
  have key : ∀ us, fn.results.toList.mapM (ires1 P h a.tmps) = some us → ∃ us', LRel ρ us us' ∧ (results fn ar.tmps).run P w = .ok (if h : us'.toArray.size = 1 then us'.toArray[0] else .tuple us'.toArray) w := by
    intro us hus
    obtain ⟨h1, h2⟩ := mapM_get _ _ _ hus
    have hch : ∃ us' : List Value, us'.length = us.length ∧ ∀ (k : Nat) (r : ResultVar), fn.results.toList[k]? = some r → ∃ u u', us[k]? = some u ∧ us'[k]? = some u' ∧ ((match r with | .tmp t => pure (ar.tmps.getD t undef) | .cell p t => (do loadVar t (← asAddr (ar.tmps.getD p undef)))) : Sem Value).run P w = .ok u' w ∧ VRel ρ u u' := by
      clear hus
      generalize fn.results.toList = rs at h1 h2
      induction rs generalizing us with
      | nil => exact ⟨[], by simpa using h1, fun k r hk => by simp at hk⟩
      | cons r rs ih =>
        cases us with
        | nil => simp at h1
        | cons u us =>
          obtain ⟨y, e1, e2⟩ := h2 0 r rfl
          simp at e1
          subst e1
          obtain ⟨u', k1, k2⟩ := one r _ e2
          obtain ⟨us', l1, l2⟩ := ih us (by simpa using h1) (fun k x hk => by simpa using h2 (k + 1) x (by simpa using hk))
          refine ⟨u' :: us', by simp [l1], fun k x hk => ?_⟩
          cases k with
          | zero => simp at hk; subst hk; exact ⟨_, u', rfl, rfl, k1, k2⟩
          | succ k => simpa using l2 k x (by simpa using hk)
    obtain ⟨us', l1, l2⟩ := hch
    refine ⟨us', ⟨l1.symm, fun k u hu => ?_⟩, ?_⟩
    · have hk : k < fn.results.toList.length := by rw [h1]; exact (List.getElem?_eq_some_iff.1 hu).1
      obtain ⟨u0, u', m1, m2, _, m4⟩ := l2 k fn.results.toList[k] (by simp)
      rw [hu] at m1; cases m1
      exact ⟨u', m2, m4⟩
    · unfold results
      rw [Array.mapM_eq_mapM_toList]
      simp only [Sem.run_bind, map_eq_pure_bind]
      rw [run_mapM _ w fn.results.toList us' (fun k r hk => ?_) (by rw [h1, l1])]
      · rfl
      · obtain ⟨u, u', _, m2, m3, _⟩ := l2 k r hk
        exact ⟨u', m2, m3⟩
  unfold iresults at hr
  split at hr
  · rename_i u hu
    cases hr
    obtain ⟨us', h1, h2⟩ := key _ hu
    have hl := h1.1
    cases us' with
    | nil => simp at hl
    | cons u' us' =>
      cases us' with
      | cons _ _ => simp at hl
      | nil =>
        obtain ⟨y, e1, e2⟩ := h1.2 0 _ rfl
        simp at e1
        subst e1
        exact ⟨_, h2, e2⟩
  · rename_i us hne hu
    cases hr
    obtain ⟨us', h1, h2⟩ := key _ hu
    have hl := h1.1
    have hn1 : ¬ (us'.toArray.size = 1) := by
      intro h
      have hl1 : us.length = 1 := by rw [hl]; simpa using h
      match us, hl1 with
      | [x], _ => exact hne x rfl
    rw [dif_neg hn1] at h2
    exact ⟨_, h2, .tup (ARel.of_list h1).1 (ARel.of_list h1).2⟩
  · cases hr
end Go.Proofs.Ytmobpbhbllhdcaa.Ideal
end
noncomputable section
namespace Go.Proofs.Ytmobpbhbllhdcaa.Ideal
set_option linter.unusedVariables false
set_option linter.unusedSimpArgs false
set_option linter.unnecessarySimpa false

def markOf (b : Nat) : Deferred := { target := .collected b, args := #[] }
/-- The marks, taken up one by one. -/
theorem marks_run {P : Program} {fn : Func} {tmps : Array Value} {R : Ending → World → Prop} : ∀ (bs : List Nat) (rs : List Ren) (h h' : IHeap) (ρ : Rho) (w : World), closeMarks bs h = some h' → rs.length = bs.length → (∀ (k b : Nat), bs[k]? = some b → ∃ R, rs[k]? = some R ∧ ρ b = some R) → Models ρ h w →
    (∀ w', Step ρ h w ρ h' w' → Models ρ h' w' → LeavesInM Fence.wide 0 P fn tmps R [] .returning w') → LeavesInM Fence.wide 0 P fn tmps R (rs.map fun R => { target := .collected R.block, args := #[] }) .returning w
  | [], rs, h, h', ρ, w, hc, hl, _, hm, hK => by
    have : rs = [] := List.eq_nil_of_length_eq_zero hl
    subst this
    simp only [closeMarks, Option.some.injEq] at hc
    subst hc
    exact hK w (Step.refl _ _ _) hm
  | b :: bs, rs, h, h', ρ, w, hc, hl, hr, hm, hK => by
    cases rs with
    | nil => simp at hl
    | cons R0 rs =>
      obtain ⟨R1, e1, hR⟩ := hr 0 b rfl
      simp at e1
      subst e1
      unfold closeMarks at hc
      split at hc
      · rename_i hg
        obtain ⟨ob, hb, hor⟩ := hm.obj b R0 _ hg hR
        cases hor
        have hlt := hm.lt b R0 hR
        have hrun : (Instr.takeDeferred R0.block).run P w = .ok [] { w with heap := w.heap.setIfInBounds R0.block (.deferred none) } := by
          simp [Instr.takeDeferred, Sem.run_bind, getObj, setObj, Sem.run, hb]
        have hother : ∀ b', b' ≠ R0.block → (w.heap.setIfInBounds R0.block (.deferred none))[b']? = w.heap[b']? := fun b' hb' => by
          rw [Array.getElem?_setIfInBounds, if_neg (fun e => hb' e.symm)]
        obtain ⟨s, m⟩ := hm.write (o' := .dead) (w' := { w with heap := w.heap.setIfInBounds R0.block (.deferred none) }) hg rfl (by simp) hR (by simp) rfl rfl rfl (ob := .deferred none) (by simp [Array.getElem?_setIfInBounds, hlt]) .dead hother
        refine ⟨by simp, .inl ⟨R0.block, _, rfl, hrun, ?_⟩⟩
        refine marks_run bs rs _ h' ρ _ hc (by simpa using hl) (fun k x hk => by simpa using hr (k + 1) x (by simpa using hk)) m ?_
        intro w' s' m'
        exact hK w' (s.trans s') m'
      · cases hc

theorem ICall.of_body {P : Program} {f : FuncId} {fn : Func} {c : Code} {args : Array Value} {h h1 h2 : IHeap} {a1 : Act} {e : Exit} {bs : List Nat} {v : Value} (hf : P.funcs[f]? = some fn) (hb : fn.body = some c) (hx : IExec P none c (startAct fn args) h e a1 h1) (he : e = .normal ∨ e = .ret)
    (hd : a1.defers = bs.map markOf) (hcl : closeMarks bs h1 = some h2) (hg : Grow h1 h2) (hsz : h2.size = h1.size) (hr : iresults P h2 fn.results a1.tmps = some v) : ICall P f args h v h2 := by
  refine ⟨hx.grow.trans hg, fun ρ w args' hargs hm hfr => (callsIn_wide (n := 0)).1 (callsIn_of_wp_marks hf hb trivial ?_)⟩
  refine hx.run ρ w (startAct fn args') none trivial hm (by rw [← hsz]; exact hfr) (start_rel hargs) _ ?_
  rintro ar' w' ⟨ρ', s, m, r⟩
  have key : LeavesInM Fence.wide 0 P fn ar'.tmps (fun e w' => ∃ ρ' v', e = .returned v' ∧ Step ρ h w ρ' h2 w' ∧ Models ρ' h2 w' ∧ VRel ρ' v v') ar'.defers .returning w' := by
    obtain ⟨bs', e1, rs, e2, e3, e4⟩ := r.dfr
    have hbs : bs' = bs := by
      rw [hd] at e1
      have hinj : ∀ (l l' : List Nat), l.map markOf = l'.map (fun b => ({ target := .collected b, args := #[] } : Deferred)) → l = l' := by
        intro l
        induction l with
        | nil => intro l' h; cases l' with
          | nil => rfl
          | cons x l' => simp at h
        | cons x l ih => intro l' h; cases l' with
          | nil => simp at h
          | cons y l' =>
            simp only [List.map_cons, List.cons.injEq, markOf, Deferred.mk.injEq, Target.collected.injEq, and_true] at h
            rw [h.1, ih l' h.2]
      exact (hinj bs bs' e1).symm
    subst hbs
    rw [e4]
    refine marks_run bs' rs h1 h2 ρ' w' hcl e2 e3 m ?_
    intro w'' s' m'
    obtain ⟨v', k1, k2⟩ := results_run (P := P) m' r hr
    exact ⟨v', k1, ρ', v', rfl, s.trans s', m', k2⟩
  rcases he with rfl | rfl
  · exact key
  · exact key

section
variable {P : Program} {rd : Option Nat} {o : Oper} {a : Act} {h h' : IHeap} {v : Value}
theorem calls_fen {rr : Option Nat} {f : FuncId} {args : Array Value} {w : World} {R : Ending → World → Prop} (hc : Calls P f args w R) : CallsIn (fen rr) (0 - 1) P f args w R := by
  cases rr with
  | none => exact callsIn_wide.2 hc
  | some l => exact (callsIn_wide (n := 0 - 1)).2 hc
/-- A call. -/
theorem HOp.call {c : Call} {f : Operand} {g : FuncId} {fs cs : Array Value} {fn : Func} (ho : o.op = .call c) (hcal : c.callee = .value f) (hf : a.eval f = .func (.func g) fs cs) (hfn : P.funcs[g]? = some fn) (hname : (fn.name == "runtime.NumGoroutine") = false) (hbody : fn.body.isSome = true)
    (hcall : ICall P g (fs ++ c.args.map a.eval ++ cs) h v h') : HOp P rd o a h v h' := by
  intro ρ w ar rr hrd hm hfr hrel K Q hK
  have gf := hrel f (by simp [ho, Op.operands, Call.operands, hcal])
  rw [hf] at gf
  obtain ⟨fs', cs', e, z1, z2, z3, z4⟩ := gf.fn_inv
  have hargs : ARel ρ (fs ++ c.args.map a.eval ++ cs) (fs' ++ c.args.map ar.eval ++ cs') := by
    have happ : ∀ {x x' y y' : Array Value}, ARel ρ x x' → ARel ρ y y' → ARel ρ (x ++ y) (x' ++ y') := by
      intro x x' y y' hx hy
      have := (LRel.of_arr hx).append (LRel.of_arr hy)
      have := ARel.of_list this
      rwa [show (x.toList ++ y.toList).toArray = x ++ y from Array.ext' (by simp), show (x'.toList ++ y'.toList).toArray = x' ++ y' from Array.ext' (by simp)] at this
    refine happ (happ ⟨z1, z2⟩ (.of (by simp) (fun i u hu => ?_))) ⟨z3, z4⟩
    rw [Array.getElem?_map] at hu ⊢
    obtain ⟨x, k1, rfl⟩ := Option.map_eq_some_iff.mp hu
    exact ⟨_, by rw [k1]; rfl, hrel x (by simp [ho, Op.operands, Call.operands]; exact .inr (Array.mem_of_getElem? k1))⟩
  have hnb : fn.body.isNone = false := by cases hb : fn.body <;> simp_all
  have hrun : (execOp ar.eval o).run P w = .ok (.enter g (fs' ++ c.args.map ar.eval ++ cs')) w := by
    simp only [execOp, ho, resolve, hcal, e, Deferred.ofValue, Sem.run_bind, Sem.run_pure, Result.andThen_ok, invoke, callFunc, program, Sem.run, hfn, hname, hnb, if_false, Bool.false_eq_true]
  refine ⟨fun f _ => fen_fn rr f, ?_⟩
  rw [Oper.semAt_eq _ _ _ (fun c' hc' => by rw [ho] at hc'; cases hc'), hrun]
  refine ⟨(fun hd => by rw [fen_depth] at hd; cases hd), calls_fen ((hcall.run ρ w _ hargs hm hfr).mono ?_)⟩
  rintro e w' ⟨ρ', v', rfl, s, m, hv⟩
  exact hK v' ρ' w' s m hv

/-- What a round's way out leaves pending. -/
def Jump : Exit → Option Code → Prop
  | .normal, j => j = none
  | .ret, j => j = some .ret
  | .exit id, j => j = some (.exit id)
  | .goto t, j => j = some (.goto t)
  | _, _ => False
/-- A round of the loop l, called with args. -/
structure IRound (P : Program) (l : Nat) (args : Array Value) (h : IHeap) (v : Value) (h' : IHeap) : Prop where
  grow : Grow h h'
  ex : ∃ (L : Loop) (a1 : Act) (h1 : IHeap) (L1 : Loop) (e : Exit) (a2 : Act) (h2 : IHeap) (L2 : Loop) (j : Option Code), h.get l = some (.loop L) ∧ args.size = L.params.size ∧
    IExec P (some l) L.assign { tmps := (L.params.zip args).foldl (fun tmps (t, x) => tmps.setIfInBounds t x) L.tmps, defers := [] } h .normal a1 h1 ∧
    h1.get l = some (.loop L1) ∧ L1.state = .ready ∧ IExec P (some l) L.body a1 (h1.set l (.loop { L1 with state := .busy })) e a2 h2 ∧ h2.get l = some (.loop L2) ∧
    Jump e j ∧
    h' = h2.set l (.loop { L2 with state := if j.isNone then .ready else .done, pending := j }) ∧ v = .bool j.isNone

theorem loop_get {ρ : Rho} {w : World} {l : Nat} {L : Loop} {R : Ren} (hm : Models ρ h w) (hg : h.get l = some (.loop L)) (hR : ρ l = some R) : ∃ L', w.heap[R.block]? = some (.loop L') ∧ LoopRel ρ L L' := by
  obtain ⟨ob, hb, hor⟩ := hm.obj l R _ hg hR
  cases hor with
  | loop hl => exact ⟨_, hb, hl⟩
/-- The loop's record is set. -/
theorem loop_set {ρ : Rho} {w : World} {l : Nat} {L M M' : Loop} {R : Ren} (hm : Models ρ h w) (hg : h.get l = some (.loop L)) (hR : ρ l = some R) (hM : LoopRel ρ M M') :
    Step ρ h w ρ (h.set l (.loop M)) { w with heap := w.heap.setIfInBounds R.block (.loop M') } ∧ Models ρ (h.set l (.loop M)) { w with heap := w.heap.setIfInBounds R.block (.loop M') } := by
  have hlt := hm.lt l R hR
  refine hm.write (w' := { w with heap := w.heap.setIfInBounds R.block (.loop M') }) hg rfl (by simp) hR (by simp) rfl rfl rfl (ob := .loop M') (by simp [Array.getElem?_setIfInBounds, hlt]) (.loop hM) (fun b' hb' => ?_)
  show (w.heap.setIfInBounds R.block (.loop M'))[b']? = _
  rw [Array.getElem?_setIfInBounds, if_neg (fun e => hb' e.symm)]
theorem run_getLoop {w : World} {b : Nat} {L : Loop} (hb : w.heap[b]? = some (.loop L)) : (Instr.getLoop b).run P w = .ok L w := by
  simp [Instr.getLoop, Sem.run_bind, getObj, Sem.run, hb]
theorem run_setLoop {w : World} {b : Nat} {L M : Loop} (hb : w.heap[b]? = some (.loop L)) : (setObj b (.loop M)).run P w = .ok () { w with heap := w.heap.setIfInBounds b (.loop M) } := by
  simp [setObj, Sem.run, hb]

theorem fold_rel {ρ : Rho} : ∀ (l : List (Tmp × Value)) (l' : List (Tmp × Value)) (A A' : Array Value), PRel ρ l l' → (A.size = A'.size ∧ ∀ i, VRel ρ (A.getD i undef) (A'.getD i undef)) →
    ((l.foldl (fun tmps (t, x) => tmps.setIfInBounds t x) A).size = (l'.foldl (fun tmps (t, x) => tmps.setIfInBounds t x) A').size ∧ ∀ i, VRel ρ ((l.foldl (fun tmps (t, x) => tmps.setIfInBounds t x) A).getD i undef) ((l'.foldl (fun tmps (t, x) => tmps.setIfInBounds t x) A').getD i undef)) := by
  intro l l' A A' h
  induction h generalizing A A' with
  | nil => exact fun h => h
  | cons hv _ ih =>
    rename_i t v v' l l' _
    intro hA
    simp only [List.foldl_cons]
    refine ih _ _ ⟨by simp [hA.1], fun i => ?_⟩
    have h1 := put_get ⟨A, []⟩ (some t) v i
    have h2 := put_get ⟨A', []⟩ (some t) v' i
    simp only [Act.put] at h1 h2
    rw [h1, h2]
    by_cases e : some t = some i ∧ i < A.size
    · rw [if_pos e, if_pos ⟨e.1, by rw [← hA.1]; exact e.2⟩]; exact hv
    · rw [if_neg e, if_neg (fun x => e ⟨x.1, by rw [hA.1]; exact x.2⟩)]; exact hA.2 i
theorem zip_rel {ρ : Rho} : ∀ (ps : List Tmp) (xs xs' : List Value), LRel ρ xs xs' → PRel ρ (ps.zip xs) (ps.zip xs')
  | [], _, _, _ => .nil
  | p :: ps, [], xs', h => by
    have : xs' = [] := List.eq_nil_of_length_eq_zero h.1.symm
    subst this; exact .nil
  | p :: ps, x :: xs, xs', h => by
    cases xs' with
    | nil => exact absurd h.1 (by simp)
    | cons x' xs' =>
      obtain ⟨y, h1, h2⟩ := h.2 0 x rfl
      simp at h1
      subst h1
      exact .cons h2 (zip_rel ps xs xs' ⟨by simpa using h.1, fun i v hv => by simpa using h.2 (i + 1) v (by simpa using hv)⟩)

/-- yield is called. -/
theorem HOp.yield {c : Call} {f : Operand} {l : Nat} (ho : o.op = .call c) (hcal : c.callee = .value f) (hf : a.eval f = .func (.yield l) #[] #[]) (hcall : IRound P l (c.args.map a.eval) h v h') : HOp P rd o a h v h' := by
  intro ρ w ar rr hrd hm hfr hrel K Q hK
  have gf := hrel f (by simp [ho, Op.operands, Call.operands, hcal])
  rw [hf] at gf
  obtain ⟨R, hR, e⟩ := gf.yld_inv
  obtain ⟨L, a1, h1, L1, ex, a2, h2, L2, j, q1, q2, q3, q4, q5, q6, q7, q8, rfl, rfl⟩ := hcall.ex
  obtain ⟨L', hb, hl⟩ := loop_get hm q1 hR
  have hargs : ARel ρ (c.args.map a.eval) (c.args.map ar.eval) := by
    refine .of (by simp) (fun i u hu => ?_)
    rw [Array.getElem?_map] at hu ⊢
    obtain ⟨x, k1, rfl⟩ := Option.map_eq_some_iff.mp hu
    exact ⟨_, by rw [k1]; rfl, hrel x (by simp [ho, Op.operands, Call.operands]; exact .inr (Array.mem_of_getElem? k1))⟩
  have hsz : (c.args.map ar.eval).size = L'.params.size := by rw [← hl.params, ← q2]; simp
  have hrun : (execOp ar.eval o).run P w = .ok (.round R.block L'.fn ((L'.params.zip (c.args.map ar.eval)).foldl (fun tmps (t, x) => tmps.setIfInBounds t x) L'.tmps) L'.assign L'.body) w := by
    have hne : ¬ ((c.args.map ar.eval).size ≠ L'.params.size) := fun h => h hsz
    simp only [execOp, ho, resolve, hcal, e, Deferred.ofValue, Sem.run_bind, Sem.run_pure, Result.andThen_ok, invoke, Instr.yield, run_getLoop hb, if_neg hne, Array.empty_append]
  refine ⟨fun f _ => fen_fn rr f, ?_⟩
  rw [Oper.semAt_eq _ _ _ (fun c' hc' => by rw [ho] at hc'; cases hc'), hrun]
  refine ⟨(fun hd => by rw [fen_depth] at hd; cases hd), ?_⟩
  have g1 := q3.grow
  have g2 := q6.grow
  have hs2 : (h1.set l (.loop { L1 with state := .busy })).size = h1.size := rfl
  refine roundIn_of_wpIn (fen_fn rr _) ?_
  have hF : (fen rr).inRound R.block = fen (some R.block) := by cases rr <;> rfl
  rw [hF]
  have hact0 : ActRel ρ { tmps := (L.params.zip (c.args.map a.eval)).foldl (fun tmps (t, x) => tmps.setIfInBounds t x) L.tmps, defers := [] } { tmps := (L'.params.zip (c.args.map ar.eval)).foldl (fun tmps (t, x) => tmps.setIfInBounds t x) L'.tmps, defers := [] } := by
    have := fold_rel (ρ := ρ) _ _ L.tmps L'.tmps (zip_rel L.params.toList _ _ (.of_arr hargs)) hl.tmps
    rw [← hl.params]
    refine ⟨?_, fun t => ?_, [], rfl, [], rfl, fun k b hk => by simp at hk, rfl⟩
    · rw [← Array.foldl_toList, ← Array.foldl_toList, Array.toList_zip, Array.toList_zip]
      exact this.1
    · rw [← Array.foldl_toList, ← Array.foldl_toList, Array.toList_zip, Array.toList_zip]
      exact this.2 t
  have hfs : h1.size ≤ h2.size := by have := g2.size; rw [hs2] at this; exact this
  rw [← hl.assign, ← hl.body]
  refine q3.run ρ w _ (some R.block) ⟨R, hR, rfl⟩ hm (hfr.left hfs) hact0 _ ?_
  rintro ar1 w1 ⟨ρ1, s1, m1, r1⟩
  have hR1 := s1.le (hfr.left hfs) l R hR
  obtain ⟨L1', hb1, hl1⟩ := loop_get m1 q4 hR1
  have hst : L1'.state = .ready := by rw [← hl1.state]; exact q5
  have hM : LoopRel ρ1 { L1 with state := .busy } { L1' with state := .busy } := ⟨rfl, hl1.pending, hl1.params, hl1.assign, hl1.body, hl1.tmps, hl1.defers⟩
  obtain ⟨s2, m2⟩ := loop_set m1 q4 hR1 hM
  show ∃ w₂, (Instr.beginRound R.block).run P w1 = .ok () w₂ ∧ _
  refine ⟨{ w1 with heap := w1.heap.setIfInBounds R.block (.loop { L1' with state := .busy }) }, ?_, ?_⟩
  · simp only [Instr.beginRound, Sem.run_bind, run_getLoop hb1, Result.andThen_ok, run_setLoop hb1, hst]
    rfl
  · have hfr2 : Fresh ρ1 (h1.set l (.loop { L1 with state := .busy })).size h2.size := by
      have := Fresh.right (h'' := h2) hfr s1
      exact this
    refine q6.run ρ1 _ ar1 (some R.block) ⟨R, hR1, rfl⟩ m2 hfr2 r1 _ ?_
    rintro ar2 w2 ⟨ρ2, s3, m3, r3⟩
    have hR2 := s3.le hfr2 l R hR1
    obtain ⟨L2', hb2, hl2⟩ := loop_get m3 q7 hR2
    have hM2 : LoopRel ρ2 { L2 with state := if j.isNone then .ready else .done, pending := j } { L2' with state := if j.isNone then .ready else .done, pending := j } := ⟨rfl, rfl, hl2.params, hl2.assign, hl2.body, hl2.tmps, hl2.defers⟩
    obtain ⟨s4, m4⟩ := loop_set m3 q7 hR2 hM2
    have hend : (Instr.endRound R.block j).run P w2 = .ok (.bool j.isNone) { w2 with heap := w2.heap.setIfInBounds R.block (.loop { L2' with state := if j.isNone then .ready else .done, pending := j }) } := by
      simp only [Instr.endRound, Sem.run_bind, run_getLoop hb2, Result.andThen_ok, run_setLoop hb2]
      rfl
    have hfin := hK (.bool j.isNone) ρ2 _ (((s1.trans s2).trans s3).trans s4) m4 (.base rfl)
    cases ex with
    | normal => obtain rfl : j = none := q8; exact ⟨_, _, hend, hfin⟩
    | ret => obtain rfl : j = some .ret := q8; exact ⟨_, _, hend, hfin⟩
    | exit id => obtain rfl : j = some (.exit id) := q8; exact ⟨_, _, hend, hfin⟩
    | goto t => obtain rfl : j = some (.goto t) := q8; exact ⟨_, _, hend, hfin⟩
    | panic ch => exact q8.elim
    | outgrown => exact q8.elim
end
end Go.Proofs.Ytmobpbhbllhdcaa.Ideal
end
noncomputable section
namespace Go.Proofs.Ytmobpbhbllhdcaa.Ideal
set_option linter.unusedVariables false
set_option linter.unusedSimpArgs false
set_option linter.unnecessarySimpa false

section
variable {P : Program} {rd : Option Nat} {a a' : Act} {h h' : IHeap} {e : Exit}

/-- The record of a loop that is entered. -/
def newLoop (a : Act) (ps : Array Tmp) (assign body : Code) (b : Nat) : Loop := { state := .ready, pending := none, fn := 0, tmps := a.tmps, params := ps, assign, body, defers := b }
/-- What is pending when the loop has ended. -/
def goesOn (P : Program) (rd : Option Nat) (j : Option Code) (a : Act) (h : IHeap) (e : Exit) (a' : Act) (h' : IHeap) : Prop :=
  match j with
  | none => e = .normal ∧ a' = a ∧ h' = h
  | some c => IExec P rd c a h e a' h'

theorem range_tail {f : FuncId} {fs cs fs' cs' : Array Value} {fn : Func} {l : Nat} {R : Ren} {v : Value} {h2 h3 : IHeap} {L3 : Loop} {ρ2 : Rho} {w2 : World} {a1 ar1 : Act} {rr : Option Nat} {Q : Exit → Act → World → Prop}
    (hfn : P.funcs[f]? = some fn) (hcall : ICall P f (fs ++ #[.func (.yield l) #[] #[]] ++ cs) h2 v h3) (hg3 : h3.get l = some (.loop L3)) (hst : L3.state ≠ .busy) {j : Option Code} (hj : L3.pending = j) (hgo : goesOn P rd j a1 (h3.set l (.loop { L3 with state := .exhausted })) e a' h')
    (hrd : RdRel ρ2 rd rr) (hm : Models ρ2 h2 w2) (hfr : Fresh ρ2 h2.size h'.size) (hact : ActRel ρ2 a1 ar1) (hR : ρ2 l = some R) (hfs : ARel ρ2 fs fs') (hcs : ARel ρ2 cs cs') (hQ : ∀ ar' w', After ρ2 h2 w2 a' h' ar' w' → Q e ar' w') :
    CallsIn (fen rr) (0 - 1) P f (fs' ++ #[.func (.yield R.block) #[] #[]] ++ cs') w2 (rangePost (fen rr) 0 P R.block Q ar1) := by
  have hgrow : Grow (h3.set l (.loop { L3 with state := .exhausted })) h' := by
    unfold goesOn at hgo
    split at hgo
    · obtain ⟨_, _, rfl⟩ := hgo; exact Grow.refl _
    · exact hgo.grow
  have hs3 : h3.size ≤ h'.size := hgrow.size
  have happ : ∀ {x x' y y' : Array Value}, ARel ρ2 x x' → ARel ρ2 y y' → ARel ρ2 (x ++ y) (x' ++ y') := by
    intro x x' y y' hx hy
    have := (LRel.of_arr hx).append (LRel.of_arr hy)
    have := ARel.of_list this
    rwa [show (x.toList ++ y.toList).toArray = x ++ y from Array.ext' (by simp), show (x'.toList ++ y'.toList).toArray = x' ++ y' from Array.ext' (by simp)] at this
  have hy : ARel ρ2 #[.func (.yield l) #[] #[]] #[.func (.yield R.block) #[] #[]] := .of rfl (fun i u hu => by
    match i, hu with
    | 0, hu => simp at hu; subst hu; exact ⟨_, rfl, .yld hR⟩
    | i + 1, hu => simp at hu)
  refine calls_fen ((hcall.run ρ2 w2 _ (happ (happ hfs hy) hcs) hm (hfr.left hs3)).mono ?_)
  rintro e' w3 ⟨ρ3, v', rfl, s, m, hv⟩
  have hle := s.le (hfr.left hs3)
  have hR3 := hle l R hR
  obtain ⟨L', hb, hl⟩ := loop_get m hg3 hR3
  have hst' : (L'.state == LoopState.busy) = false := by
    rw [← hl.state]
    cases hs : L3.state <;> first | rfl | exact absurd hs hst
  have hM : LoopRel ρ3 { L3 with state := .exhausted } { L' with state := .exhausted } := ⟨rfl, hl.pending, hl.params, hl.assign, hl.body, hl.tmps, hl.defers⟩
  obtain ⟨s4, m4⟩ := loop_set m hg3 hR3 hM
  have hj' : L'.pending = j := by rw [← hl.pending, hj]
  refine ⟨j, { w3 with heap := w3.heap.setIfInBounds R.block (.loop { L' with state := .exhausted }) }, ?_, ?_⟩
  · simp only [Instr.endLoop, Sem.run_bind, run_getLoop hb, Result.andThen_ok, hst', if_false, Bool.false_eq_true, run_setLoop hb]
    exact congrArg (fun x => Result.ok x _) hj'
  · have s34 := s.trans s4
    have hact3 := hact.mono hle
    unfold goesOn at hgo
    cases j with
    | none =>
      obtain ⟨rfl, rfl, rfl⟩ := hgo
      exact hQ _ _ ⟨ρ3, s34, m4, hact3⟩
    | some c =>
      refine hgo.run ρ3 _ ar1 rr (hrd.mono hle) m4 ?_ hact3 Q ?_
      · exact Fresh.right (h'' := h') hfr s34
      · rintro ar' w' ⟨ρ4, s5, m5, r5⟩
        exact hQ _ _ ⟨ρ4, s34.trans s5, m5, r5⟩

/-- 'for .. := range g', in a function's own frame. -/
theorem IExec.rangeFunc {g : Operand} {ps : Array Tmp} {assign body : Code} {f : FuncId} {fs cs : Array Value} {fn : Func} {v : Value} {h3 : IHeap} {L3 : Loop} (hg : operandOk g = true) (hgf : a.eval g = .func (.func f) fs cs) (hfn : P.funcs[f]? = some fn) (hname : (fn.name == "runtime.NumGoroutine") = false) (hbody : fn.body.isSome = true)
    (hcall : ICall P f (fs ++ #[.func (.yield (h.size + 1)) #[] #[]] ++ cs) ((h.push .defs).push (.loop (newLoop a ps assign body h.size))) v h3) (hg3 : h3.get (h.size + 1) = some (.loop L3)) (hst : L3.state ≠ .busy) {j : Option Code} (hj : L3.pending = j)
    (hgo : goesOn P none j { a with defers := markOf h.size :: a.defers } (h3.set (h.size + 1) (.loop { L3 with state := .exhausted })) e a' h') : IExec P none (.rangeFunc g ps assign body) a h e a' h' := by
  have hgrow : Grow (h3.set (h.size + 1) (.loop { L3 with state := .exhausted })) h' := by
    unfold goesOn at hgo
    split at hgo
    · obtain ⟨_, _, rfl⟩ := hgo; exact Grow.refl _
    · exact hgo.grow
  have hg3' : Grow h3 (h3.set (h.size + 1) (.loop { L3 with state := .exhausted })) := Grow.set hg3 rfl (by simp)
  have gall := ((Grow.push h .defs).trans (Grow.push (h.push .defs) (.loop (newLoop a ps assign body h.size)))).trans (hcall.grow.trans (hg3'.trans hgrow))
  have hsz2 : ((h.push .defs).push (.loop (newLoop a ps assign body h.size))).size = h.size + 2 := rfl
  have hs' : h.size + 2 ≤ h'.size := by have := (hcall.grow.trans (hg3'.trans hgrow)).size; rw [hsz2] at this; exact this
  refine ⟨gall, fun ρ w ar rr hrd hm hfr hact Q hQ => ?_⟩
  have hrr : rr = none := by
    cases rr with
    | none => rfl
    | some l => exact hrd.elim
  subst hrr
  have hf0 : ρ h.size = none := hfr _ (Nat.le_refl _) (by omega)
  have gf := operand_rel hact hg
  rw [hgf] at gf
  obtain ⟨fs', cs', egf, z1, z2, z3, z4⟩ := gf.fn_inv
  have hnb : fn.body.isNone = false := by cases hb : fn.body <;> simp_all
  -- the two new blocks
  let R0 : Ren := ⟨w.heap.size, 0, 0, 0⟩
  let wa : World := { w with heap := w.heap.push (.deferred (some [])) }
  obtain ⟨s1, m1⟩ := hm.push (w' := wa) (R := R0) hf0 rfl rfl rfl rfl rfl ORel.defs
  have hf1 : (ρ.upd h.size R0) (h.push .defs).size = none := by
    unfold Rho.upd
    rw [if_neg (by simp)]
    exact hfr _ (by simp) (by simp; omega)
  have hle1 := upd_le (R := R0) hf0
  have hact1 := hact.mono hle1
  refine wpIn_rangeFunc (fun fn0 _ => ?_)
  let Lr : Loop := { state := .ready, pending := none, fn := fn0, tmps := ar.tmps, params := ps, assign, body, defers := w.heap.size }
  let wb : World := { wa with heap := wa.heap.push (.loop Lr) }
  let R1 : Ren := ⟨wa.heap.size, 0, 0, 0⟩
  have hle2 := upd_le (R := R1) hf1
  obtain ⟨s2, m2⟩ := m1.push (w' := wb) (R := R1) hf1 rfl rfl rfl rfl rfl (n := .loop (newLoop a ps assign body h.size)) (ob := .loop Lr) (.loop ⟨rfl, rfl, rfl, rfl, rfl, ⟨hact.size, fun t => ((hact1.tmp t).mono hle2)⟩, R0, hle2 _ _ (upd_same _ _ _), rfl⟩)
  have hs12 := s1.trans s2
  have hlt : w.heap.size < wa.heap.size := by simp [wa]
  refine ⟨wa.heap.size, [{ target := .collected w.heap.size, args := #[] }], wb, { target := .fn (.func f) cs', args := fs' ++ #[.func (.yield wa.heap.size) #[] #[]] }, wb, f, fs' ++ #[.func (.yield wa.heap.size) #[] #[]] ++ cs', wb, ?_, ?_, fun f' _ => fen_fn _ f', ?_, (fun hd => by rw [fen_depth] at hd; cases hd), ?_⟩
  · show (Instr.enterLoop fn0 ar.tmps ps assign body none).run P w = _
    simp [Instr.enterLoop, Sem.run_bind, newObj, Sem.run, wa, wb, Lr]
  · simp only [resolve, rangeCall, egf, Deferred.ofValue]
    simp [Act.eval]
  · simp only [invoke, callFunc, program, Sem.run_bind, Sem.run, Sem.run_pure, Result.andThen_ok, hfn, hname, hnb, if_false, Bool.false_eq_true]
  · refine range_tail (R := R1) (rd := none) hfn hcall hg3 hst hj hgo trivial m2 ?_ ?_ (upd_same _ _ _) (ARel.of z1 ?_) (ARel.of z3 ?_) ?_
    · intro i x y
      rw [hsz2] at x
      unfold Rho.upd
      rw [if_neg (by simp; omega), if_neg (by omega)]
      exact hfr i (by omega) y
    · have hact2 := hact1.mono hle2
      refine ⟨hact2.size, hact2.tmp, ?_⟩
      obtain ⟨bs, e1, rs, e2, e3, e4⟩ := hact2.dfr
      refine ⟨h.size :: bs, by simp [e1, markOf], R0 :: rs, by simp [e2], fun k b hk => ?_, by simp [e4, R0]⟩
      cases k with
      | zero => simp at hk; subst hk; exact ⟨R0, rfl, hle2 _ _ (upd_same _ _ _)⟩
      | succ k => simpa using e3 k b (by simpa using hk)
    · intro i u hu
      obtain ⟨v', k1, k2⟩ := get_rel z1 z2 hu
      exact ⟨v', k1, (k2.mono hle1).mono hle2⟩
    · intro i u hu
      obtain ⟨v', k1, k2⟩ := get_rel z3 z4 hu
      exact ⟨v', k1, (k2.mono hle1).mono hle2⟩
    · rintro ar' w' ⟨ρ', s, m, r⟩
      exact hQ _ _ ⟨ρ', hs12.trans s, m, r⟩
end
end Go.Proofs.Ytmobpbhbllhdcaa.Ideal
end
