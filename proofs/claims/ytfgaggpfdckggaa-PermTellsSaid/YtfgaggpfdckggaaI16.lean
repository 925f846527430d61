/- Code on the ideal heap: control, calls. -/
import Derived.Test.YtfgaggpfdckggaaI15
noncomputable section
namespace Go.Proofs.Ytfgaggpfdckggaa.Ideal
set_option linter.unusedVariables false
set_option linter.unusedSimpArgs false
set_option linter.unnecessarySimpa false

section
variable {P : Program} {rd : Option Nat} {a a' a'' : Act} {h h' h'' : IHeap} {e : Exit}
theorem IExec.skip : IExec P rd .skip a h .normal a h := ⟨Grow.refl _, fun ρ w ar rr hrd hm hf hact Q hQ => wpIn_skip (hQ _ _ (.refl hm hact))⟩
theorem IExec.label {l : Nat} : IExec P rd (.label l) a h .normal a h := ⟨Grow.refl _, fun ρ w ar rr hrd hm hf hact Q hQ => wpIn_label (hQ _ _ (.refl hm hact))⟩
theorem IExec.exit {id : Nat} : IExec P rd (.exit id) a h (.exit id) a h := ⟨Grow.refl _, fun ρ w ar rr hrd hm hf hact Q hQ => wpIn_exit (hQ _ _ (.refl hm hact))⟩
theorem IExec.goto {l : Nat} : IExec P rd (.goto l) a h (.goto l) a h := ⟨Grow.refl _, fun ρ w ar rr hrd hm hf hact Q hQ => wpIn_goto (hQ _ _ (.refl hm hact))⟩
theorem IExec.ret : IExec P rd .ret a h .ret a h := ⟨Grow.refl _, fun ρ w ar rr hrd hm hf hact Q hQ => wpIn_ret (hQ _ _ (.refl hm hact))⟩
theorem Fresh.left {ρ : Rho} {x y z : Nat} (hf : Fresh ρ x z) (hyz : y ≤ z) : Fresh ρ x y := fun i a b => hf i a (by omega)
theorem Fresh.right {ρ ρ' : Rho} {w w' : World} (hf : Fresh ρ h.size h''.size) (s : Step ρ h w ρ' h' w') : Fresh ρ' h'.size h''.size := fun i x y => by rw [s.ext i (.inr x)]; exact hf i (by have := s.size; omega) y
theorem After.trans {ρ : Rho} {w w' w'' : World} {ar' ar'' : Act} (s : After ρ h w a' h' ar' w') (k : ∀ ρ', Step ρ h w ρ' h' w' → Models ρ' h' w' → ActRel ρ' a' ar' → After ρ' h' w' a'' h'' ar'' w'') : After ρ h w a'' h'' ar'' w'' := by
  obtain ⟨ρ', s1, m1, r1⟩ := s
  obtain ⟨ρ'', s2, m2, r2⟩ := k ρ' s1 m1 r1
  exact ⟨ρ'', s1.trans s2, m2, r2⟩
theorem IExec.seq {x y : Code} (h1 : IExec P rd x a h .normal a' h') (h2 : IExec P rd y a' h' e a'' h'') : IExec P rd (.seq x y) a h e a'' h'' := by
  refine ⟨h1.grow.trans h2.grow, fun ρ w ar rr hrd hm hf hact Q hQ => wpIn_seq (h1.run ρ w ar rr hrd hm (hf.left h2.grow.size) hact _ ?_)⟩
  rintro ar' w' ⟨ρ', s, m, r⟩
  refine h2.run ρ' w' ar' rr (hrd.mono (s.le (hf.left h2.grow.size))) m (hf.right s) r Q ?_
  rintro ar'' w'' ⟨ρ'', s', m', r'⟩
  exact hQ _ _ ⟨ρ'', s.trans s', m', r'⟩
theorem IExec.seq_out {x y : Code} (h1 : IExec P rd x a h e a' h') (he : e ≠ .normal) : IExec P rd (.seq x y) a h e a' h' := by
  refine ⟨h1.grow, fun ρ w ar rr hrd hm hf hact Q hQ => wpIn_seq (h1.run ρ w ar rr hrd hm hf hact _ (fun ar' w' hA => ?_))⟩
  cases e <;> first | exact absurd rfl he | exact hQ _ _ hA
theorem IExec.cond {c : Operand} {x y : Code} {t : Bool} (hc : a.eval c = .bool t) (ho : operandOk c = true) (h1 : IExec P rd (if t then x else y) a h e a' h') : IExec P rd (.cond c x y) a h e a' h' := by
  refine ⟨h1.grow, fun ρ w ar rr hrd hm hf hact Q hQ => ?_⟩
  have hr := operand_rel hact ho
  rw [hc] at hr
  exact wpIn_cond hr.bool_inv (h1.run ρ w ar rr hrd hm hf hact Q hQ)
/-- How a block is left. -/
def outOf (id : Nat) : Exit → Exit
  | .exit id' => if id' = id then .normal else .exit id'
  | e => e
theorem IExec.block {id : Nat} {c : Code} (h1 : IExec P rd c a h e a' h') : IExec P rd (.block id c) a h (outOf id e) a' h' := by
  refine ⟨h1.grow, fun ρ w ar rr hrd hm hf hact Q hQ => wpIn_block (h1.run ρ w ar rr hrd hm hf hact _ (fun ar' w' hA => ?_))⟩
  have := hQ ar' w' hA
  cases e with
  | exit id' =>
    by_cases hid : id' = id
    · simp only [outOf, if_pos hid] at this
      simp only [Exit.inBlock, if_pos hid]
      exact this
    · simp only [outOf, if_neg hid] at this
      simp only [Exit.inBlock, if_neg hid]
      exact this
  | _ => exact this

theorem stepR_scope {b : Frame} {a : Act} {k : List Item} {cs : List Frame} {w : World} {c : Code} : step P (lone (b.atR a (.code (.scope c) :: k)) cs w) = .next (lone (b.atR a (.code c :: .inScope c :: k)) cs w) :=
  step_lone_go (by simp [stepG, stepG.exec, Frame.atR])
theorem stepR_inScope {b : Frame} {a : Act} {k : List Item} {cs : List Frame} {w : World} {c : Code} : step P (lone (b.atR a (.inScope c :: k)) cs w) = .next (lone (b.atR a k) cs w) :=
  step_lone_go (by simp [stepG, stepG.exec, Frame.atR])
theorem wpIn_scope_straight {F : Fence} {n : Nat} {c : Code} {Q : Exit → Act → World → Prop} {a : Act} {w : World} (h : c.wpIn F n P Q a w) (hg : ∀ l a w, ¬ Q (.goto l) a w) : (Code.scope c).wpIn F n P Q a w := by
  intro b k cs hro hb hr
  have h0 : (lone (b.atR a (.code (.scope c) :: k)) cs w).fenced P F := fenced_calm hb hr rfl
  obtain ⟨e, a₁, w₁, hq, harr⟩ := h b (.inScope c :: k) cs hro hb hr
  cases e with
  | normal => exact ⟨.normal, a₁, w₁, hq, .head h0 stepR_scope (StepsIn.trans harr (.one (fenced_calm hb hr rfl) stepR_inScope))⟩
  | exit id =>
    have hx : exitTo id (.inScope c :: k) = exitTo id k := by simp [exitTo]
    exact ⟨_, a₁, w₁, hq, fun k' hk => .head h0 stepR_scope (harr.1 k' (by rw [hx]; exact hk)),
      fun hr' hk => let ⟨k₁, h1, h2⟩ := harr.2 hr' (by rw [hx]; exact hk); ⟨k₁, h1, .head h0 stepR_scope h2⟩⟩
  | goto l => exact (hg _ _ _ hq).elim
  | ret => exact ⟨_, a₁, w₁, hq, .of_steps (.one h0 stepR_scope) harr⟩
  | panic ch => exact ⟨_, a₁, w₁, hq, .of_steps (.one h0 stepR_scope) harr⟩
  | outgrown => exact ⟨_, a₁, w₁, hq, .of_steps (.one h0 stepR_scope) harr⟩
theorem IExec.scope {c : Code} (h1 : IExec P rd c a h e a' h') (he : ∀ l, e ≠ .goto l) : IExec P rd (.scope c) a h e a' h' := by
  refine ⟨h1.grow, fun ρ w ar rr hrd hm hf hact Q hQ => ?_⟩
  have h2 := h1.run ρ w ar rr hrd hm hf hact (fun x a1 w1 => Q x a1 w1 ∧ ∀ l, x ≠ .goto l) (fun ar' w' hA => ⟨hQ ar' w' hA, he⟩)
  have h3 := wpIn_scope_straight h2 (fun l a w hh => hh.2 l rfl)
  intro b k cs hro hb hr
  obtain ⟨x, a1, w1, hq, harr⟩ := h3 b k cs hro hb hr
  exact ⟨x, a1, w1, hq.1, harr⟩
/-- From the head of a loop on. -/
def LoopFrom (F : Fence) (P : Program) (c : Code) (Q : Exit → Act → World → Prop) (a : Act) (w : World) : Prop :=
  ∀ (b : Frame) (k : List Item) (cs : List Frame), b.roundOf = F.round → F.fn b.fn → F.room (cs.length + 1 + 0) →
    ∃ e a' w', Q e a' w' ∧ ArrivesIn (Machine.fenced P F) P (lone (b.atR a (.code c :: .inLoop c :: k)) cs w) b k cs e a' w'
theorem loopFrom_wp {F : Fence} {c : Code} {Q : Exit → Act → World → Prop} {w : World} (h : LoopFrom F P c Q a w) : (Code.loop c).wpIn F 0 P Q a w := fun b k cs hro hb hr => by
  obtain ⟨e, a', w', hq, harr⟩ := h b k cs hro hb hr
  exact ⟨e, a', w', hq, .of_steps (.one (fenced_calm hb hr rfl) stepR_loop) harr⟩
theorem loopFrom_of {F : Fence} {c : Code} {Q : Exit → Act → World → Prop} {w : World} (h : c.wpIn F 0 P (Exit.then (LoopFrom F P c Q) Q) a w) : LoopFrom F P c Q a w := fun b k cs hro hb hr => by
  obtain ⟨e, a₁, w₁, hq, harr⟩ := h b (.inLoop c :: k) cs hro hb hr
  cases e with
  | normal =>
    obtain ⟨e₂, a₂, w₂, hq₂, harr₂⟩ := hq b k cs hro hb hr
    exact ⟨e₂, a₂, w₂, hq₂, .of_steps (StepsIn.trans harr (.one (fenced_calm hb hr rfl) stepR_inLoop)) harr₂⟩
  | exit id => exact ⟨_, a₁, w₁, hq, .pass (x := .inLoop c) rfl (fun _ _ => .inl (by simp)) harr⟩
  | goto l => exact ⟨_, a₁, w₁, hq, .pass (x := .inLoop c) rfl (fun _ _ => .inl (by simp)) harr⟩
  | ret => exact ⟨_, a₁, w₁, hq, .pass (x := .inLoop c) rfl (fun _ _ => .inl (by simp)) harr⟩
  | panic ch => exact ⟨_, a₁, w₁, hq, .pass (x := .inLoop c) rfl (fun _ _ => .inl (by simp)) harr⟩
  | outgrown => exact ⟨_, a₁, w₁, hq, .pass (x := .inLoop c) rfl (fun _ _ => .inl (by simp)) harr⟩
/-- A loop's run from its head. -/
structure ILoop (P : Program) (rd : Option Nat) (c : Code) (a : Act) (h : IHeap) (e : Exit) (a' : Act) (h' : IHeap) : Prop where
  grow : Grow h h'
  run : ∀ (ρ : Rho) (w : World) (ar : Act) (rr : Option Nat), RdRel ρ rd rr → Models ρ h w → Fresh ρ h.size h'.size → ActRel ρ a ar → ∀ Q : Exit → Act → World → Prop, (∀ ar' w', After ρ h w a' h' ar' w' → Q e ar' w') → LoopFrom (fen rr) P c Q ar w
theorem ILoop.stop {c : Code} (h1 : IExec P rd c a h e a' h') (he : e ≠ .normal) : ILoop P rd c a h e a' h' := by
  refine ⟨h1.grow, fun ρ w ar rr hrd hm hf hact Q hQ => loopFrom_of (h1.run ρ w ar rr hrd hm hf hact _ (fun ar' w' hA => ?_))⟩
  cases e <;> first | exact absurd rfl he | exact hQ _ _ hA
theorem ILoop.more {c : Code} (h1 : IExec P rd c a h .normal a' h') (h2 : ILoop P rd c a' h' e a'' h'') : ILoop P rd c a h e a'' h'' := by
  refine ⟨h1.grow.trans h2.grow, fun ρ w ar rr hrd hm hf hact Q hQ => loopFrom_of (h1.run ρ w ar rr hrd hm (hf.left h2.grow.size) hact _ ?_)⟩
  rintro ar' w' ⟨ρ', s, m, r⟩
  refine h2.run ρ' w' ar' rr (hrd.mono (s.le (hf.left h2.grow.size))) m (hf.right s) r Q ?_
  rintro ar'' w'' ⟨ρ'', s', m', r'⟩
  exact hQ _ _ ⟨ρ'', s.trans s', m', r'⟩
theorem IExec.loop {c : Code} (h1 : ILoop P rd c a h e a' h') : IExec P rd (.loop c) a h e a' h' :=
  ⟨h1.grow, fun ρ w ar rr hrd hm hf hact Q hQ => loopFrom_wp (h1.run ρ w ar rr hrd hm hf hact Q hQ)⟩
end

/-- A function's call. -/
structure ICall (P : Program) (f : FuncId) (args : Array Value) (h : IHeap) (v : Value) (h' : IHeap) : Prop where
  grow : Grow h h'
  run : ∀ (ρ : Rho) (w : World) (args' : Array Value), ARel ρ args args' → Models ρ h w → Fresh ρ h.size h'.size → Calls P f args' w (fun e w' => ∃ ρ' v', e = .returned v' ∧ Step ρ h w ρ' h' w' ∧ Models ρ' h' w' ∧ VRel ρ' v v')

def startAct (fn : Func) (args : Array Value) : Act := { tmps := args ++ Array.replicate (fn.ntmps - args.size) undef, defers := [] }
theorem start_rel {ρ : Rho} {fn : Func} {args args' : Array Value} (h : ARel ρ args args') : ActRel ρ (startAct fn args) (startAct fn args') := by
  refine ⟨by simp [startAct, h.1], fun t => ?_, [], rfl, [], rfl, fun k b hk => by simp at hk, rfl⟩
  simp only [startAct, Array.getD_eq_getD_getElem?]
  by_cases ht : t < args.size
  · rw [Array.getElem?_append_left ht, Array.getElem?_append_left (by rw [← h.1]; exact ht)]
    have := h.2 t ht
    simpa [Array.getD_eq_getD_getElem?] using this
  · rw [Array.getElem?_append_right (Nat.le_of_not_lt ht), Array.getElem?_append_right (by rw [← h.1]; exact Nat.le_of_not_lt ht), h.1]
    have hz : ∀ n k : Nat, ((Array.replicate n undef)[k]?).getD undef = undef := by
      intro n k
      by_cases hk : k < n
      · simp [hk]
      · simp [hk]
    rw [hz]
    exact VRel.undef_rel

/-- A result. -/
def ires1 (P : Program) (h : IHeap) (tmps : Array Value) : ResultVar → Option Value
  | .tmp t => some (tmps.getD t undef)
  | .cell p t => match tmps.getD p undef with
    | .pointer (some ⟨i, q, none⟩) => (match h.get i with
      | some (.row _ _ cs) => loadOf P t cs q
      | _ => none)
    | _ => none
def iresults (P : Program) (h : IHeap) (rs : Array ResultVar) (tmps : Array Value) : Option Value :=
  match rs.toList.mapM (ires1 P h tmps) with
  | some [v] => some v
  | some vs => some (.tuple vs.toArray)
  | none => none
/-- The loops' marks are taken up at the end. -/
def closeMarks : List Nat → IHeap → Option IHeap
  | [], h => some h
  | b :: bs, h => match h.get b with
    | some .defs => closeMarks bs (h.set b .dead)
    | _ => none

theorem load_run {P : Program} {ρ : Rho} {h : IHeap} {w : World} {t : TypeId} {i q : Nat} {ro : Bool} {esz : Nat} {cs : List Value} {v : Value} {R : Ren} (hm : Models ρ h w) (hR : ρ i = some R) (hg : h.get i = some (.row ro esz cs)) (hv : loadOf P t cs q = some v) :
    ∃ v', (loadVar t ⟨R.block, R.off + q, none⟩).run P w = .ok v' w ∧ VRel ρ v v' := by
  obtain ⟨ob, hb, hor⟩ := hm.obj i R _ hg hR
  unfold loadOf at hv
  split at hv
  · rename_i n h1 h2
    obtain ⟨vs, hs, rfl⟩ := Option.map_eq_some_iff.mp hv
    obtain ⟨vs', k1, k2, _⟩ := slots_run (P := P) hb hor hs
    refine ⟨.agg vs'.toArray, ?_, .agg (ARel.of_list k2).1 (ARel.of_list k2).2⟩
    simp [Sem.run_bind, loadVar, run_isAggB h1, run_size h2, k1]
  · rename_i n h1 h2
    obtain ⟨c, e', fr, rfl, _, _, hr, hz, hc⟩ := hor.cells
    obtain ⟨v', k1, k2⟩ := hc q v hv
    refine ⟨v', ?_, k2⟩
    have hcell := cell_of hb (R.off + q)
    rw [k1] at hcell
    simp [Sem.run_bind, loadVar, run_isAggB h1, load, Sem.run, hcell]
  · cases hv
theorem run_mapM {α β : Type} {P : Program} (f : α → Sem β) (w : World) : ∀ (l : List α) (vs : List β), (∀ (k : Nat) (x : α), l[k]? = some x → ∃ y, vs[k]? = some y ∧ (f x).run P w = .ok y w) → l.length = vs.length → (l.mapM f).run P w = .ok vs w
  | [], vs, _, hl => by
    have : vs = [] := List.eq_nil_of_length_eq_zero hl.symm
    subst this; simp
  | x :: l, vs, h, hl => by
    cases vs with
    | nil => simp at hl
    | cons y vs =>
      obtain ⟨y', h1, h2⟩ := h 0 x rfl
      simp at h1
      subst h1
      have ih := run_mapM f w l vs (fun k x hk => by simpa using h (k + 1) x (by simpa using hk)) (by simpa using hl)
      simp [List.mapM_cons, Sem.run_bind, h2, ih]
theorem mapM_get {α β : Type} (f : α → Option β) : ∀ (l : List α) (vs : List β), l.mapM f = some vs → l.length = vs.length ∧ ∀ (k : Nat) (x : α), l[k]? = some x → ∃ y, vs[k]? = some y ∧ f x = some y
  | [], vs, h => by simp at h; subst h; exact ⟨rfl, fun k x hk => by simp at hk⟩
  | x :: l, vs, h => by
    rw [List.mapM_cons] at h
    obtain ⟨y, h1, h2⟩ := Option.bind_eq_some_iff.mp h
    obtain ⟨ys, h3, h4⟩ := Option.bind_eq_some_iff.mp h2
    cases h4
    obtain ⟨i1, i2⟩ := mapM_get f l ys h3
    refine ⟨by simp [i1], fun k z hk => ?_⟩
    cases k with
    | zero => simp at hk; subst hk; exact ⟨y, rfl, h1⟩
    | succ k => simpa using i2 k z (by simpa using hk)
theorem results_run {P : Program} {ρ : Rho} {h : IHeap} {w : World} {a ar : Act} {fn : Func} {v : Value} (hm : Models ρ h w) (hact : ActRel ρ a ar) (hr : iresults P h fn.results a.tmps = some v) : ∃ v', (results fn ar.tmps).run P w = .ok v' w ∧ VRel ρ v v' := by
  have one : ∀ r u, ires1 P h a.tmps r = some u → ∃ u', ((match r with | .tmp t => pure (ar.tmps.getD t undef) | .cell p t => (do loadVar t (← asAddr (ar.tmps.getD p undef)))) : Sem Value).run P w = .ok u' w ∧ VRel ρ u u' := by
    intro r u hu
    unfold ires1 at hu
    split at hu
    · cases hu
      exact ⟨_, rfl, hact.tmp _⟩
    · rename_i p t
      split at hu
      · rename_i i q hp
        split at hu
        · rename_i ro esz cs hg
          have h1 := hact.tmp p
          rw [hp] at h1
          obtain ⟨R, hR, e⟩ := h1.ptr_inv
          obtain ⟨v', k1, k2⟩ := load_run (P := P) hm hR hg hu
          refine ⟨v', ?_, k2⟩
          simp [Sem.run_bind, e, asAddr, k1]
        · cases hu
      · cases hu
  have key : ∀ us, fn.results.toList.mapM (ires1 P h a.tmps) = some us → ∃ us', LRel ρ us us' ∧ (results fn ar.tmps).run P w = .ok (if h : us'.toArray.size = 1 then us'.toArray[0] else .tuple us'.toArray) w := by
    intro us hus
    obtain ⟨h1, h2⟩ := mapM_get _ _ _ hus
    have hch : ∃ us' : List Value, us'.length = us.length ∧ ∀ (k : Nat) (r : ResultVar), fn.results.toList[k]? = some r → ∃ u u', us[k]? = some u ∧ us'[k]? = some u' ∧ ((match r with | .tmp t => pure (ar.tmps.getD t undef) | .cell p t => (do loadVar t (← asAddr (ar.tmps.getD p undef)))) : Sem Value).run P w = .ok u' w ∧ VRel ρ u u' := by
      clear hus
      generalize fn.results.toList = rs at h1 h2
      induction rs generalizing us with
      | nil => exact ⟨[], by simpa using h1, fun k r hk => by simp at hk⟩
      | cons r rs ih =>
        cases us with
        | nil => simp at h1
        | cons u us =>
          obtain ⟨y, e1, e2⟩ := h2 0 r rfl
          simp at e1
          subst e1
          obtain ⟨u', k1, k2⟩ := one r _ e2
          obtain ⟨us', l1, l2⟩ := ih us (by simpa using h1) (fun k x hk => by simpa using h2 (k + 1) x (by simpa using hk))
          refine ⟨u' :: us', by simp [l1], fun k x hk => ?_⟩
          cases k with
          | zero => simp at hk; subst hk; exact ⟨_, u', rfl, rfl, k1, k2⟩
          | succ k => simpa using l2 k x (by simpa using hk)
    obtain ⟨us', l1, l2⟩ := hch
    refine ⟨us', ⟨l1.symm, fun k u hu => ?_⟩, ?_⟩
    · have hk : k < fn.results.toList.length := by rw [h1]; exact (List.getElem?_eq_some_iff.1 hu).1
      obtain ⟨u0, u', m1, m2, _, m4⟩ := l2 k fn.results.toList[k] (by simp)
      rw [hu] at m1; cases m1
      exact ⟨u', m2, m4⟩
    · unfold results
      rw [Array.mapM_eq_mapM_toList]
      simp only [Sem.run_bind, map_eq_pure_bind]
      rw [run_mapM _ w fn.results.toList us' (fun k r hk => ?_) (by rw [h1, l1])]
      · rfl
      · obtain ⟨u, u', _, m2, m3, _⟩ := l2 k r hk
        exact ⟨u', m2, m3⟩
  unfold iresults at hr
  split at hr
  · rename_i u hu
    cases hr
    obtain ⟨us', h1, h2⟩ := key _ hu
    have hl := h1.1
    cases us' with
    | nil => simp at hl
    | cons u' us' =>
      cases us' with
      | cons _ _ => simp at hl
      | nil =>
        obtain ⟨y, e1, e2⟩ := h1.2 0 _ rfl
        simp at e1
        subst e1
        exact ⟨_, h2, e2⟩
  · rename_i us hne hu
    cases hr
    obtain ⟨us', h1, h2⟩ := key _ hu
    have hl := h1.1
    have hn1 : ¬ (us'.toArray.size = 1) := by
      intro h
      have hl1 : us.length = 1 := by rw [hl]; simpa using h
      match us, hl1 with
      | [x], _ => exact hne x rfl
    rw [dif_neg hn1] at h2
    exact ⟨_, h2, .tup (ARel.of_list h1).1 (ARel.of_list h1).2⟩
  · cases hr
end Go.Proofs.Ytfgaggpfdckggaa.Ideal
