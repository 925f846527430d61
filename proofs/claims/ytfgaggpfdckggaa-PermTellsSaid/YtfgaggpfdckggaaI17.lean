/- Code on the ideal heap: functions, rounds, ranges over functions. -/
import Derived.Test.YtfgaggpfdckggaaI16
noncomputable section
namespace Go.Proofs.Ytfgaggpfdckggaa.Ideal
set_option linter.unusedVariables false
set_option linter.unusedSimpArgs false
set_option linter.unnecessarySimpa false

def markOf (b : Nat) : Deferred := { target := .collected b, args := #[] }
/-- The marks, taken up one by one. -/
theorem marks_run {P : Program} {fn : Func} {tmps : Array Value} {R : Ending → World → Prop} : ∀ (bs : List Nat) (rs : List Ren) (h h' : IHeap) (ρ : Rho) (w : World), closeMarks bs h = some h' → rs.length = bs.length → (∀ (k b : Nat), bs[k]? = some b → ∃ R, rs[k]? = some R ∧ ρ b = some R) → Models ρ h w →
    (∀ w', Step ρ h w ρ h' w' → Models ρ h' w' → LeavesInM Fence.wide 0 P fn tmps R [] .returning w') → LeavesInM Fence.wide 0 P fn tmps R (rs.map fun R => { target := .collected R.block, args := #[] }) .returning w
  | [], rs, h, h', ρ, w, hc, hl, _, hm, hK => by
    have : rs = [] := List.eq_nil_of_length_eq_zero hl
    subst this
    simp only [closeMarks, Option.some.injEq] at hc
    subst hc
    exact hK w (Step.refl _ _ _) hm
  | b :: bs, rs, h, h', ρ, w, hc, hl, hr, hm, hK => by
    cases rs with
    | nil => simp at hl
    | cons R0 rs =>
      obtain ⟨R1, e1, hR⟩ := hr 0 b rfl
      simp at e1
      subst e1
      unfold closeMarks at hc
      split at hc
      · rename_i hg
        obtain ⟨ob, hb, hor⟩ := hm.obj b R0 _ hg hR
        cases hor
        have hlt := hm.lt b R0 hR
        have hrun : (Instr.takeDeferred R0.block).run P w = .ok [] { w with heap := w.heap.setIfInBounds R0.block (.deferred none) } := by
          simp [Instr.takeDeferred, Sem.run_bind, getObj, setObj, Sem.run, hb]
        have hother : ∀ b', b' ≠ R0.block → (w.heap.setIfInBounds R0.block (.deferred none))[b']? = w.heap[b']? := fun b' hb' => by
          rw [Array.getElem?_setIfInBounds, if_neg (fun e => hb' e.symm)]
        obtain ⟨s, m⟩ := hm.write (o' := .dead) (w' := { w with heap := w.heap.setIfInBounds R0.block (.deferred none) }) hg rfl (by simp) hR (by simp) rfl rfl rfl (ob := .deferred none) (by simp [Array.getElem?_setIfInBounds, hlt]) .dead hother
        refine ⟨by simp, .inl ⟨R0.block, _, rfl, hrun, ?_⟩⟩
        refine marks_run bs rs _ h' ρ _ hc (by simpa using hl) (fun k x hk => by simpa using hr (k + 1) x (by simpa using hk)) m ?_
        intro w' s' m'
        exact hK w' (s.trans s') m'
      · cases hc

theorem ICall.of_body {P : Program} {f : FuncId} {fn : Func} {c : Code} {args : Array Value} {h h1 h2 : IHeap} {a1 : Act} {e : Exit} {bs : List Nat} {v : Value} (hf : P.funcs[f]? = some fn) (hb : fn.body = some c) (hx : IExec P none c (startAct fn args) h e a1 h1) (he : e = .normal ∨ e = .ret)
    (hd : a1.defers = bs.map markOf) (hcl : closeMarks bs h1 = some h2) (hg : Grow h1 h2) (hsz : h2.size = h1.size) (hr : iresults P h2 fn.results a1.tmps = some v) : ICall P f args h v h2 := by
  refine ⟨hx.grow.trans hg, fun ρ w args' hargs hm hfr => (callsIn_wide (n := 0)).1 (callsIn_of_wp_marks hf hb trivial ?_)⟩
  refine hx.run ρ w (startAct fn args') none trivial hm (by rw [← hsz]; exact hfr) (start_rel hargs) _ ?_
  rintro ar' w' ⟨ρ', s, m, r⟩
  have key : LeavesInM Fence.wide 0 P fn ar'.tmps (fun e w' => ∃ ρ' v', e = .returned v' ∧ Step ρ h w ρ' h2 w' ∧ Models ρ' h2 w' ∧ VRel ρ' v v') ar'.defers .returning w' := by
    obtain ⟨bs', e1, rs, e2, e3, e4⟩ := r.dfr
    have hbs : bs' = bs := by
      rw [hd] at e1
      have hinj : ∀ (l l' : List Nat), l.map markOf = l'.map (fun b => ({ target := .collected b, args := #[] } : Deferred)) → l = l' := by
        intro l
        induction l with
        | nil => intro l' h; cases l' with
          | nil => rfl
          | cons x l' => simp at h
        | cons x l ih => intro l' h; cases l' with
          | nil => simp at h
          | cons y l' =>
            simp only [List.map_cons, List.cons.injEq, markOf, Deferred.mk.injEq, Target.collected.injEq, and_true] at h
            rw [h.1, ih l' h.2]
      exact (hinj bs bs' e1).symm
    subst hbs
    rw [e4]
    refine marks_run bs' rs h1 h2 ρ' w' hcl e2 e3 m ?_
    intro w'' s' m'
    obtain ⟨v', k1, k2⟩ := results_run (P := P) m' r hr
    exact ⟨v', k1, ρ', v', rfl, s.trans s', m', k2⟩
  rcases he with rfl | rfl
  · exact key
  · exact key

section
variable {P : Program} {rd : Option Nat} {o : Oper} {a : Act} {h h' : IHeap} {v : Value}
theorem calls_fen {rr : Option Nat} {f : FuncId} {args : Array Value} {w : World} {R : Ending → World → Prop} (hc : Calls P f args w R) : CallsIn (fen rr) (0 - 1) P f args w R := by
  cases rr with
  | none => exact callsIn_wide.2 hc
  | some l => exact (callsIn_wide (n := 0 - 1)).2 hc
/-- A call. -/
theorem HOp.call {c : Call} {f : Operand} {g : FuncId} {fs cs : Array Value} {fn : Func} (ho : o.op = .call c) (hcal : c.callee = .value f) (hf : a.eval f = .func (.func g) fs cs) (hfn : P.funcs[g]? = some fn) (hname : (fn.name == "runtime.NumGoroutine") = false) (hbody : fn.body.isSome = true)
    (hcall : ICall P g (fs ++ c.args.map a.eval ++ cs) h v h') : HOp P rd o a h v h' := by
  intro ρ w ar rr hrd hm hfr hrel K Q hK
  have gf := hrel f (by simp [ho, Op.operands, Call.operands, hcal])
  rw [hf] at gf
  obtain ⟨fs', cs', e, z1, z2, z3, z4⟩ := gf.fn_inv
  have hargs : ARel ρ (fs ++ c.args.map a.eval ++ cs) (fs' ++ c.args.map ar.eval ++ cs') := by
    have happ : ∀ {x x' y y' : Array Value}, ARel ρ x x' → ARel ρ y y' → ARel ρ (x ++ y) (x' ++ y') := by
      intro x x' y y' hx hy
      have := (LRel.of_arr hx).append (LRel.of_arr hy)
      have := ARel.of_list this
      rwa [show (x.toList ++ y.toList).toArray = x ++ y from Array.ext' (by simp), show (x'.toList ++ y'.toList).toArray = x' ++ y' from Array.ext' (by simp)] at this
    refine happ (happ ⟨z1, z2⟩ (.of (by simp) (fun i u hu => ?_))) ⟨z3, z4⟩
    rw [Array.getElem?_map] at hu ⊢
    obtain ⟨x, k1, rfl⟩ := Option.map_eq_some_iff.mp hu
    exact ⟨_, by rw [k1]; rfl, hrel x (by simp [ho, Op.operands, Call.operands]; exact .inr (Array.mem_of_getElem? k1))⟩
  have hnb : fn.body.isNone = false := by cases hb : fn.body <;> simp_all
  have hrun : (execOp ar.eval o).run P w = .ok (.enter g (fs' ++ c.args.map ar.eval ++ cs')) w := by
    simp only [execOp, ho, resolve, hcal, e, Deferred.ofValue, Sem.run_bind, Sem.run_pure, Result.andThen_ok, invoke, callFunc, program, Sem.run, hfn, hname, hnb, if_false, Bool.false_eq_true]
  refine ⟨fun f _ => fen_fn rr f, ?_⟩
  rw [Oper.semAt_eq _ _ _ (fun c' hc' => by rw [ho] at hc'; cases hc'), hrun]
  refine ⟨(fun hd => by rw [fen_depth] at hd; cases hd), calls_fen ((hcall.run ρ w _ hargs hm hfr).mono ?_)⟩
  rintro e w' ⟨ρ', v', rfl, s, m, hv⟩
  exact hK v' ρ' w' s m hv

/-- What a round's way out leaves pending. -/
def Jump : Exit → Option Code → Prop
  | .normal, j => j = none
  | .ret, j => j = some .ret
  | .exit id, j => j = some (.exit id)
  | .goto t, j => j = some (.goto t)
  | _, _ => False
/-- A round of the loop l, called with args. -/
structure IRound (P : Program) (l : Nat) (args : Array Value) (h : IHeap) (v : Value) (h' : IHeap) : Prop where
  grow : Grow h h'
  ex : ∃ (L : Loop) (a1 : Act) (h1 : IHeap) (L1 : Loop) (e : Exit) (a2 : Act) (h2 : IHeap) (L2 : Loop) (j : Option Code), h.get l = some (.loop L) ∧ args.size = L.params.size ∧
    IExec P (some l) L.assign { tmps := (L.params.zip args).foldl (fun tmps (t, x) => tmps.setIfInBounds t x) L.tmps, defers := [] } h .normal a1 h1 ∧
    h1.get l = some (.loop L1) ∧ L1.state = .ready ∧ IExec P (some l) L.body a1 (h1.set l (.loop { L1 with state := .busy })) e a2 h2 ∧ h2.get l = some (.loop L2) ∧
    Jump e j ∧
    h' = h2.set l (.loop { L2 with state := if j.isNone then .ready else .done, pending := j }) ∧ v = .bool j.isNone

theorem loop_get {ρ : Rho} {w : World} {l : Nat} {L : Loop} {R : Ren} (hm : Models ρ h w) (hg : h.get l = some (.loop L)) (hR : ρ l = some R) : ∃ L', w.heap[R.block]? = some (.loop L') ∧ LoopRel ρ L L' := by
  obtain ⟨ob, hb, hor⟩ := hm.obj l R _ hg hR
  cases hor with
  | loop hl => exact ⟨_, hb, hl⟩
/-- The loop's record is set. -/
theorem loop_set {ρ : Rho} {w : World} {l : Nat} {L M M' : Loop} {R : Ren} (hm : Models ρ h w) (hg : h.get l = some (.loop L)) (hR : ρ l = some R) (hM : LoopRel ρ M M') :
    Step ρ h w ρ (h.set l (.loop M)) { w with heap := w.heap.setIfInBounds R.block (.loop M') } ∧ Models ρ (h.set l (.loop M)) { w with heap := w.heap.setIfInBounds R.block (.loop M') } := by
  have hlt := hm.lt l R hR
  refine hm.write (w' := { w with heap := w.heap.setIfInBounds R.block (.loop M') }) hg rfl (by simp) hR (by simp) rfl rfl rfl (ob := .loop M') (by simp [Array.getElem?_setIfInBounds, hlt]) (.loop hM) (fun b' hb' => ?_)
  show (w.heap.setIfInBounds R.block (.loop M'))[b']? = _
  rw [Array.getElem?_setIfInBounds, if_neg (fun e => hb' e.symm)]
theorem run_getLoop {w : World} {b : Nat} {L : Loop} (hb : w.heap[b]? = some (.loop L)) : (Instr.getLoop b).run P w = .ok L w := by
  simp [Instr.getLoop, Sem.run_bind, getObj, Sem.run, hb]
theorem run_setLoop {w : World} {b : Nat} {L M : Loop} (hb : w.heap[b]? = some (.loop L)) : (setObj b (.loop M)).run P w = .ok () { w with heap := w.heap.setIfInBounds b (.loop M) } := by
  simp [setObj, Sem.run, hb]

theorem fold_rel {ρ : Rho} : ∀ (l : List (Tmp × Value)) (l' : List (Tmp × Value)) (A A' : Array Value), PRel ρ l l' → (A.size = A'.size ∧ ∀ i, VRel ρ (A.getD i undef) (A'.getD i undef)) →
    ((l.foldl (fun tmps (t, x) => tmps.setIfInBounds t x) A).size = (l'.foldl (fun tmps (t, x) => tmps.setIfInBounds t x) A').size ∧ ∀ i, VRel ρ ((l.foldl (fun tmps (t, x) => tmps.setIfInBounds t x) A).getD i undef) ((l'.foldl (fun tmps (t, x) => tmps.setIfInBounds t x) A').getD i undef)) := by
  intro l l' A A' h
  induction h generalizing A A' with
  | nil => exact fun h => h
  | cons hv _ ih =>
    rename_i t v v' l l' _
    intro hA
    simp only [List.foldl_cons]
    refine ih _ _ ⟨by simp [hA.1], fun i => ?_⟩
    have h1 := put_get ⟨A, []⟩ (some t) v i
    have h2 := put_get ⟨A', []⟩ (some t) v' i
    simp only [Act.put] at h1 h2
    rw [h1, h2]
    by_cases e : some t = some i ∧ i < A.size
    · rw [if_pos e, if_pos ⟨e.1, by rw [← hA.1]; exact e.2⟩]; exact hv
    · rw [if_neg e, if_neg (fun x => e ⟨x.1, by rw [hA.1]; exact x.2⟩)]; exact hA.2 i
theorem zip_rel {ρ : Rho} : ∀ (ps : List Tmp) (xs xs' : List Value), LRel ρ xs xs' → PRel ρ (ps.zip xs) (ps.zip xs')
  | [], _, _, _ => .nil
  | p :: ps, [], xs', h => by
    have : xs' = [] := List.eq_nil_of_length_eq_zero h.1.symm
    subst this; exact .nil
  | p :: ps, x :: xs, xs', h => by
    cases xs' with
    | nil => exact absurd h.1 (by simp)
    | cons x' xs' =>
      obtain ⟨y, h1, h2⟩ := h.2 0 x rfl
      simp at h1
      subst h1
      exact .cons h2 (zip_rel ps xs xs' ⟨by simpa using h.1, fun i v hv => by simpa using h.2 (i + 1) v (by simpa using hv)⟩)

/-- yield is called. -/
theorem HOp.yield {c : Call} {f : Operand} {l : Nat} (ho : o.op = .call c) (hcal : c.callee = .value f) (hf : a.eval f = .func (.yield l) #[] #[]) (hcall : IRound P l (c.args.map a.eval) h v h') : HOp P rd o a h v h' := by
  intro ρ w ar rr hrd hm hfr hrel K Q hK
  have gf := hrel f (by simp [ho, Op.operands, Call.operands, hcal])
  rw [hf] at gf
  obtain ⟨R, hR, e⟩ := gf.yld_inv
  obtain ⟨L, a1, h1, L1, ex, a2, h2, L2, j, q1, q2, q3, q4, q5, q6, q7, q8, rfl, rfl⟩ := hcall.ex
  obtain ⟨L', hb, hl⟩ := loop_get hm q1 hR
  have hargs : ARel ρ (c.args.map a.eval) (c.args.map ar.eval) := by
    refine .of (by simp) (fun i u hu => ?_)
    rw [Array.getElem?_map] at hu ⊢
    obtain ⟨x, k1, rfl⟩ := Option.map_eq_some_iff.mp hu
    exact ⟨_, by rw [k1]; rfl, hrel x (by simp [ho, Op.operands, Call.operands]; exact .inr (Array.mem_of_getElem? k1))⟩
  have hsz : (c.args.map ar.eval).size = L'.params.size := by rw [← hl.params, ← q2]; simp
  have hrun : (execOp ar.eval o).run P w = .ok (.round R.block L'.fn ((L'.params.zip (c.args.map ar.eval)).foldl (fun tmps (t, x) => tmps.setIfInBounds t x) L'.tmps) L'.assign L'.body) w := by
    have hne : ¬ ((c.args.map ar.eval).size ≠ L'.params.size) := fun h => h hsz
    simp only [execOp, ho, resolve, hcal, e, Deferred.ofValue, Sem.run_bind, Sem.run_pure, Result.andThen_ok, invoke, Instr.yield, run_getLoop hb, if_neg hne, Array.empty_append]
  refine ⟨fun f _ => fen_fn rr f, ?_⟩
  rw [Oper.semAt_eq _ _ _ (fun c' hc' => by rw [ho] at hc'; cases hc'), hrun]
  refine ⟨(fun hd => by rw [fen_depth] at hd; cases hd), ?_⟩
  have g1 := q3.grow
  have g2 := q6.grow
  have hs2 : (h1.set l (.loop { L1 with state := .busy })).size = h1.size := rfl
  refine roundIn_of_wpIn (fen_fn rr _) ?_
  have hF : (fen rr).inRound R.block = fen (some R.block) := by cases rr <;> rfl
  rw [hF]
  have hact0 : ActRel ρ { tmps := (L.params.zip (c.args.map a.eval)).foldl (fun tmps (t, x) => tmps.setIfInBounds t x) L.tmps, defers := [] } { tmps := (L'.params.zip (c.args.map ar.eval)).foldl (fun tmps (t, x) => tmps.setIfInBounds t x) L'.tmps, defers := [] } := by
    have := fold_rel (ρ := ρ) _ _ L.tmps L'.tmps (zip_rel L.params.toList _ _ (.of_arr hargs)) hl.tmps
    rw [← hl.params]
    refine ⟨?_, fun t => ?_, [], rfl, [], rfl, fun k b hk => by simp at hk, rfl⟩
    · rw [← Array.foldl_toList, ← Array.foldl_toList, Array.toList_zip, Array.toList_zip]
      exact this.1
    · rw [← Array.foldl_toList, ← Array.foldl_toList, Array.toList_zip, Array.toList_zip]
      exact this.2 t
  have hfs : h1.size ≤ h2.size := by have := g2.size; rw [hs2] at this; exact this
  rw [← hl.assign, ← hl.body]
  refine q3.run ρ w _ (some R.block) ⟨R, hR, rfl⟩ hm (hfr.left hfs) hact0 _ ?_
  rintro ar1 w1 ⟨ρ1, s1, m1, r1⟩
  have hR1 := s1.le (hfr.left hfs) l R hR
  obtain ⟨L1', hb1, hl1⟩ := loop_get m1 q4 hR1
  have hst : L1'.state = .ready := by rw [← hl1.state]; exact q5
  have hM : LoopRel ρ1 { L1 with state := .busy } { L1' with state := .busy } := ⟨rfl, hl1.pending, hl1.params, hl1.assign, hl1.body, hl1.tmps, hl1.defers⟩
  obtain ⟨s2, m2⟩ := loop_set m1 q4 hR1 hM
  show ∃ w₂, (Instr.beginRound R.block).run P w1 = .ok () w₂ ∧ _
  refine ⟨{ w1 with heap := w1.heap.setIfInBounds R.block (.loop { L1' with state := .busy }) }, ?_, ?_⟩
  · simp only [Instr.beginRound, Sem.run_bind, run_getLoop hb1, Result.andThen_ok, run_setLoop hb1, hst]
    rfl
  · have hfr2 : Fresh ρ1 (h1.set l (.loop { L1 with state := .busy })).size h2.size := by
      have := Fresh.right (h'' := h2) hfr s1
      exact this
    refine q6.run ρ1 _ ar1 (some R.block) ⟨R, hR1, rfl⟩ m2 hfr2 r1 _ ?_
    rintro ar2 w2 ⟨ρ2, s3, m3, r3⟩
    have hR2 := s3.le hfr2 l R hR1
    obtain ⟨L2', hb2, hl2⟩ := loop_get m3 q7 hR2
    have hM2 : LoopRel ρ2 { L2 with state := if j.isNone then .ready else .done, pending := j } { L2' with state := if j.isNone then .ready else .done, pending := j } := ⟨rfl, rfl, hl2.params, hl2.assign, hl2.body, hl2.tmps, hl2.defers⟩
    obtain ⟨s4, m4⟩ := loop_set m3 q7 hR2 hM2
    have hend : (Instr.endRound R.block j).run P w2 = .ok (.bool j.isNone) { w2 with heap := w2.heap.setIfInBounds R.block (.loop { L2' with state := if j.isNone then .ready else .done, pending := j }) } := by
      simp only [Instr.endRound, Sem.run_bind, run_getLoop hb2, Result.andThen_ok, run_setLoop hb2]
      rfl
    have hfin := hK (.bool j.isNone) ρ2 _ (((s1.trans s2).trans s3).trans s4) m4 (.base rfl)
    cases ex with
    | normal => obtain rfl : j = none := q8; exact ⟨_, _, hend, hfin⟩
    | ret => obtain rfl : j = some .ret := q8; exact ⟨_, _, hend, hfin⟩
    | exit id => obtain rfl : j = some (.exit id) := q8; exact ⟨_, _, hend, hfin⟩
    | goto t => obtain rfl : j = some (.goto t) := q8; exact ⟨_, _, hend, hfin⟩
    | panic ch => exact q8.elim
    | outgrown => exact q8.elim
end
end Go.Proofs.Ytfgaggpfdckggaa.Ideal
