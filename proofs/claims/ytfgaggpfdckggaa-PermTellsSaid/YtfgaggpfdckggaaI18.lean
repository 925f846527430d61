/- Ranges over functions. -/
import Derived.Test.YtfgaggpfdckggaaI17
noncomputable section
namespace Go.Proofs.Ytfgaggpfdckggaa.Ideal
set_option linter.unusedVariables false
set_option linter.unusedSimpArgs false
set_option linter.unnecessarySimpa false

section
variable {P : Program} {rd : Option Nat} {a a' : Act} {h h' : IHeap} {e : Exit}

/-- The record of a loop that is entered. -/
def newLoop (a : Act) (ps : Array Tmp) (assign body : Code) (b : Nat) : Loop := { state := .ready, pending := none, fn := 0, tmps := a.tmps, params := ps, assign, body, defers := b }
/-- What is pending when the loop has ended. -/
def goesOn (P : Program) (rd : Option Nat) (j : Option Code) (a : Act) (h : IHeap) (e : Exit) (a' : Act) (h' : IHeap) : Prop :=
  match j with
  | none => e = .normal ∧ a' = a ∧ h' = h
  | some c => IExec P rd c a h e a' h'

theorem range_tail {f : FuncId} {fs cs fs' cs' : Array Value} {fn : Func} {l : Nat} {R : Ren} {v : Value} {h2 h3 : IHeap} {L3 : Loop} {ρ2 : Rho} {w2 : World} {a1 ar1 : Act} {rr : Option Nat} {Q : Exit → Act → World → Prop}
    (hfn : P.funcs[f]? = some fn) (hcall : ICall P f (fs ++ #[.func (.yield l) #[] #[]] ++ cs) h2 v h3) (hg3 : h3.get l = some (.loop L3)) (hst : L3.state ≠ .busy) {j : Option Code} (hj : L3.pending = j) (hgo : goesOn P rd j a1 (h3.set l (.loop { L3 with state := .exhausted })) e a' h')
    (hrd : RdRel ρ2 rd rr) (hm : Models ρ2 h2 w2) (hfr : Fresh ρ2 h2.size h'.size) (hact : ActRel ρ2 a1 ar1) (hR : ρ2 l = some R) (hfs : ARel ρ2 fs fs') (hcs : ARel ρ2 cs cs') (hQ : ∀ ar' w', After ρ2 h2 w2 a' h' ar' w' → Q e ar' w') :
    CallsIn (fen rr) (0 - 1) P f (fs' ++ #[.func (.yield R.block) #[] #[]] ++ cs') w2 (rangePost (fen rr) 0 P R.block Q ar1) := by
  have hgrow : Grow (h3.set l (.loop { L3 with state := .exhausted })) h' := by
    unfold goesOn at hgo
    split at hgo
    · obtain ⟨_, _, rfl⟩ := hgo; exact Grow.refl _
    · exact hgo.grow
  have hs3 : h3.size ≤ h'.size := hgrow.size
  have happ : ∀ {x x' y y' : Array Value}, ARel ρ2 x x' → ARel ρ2 y y' → ARel ρ2 (x ++ y) (x' ++ y') := by
    intro x x' y y' hx hy
    have := (LRel.of_arr hx).append (LRel.of_arr hy)
    have := ARel.of_list this
    rwa [show (x.toList ++ y.toList).toArray = x ++ y from Array.ext' (by simp), show (x'.toList ++ y'.toList).toArray = x' ++ y' from Array.ext' (by simp)] at this
  have hy : ARel ρ2 #[.func (.yield l) #[] #[]] #[.func (.yield R.block) #[] #[]] := .of rfl (fun i u hu => by
    match i, hu with
    | 0, hu => simp at hu; subst hu; exact ⟨_, rfl, .yld hR⟩
    | i + 1, hu => simp at hu)
  refine calls_fen ((hcall.run ρ2 w2 _ (happ (happ hfs hy) hcs) hm (hfr.left hs3)).mono ?_)
  rintro e' w3 ⟨ρ3, v', rfl, s, m, hv⟩
  have hle := s.le (hfr.left hs3)
  have hR3 := hle l R hR
  obtain ⟨L', hb, hl⟩ := loop_get m hg3 hR3
  have hst' : (L'.state == LoopState.busy) = false := by
    rw [← hl.state]
    cases hs : L3.state <;> first | rfl | exact absurd hs hst
  have hM : LoopRel ρ3 { L3 with state := .exhausted } { L' with state := .exhausted } := ⟨rfl, hl.pending, hl.params, hl.assign, hl.body, hl.tmps, hl.defers⟩
  obtain ⟨s4, m4⟩ := loop_set m hg3 hR3 hM
  have hj' : L'.pending = j := by rw [← hl.pending, hj]
  refine ⟨j, { w3 with heap := w3.heap.setIfInBounds R.block (.loop { L' with state := .exhausted }) }, ?_, ?_⟩
  · simp only [Instr.endLoop, Sem.run_bind, run_getLoop hb, Result.andThen_ok, hst', if_false, Bool.false_eq_true, run_setLoop hb]
    exact congrArg (fun x => Result.ok x _) hj'
  · have s34 := s.trans s4
    have hact3 := hact.mono hle
    unfold goesOn at hgo
    cases j with
    | none =>
      obtain ⟨rfl, rfl, rfl⟩ := hgo
      exact hQ _ _ ⟨ρ3, s34, m4, hact3⟩
    | some c =>
      refine hgo.run ρ3 _ ar1 rr (hrd.mono hle) m4 ?_ hact3 Q ?_
      · exact Fresh.right (h'' := h') hfr s34
      · rintro ar' w' ⟨ρ4, s5, m5, r5⟩
        exact hQ _ _ ⟨ρ4, s34.trans s5, m5, r5⟩

/-- 'for .. := range g', in a function's own frame. -/
theorem IExec.rangeFunc {g : Operand} {ps : Array Tmp} {assign body : Code} {f : FuncId} {fs cs : Array Value} {fn : Func} {v : Value} {h3 : IHeap} {L3 : Loop} (hg : operandOk g = true) (hgf : a.eval g = .func (.func f) fs cs) (hfn : P.funcs[f]? = some fn) (hname : (fn.name == "runtime.NumGoroutine") = false) (hbody : fn.body.isSome = true)
    (hcall : ICall P f (fs ++ #[.func (.yield (h.size + 1)) #[] #[]] ++ cs) ((h.push .defs).push (.loop (newLoop a ps assign body h.size))) v h3) (hg3 : h3.get (h.size + 1) = some (.loop L3)) (hst : L3.state ≠ .busy) {j : Option Code} (hj : L3.pending = j)
    (hgo : goesOn P none j { a with defers := markOf h.size :: a.defers } (h3.set (h.size + 1) (.loop { L3 with state := .exhausted })) e a' h') : IExec P none (.rangeFunc g ps assign body) a h e a' h' := by
  have hgrow : Grow (h3.set (h.size + 1) (.loop { L3 with state := .exhausted })) h' := by
    unfold goesOn at hgo
    split at hgo
    · obtain ⟨_, _, rfl⟩ := hgo; exact Grow.refl _
    · exact hgo.grow
  have hg3' : Grow h3 (h3.set (h.size + 1) (.loop { L3 with state := .exhausted })) := Grow.set hg3 rfl (by simp)
  have gall := ((Grow.push h .defs).trans (Grow.push (h.push .defs) (.loop (newLoop a ps assign body h.size)))).trans (hcall.grow.trans (hg3'.trans hgrow))
  have hsz2 : ((h.push .defs).push (.loop (newLoop a ps assign body h.size))).size = h.size + 2 := rfl
  have hs' : h.size + 2 ≤ h'.size := by have := (hcall.grow.trans (hg3'.trans hgrow)).size; rw [hsz2] at this; exact this
  refine ⟨gall, fun ρ w ar rr hrd hm hfr hact Q hQ => ?_⟩
  have hrr : rr = none := by
    cases rr with
    | none => rfl
    | some l => exact hrd.elim
  subst hrr
  have hf0 : ρ h.size = none := hfr _ (Nat.le_refl _) (by omega)
  have gf := operand_rel hact hg
  rw [hgf] at gf
  obtain ⟨fs', cs', egf, z1, z2, z3, z4⟩ := gf.fn_inv
  have hnb : fn.body.isNone = false := by cases hb : fn.body <;> simp_all
  -- the two new blocks
  let R0 : Ren := ⟨w.heap.size, 0, 0, 0⟩
  let wa : World := { w with heap := w.heap.push (.deferred (some [])) }
  obtain ⟨s1, m1⟩ := hm.push (w' := wa) (R := R0) hf0 rfl rfl rfl rfl rfl ORel.defs
  have hf1 : (ρ.upd h.size R0) (h.push .defs).size = none := by
    unfold Rho.upd
    rw [if_neg (by simp)]
    exact hfr _ (by simp) (by simp; omega)
  have hle1 := upd_le (R := R0) hf0
  have hact1 := hact.mono hle1
  refine wpIn_rangeFunc (fun fn0 _ => ?_)
  let Lr : Loop := { state := .ready, pending := none, fn := fn0, tmps := ar.tmps, params := ps, assign, body, defers := w.heap.size }
  let wb : World := { wa with heap := wa.heap.push (.loop Lr) }
  let R1 : Ren := ⟨wa.heap.size, 0, 0, 0⟩
  have hle2 := upd_le (R := R1) hf1
  obtain ⟨s2, m2⟩ := m1.push (w' := wb) (R := R1) hf1 rfl rfl rfl rfl rfl (n := .loop (newLoop a ps assign body h.size)) (ob := .loop Lr) (.loop ⟨rfl, rfl, rfl, rfl, rfl, ⟨hact.size, fun t => ((hact1.tmp t).mono hle2)⟩, R0, hle2 _ _ (upd_same _ _ _), rfl⟩)
  have hs12 := s1.trans s2
  have hlt : w.heap.size < wa.heap.size := by simp [wa]
  refine ⟨wa.heap.size, [{ target := .collected w.heap.size, args := #[] }], wb, { target := .fn (.func f) cs', args := fs' ++ #[.func (.yield wa.heap.size) #[] #[]] }, wb, f, fs' ++ #[.func (.yield wa.heap.size) #[] #[]] ++ cs', wb, ?_, ?_, fun f' _ => fen_fn _ f', ?_, (fun hd => by rw [fen_depth] at hd; cases hd), ?_⟩
  · show (Instr.enterLoop fn0 ar.tmps ps assign body none).run P w = _
    simp [Instr.enterLoop, Sem.run_bind, newObj, Sem.run, wa, wb, Lr]
  · simp only [resolve, rangeCall, egf, Deferred.ofValue]
    simp [Act.eval]
  · simp only [invoke, callFunc, program, Sem.run_bind, Sem.run, Sem.run_pure, Result.andThen_ok, hfn, hname, hnb, if_false, Bool.false_eq_true]
  · refine range_tail (R := R1) (rd := none) hfn hcall hg3 hst hj hgo trivial m2 ?_ ?_ (upd_same _ _ _) (ARel.of z1 ?_) (ARel.of z3 ?_) ?_
    · intro i x y
      rw [hsz2] at x
      unfold Rho.upd
      rw [if_neg (by simp; omega), if_neg (by omega)]
      exact hfr i (by omega) y
    · have hact2 := hact1.mono hle2
      refine ⟨hact2.size, hact2.tmp, ?_⟩
      obtain ⟨bs, e1, rs, e2, e3, e4⟩ := hact2.dfr
      refine ⟨h.size :: bs, by simp [e1, markOf], R0 :: rs, by simp [e2], fun k b hk => ?_, by simp [e4, R0]⟩
      cases k with
      | zero => simp at hk; subst hk; exact ⟨R0, rfl, hle2 _ _ (upd_same _ _ _)⟩
      | succ k => simpa using e3 k b (by simpa using hk)
    · intro i u hu
      obtain ⟨v', k1, k2⟩ := get_rel z1 z2 hu
      exact ⟨v', k1, (k2.mono hle1).mono hle2⟩
    · intro i u hu
      obtain ⟨v', k1, k2⟩ := get_rel z3 z4 hu
      exact ⟨v', k1, (k2.mono hle1).mono hle2⟩
    · rintro ar' w' ⟨ρ', s, m, r⟩
      exact hQ _ _ ⟨ρ', hs12.trans s, m, r⟩
end
end Go.Proofs.Ytfgaggpfdckggaa.Ideal
