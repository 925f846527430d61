/- The function on code is sound. -/
import Derived.Test.YtfgaggpfdckggaaI19
noncomputable section
namespace Go.Proofs.Ytfgaggpfdckggaa.Ideal
set_option linter.unusedVariables false
set_option linter.unusedSimpArgs false
set_option linter.unnecessarySimpa false

/-- A step that makes no loops, and leaves those that are. -/
theorem HOk.push {h : IHeap} (hk : HOk h) {o : IObj} (ho : ∀ L, o = .loop L → codeOk L.assign = true ∧ codeOk L.body = true) : HOk (h.push o) := by
  intro i L hg
  rw [IHeap.get_push] at hg
  split at hg
  · exact ho L (Option.some.inj hg)
  · exact hk i L hg
theorem HOk.set {h : IHeap} (hk : HOk h) {i : Nat} {o : IObj} (hi : i < h.size) (ho : ∀ L, o = .loop L → codeOk L.assign = true ∧ codeOk L.body = true) : HOk (h.set i o) := by
  intro j L hg
  rw [IHeap.get_set _ _ _ _ hi] at hg
  split at hg
  · exact ho L (Option.some.inj hg)
  · exact hk j L hg

theorem icopy_grow {P : Program} {t : TypeId} {d x v : Value} {h h' : IHeap} (hu : icopy P h t d x = some (v, h')) (hk : HOk h) : Grow h h' ∧ HOk h' := by
  unfold icopy at hu
  split at hu
  · cases hu
  split at hu
  · cases hu
  split at hu
  · cases hu; exact ⟨Grow.refl _, hk⟩
  · split at hu
    · cases hu; exact ⟨Grow.refl _, hk⟩
    · split at hu
      · rename_i esz cs hg
        split at hu
        · cases hu
          exact ⟨Grow.set hg rfl (by simp), hk.set (IHeap.get_lt hg) (fun L e => by cases e)⟩
        · cases hu
      · cases hu
  · cases hu; exact ⟨Grow.refl _, hk⟩
  · cases hu
theorem iupdate_grow {P : Program} {t : TypeId} {x k u : Value} {h h' : IHeap} (hu : iupdate P h t x k u = some h') (hk : HOk h) : Grow h h' ∧ HOk h' := by
  unfold iupdate at hu
  split at hu
  · split at hu
    · rename_i es ck hg
      split at hu
      · split at hu
        · split at hu
          · split at hu
            · cases hu
              exact ⟨Grow.set hg rfl (by simp), hk.set (IHeap.get_lt hg) (fun L e => by cases e)⟩
            · cases hu
          · cases hu
        · cases hu
          exact ⟨Grow.set hg rfl (by simp), hk.set (IHeap.get_lt hg) (fun L e => by cases e)⟩
        · cases hu
      · cases hu
    · cases hu
  · cases hu
theorem idelete_grow {P : Program} {t : TypeId} {x k : Value} {h h' : IHeap} (hu : idelete P h t x k = some h') (hk : HOk h) : Grow h h' ∧ HOk h' := by
  unfold idelete at hu
  split at hu
  · split at hu
    · rename_i es ck hg
      split at hu
      · split at hu
        · cases hu
          exact ⟨Grow.set hg rfl (by simp), hk.set (IHeap.get_lt hg) (fun L e => by cases e)⟩
        · cases hu
          exact ⟨Grow.set hg rfl (by simp), hk.set (IHeap.get_lt hg) (fun L e => by cases e)⟩
        · cases hu
      · cases hu
    · cases hu
  · cases hu
theorem irange_grow {P : Program} {t : TypeId} {x v : Value} {h h' : IHeap} (hu : irange P h t x = some (v, h')) (hk : HOk h) : Grow h h' ∧ HOk h' := by
  unfold irange at hu
  split at hu
  · rw [pushH_eq] at hu
    cases hu
    exact ⟨Grow.push _ _, hk.push (fun L e => by cases e)⟩
  · split at hu
    · rw [pushH_eq] at hu
      cases hu
      exact ⟨Grow.push _ _, hk.push (fun L e => by cases e)⟩
    · cases hu
  · cases hu
theorem inext_grow {x v : Value} {h h' : IHeap} (hu : inext h x = some (v, h')) (hk : HOk h) : Grow h h' ∧ HOk h' := by
  unfold inext at hu
  split at hu
  · split at hu
    · cases hu; exact ⟨Grow.refl _, hk⟩
    · rename_i m since seen last hg
      split at hu
      · split at hu
        · cases hu
        · split at hu
          · cases hu; exact ⟨Grow.refl _, hk⟩
          · split at hu
            · rw [setH_eq] at hu
              cases hu
              exact ⟨Grow.set hg rfl (by simp), hk.set (IHeap.get_lt hg) (fun L e => by cases e)⟩
            · cases hu
          · cases hu
      · cases hu
    · cases hu
  · cases hu
theorem iop_grow {P : Program} {a : Act} {o : Oper} {h h' : IHeap} {v : Value} {c : Cls} (hi : iop P a.eval o h = some (v, h', c)) (hk : HOk h) : Grow h h' ∧ HOk h' := by
  have pure_case : ∀ {r}, (ipure P a.eval o).map (fun v => (v, h, Cls.pure)) = some r → r = (v, h', c) → Grow h h' ∧ HOk h' := by
    intro r hr e
    obtain ⟨u, hu, rfl⟩ := Option.map_eq_some_iff.mp hr
    cases e
    exact ⟨Grow.refl _, hk⟩
  unfold iop at hi
  split at hi
  · unfold iload at hi
    split at hi
    · split at hi
      · obtain ⟨u, hu, e⟩ := Option.map_eq_some_iff.mp hi
        cases e
        exact ⟨Grow.refl _, hk⟩
      · cases hi
    · cases hi
  · unfold istore at hi
    split at hi
    · split at hi
      · rename_i esz cs n hg hs
        split at hi
        · rw [forceL_eq, setH_eq] at hi
          cases hi
          exact ⟨Grow.set hg rfl (by simp), hk.set (IHeap.get_lt hg) (fun L e => by cases e)⟩
        · cases hi
      · cases hi
    · cases hi
  · rw [pushH_eq] at hi
    cases hi
    exact ⟨Grow.push _ _, hk.push (fun L e => by cases e)⟩
  · unfold ialloc at hi
    split at hi
    · rw [pushH_eq] at hi
      cases hi
      exact ⟨Grow.push _ _, hk.push (fun L e => by cases e)⟩
    · cases hi
  · unfold ibuildSlice at hi
    split at hi
    · split at hi
      · split at hi
        · obtain ⟨out, hf, e⟩ := Option.bind_eq_some_iff.mp hi
          rw [pushH_eq] at e
          cases e
          exact ⟨Grow.push _ _, hk.push (fun L e => by cases e)⟩
        · cases hi
      · cases hi
    · cases hi
  · unfold imakeSlice at hi
    split at hi
    · split at hi
      · split at hi
        · rw [pushH_eq] at hi
          cases hi
          exact ⟨Grow.push _ _, hk.push (fun L e => by cases e)⟩
        · cases hi
      · cases hi
    · cases hi
  · rw [pushH_eq] at hi
    cases hi
    exact ⟨Grow.push _ _, hk.push (fun L e => by cases e)⟩
  · split at hi
    · rename_i r hr
      cases hi
      unfold islice at hr
      split at hr
      · split at hr
        · split at hr
          · cases hr
            exact ⟨Grow.refl _, hk⟩
          · cases hr
        · cases hr
      · cases hr
    · exact pure_case hi rfl
  · unfold icall at hi
    split at hi
    · obtain ⟨⟨u, hu'⟩, hu, e⟩ := Option.map_eq_some_iff.mp hi
      cases e
      unfold iappend at hu
      split at hu
      · cases hu
      split at hu
      case h_2 => cases hu
      split at hu
      case h_1 => cases hu
      split at hu
      case isFalse => cases hu
      split at hu
      · split at hu
        · cases hu; exact ⟨Grow.refl _, hk⟩
        · split at hu
          · cases hu; exact ⟨Grow.push _ _, hk.push (fun L e => by cases e)⟩
          · cases hu
      · split at hu
        · cases hu; exact ⟨Grow.refl _, hk⟩
        · split at hu
          · cases hu; exact ⟨Grow.push _ _, hk.push (fun L e => by cases e)⟩
          · cases hu
      · split at hu
        · split at hu
          · cases hu; exact ⟨Grow.refl _, hk⟩
          · split at hu
            · rename_i esz cs hg
              split at hu
              · cases hu
                exact ⟨Grow.set hg rfl (by simp), hk.set (IHeap.get_lt hg) (fun L e => by cases e)⟩
              · cases hu
            · cases hu
        · split at hu
          · split at hu
            · rename_i esz cs hg
              split at hu
              · obtain ⟨olds, hsl, he⟩ := Option.map_eq_some_iff.mp hu
                cases he
                exact ⟨(Grow.set hg rfl (by simp)).trans (Grow.push _ _), (hk.set (IHeap.get_lt hg) (fun L e => by cases e)).push (fun L e => by cases e)⟩
              · cases hu
            · cases hu
          · cases hu
      · cases hu
    · obtain ⟨⟨u, hu'⟩, hu, e⟩ := Option.map_eq_some_iff.mp hi
      cases e
      exact icopy_grow hu hk
    · obtain ⟨u, hu, e⟩ := Option.map_eq_some_iff.mp hi
      cases e
      exact idelete_grow hu hk
    · split at hi
      · split at hi
        · cases hi; exact ⟨Grow.refl _, hk⟩
        · cases hi
      · exact pure_case hi rfl
    · exact pure_case hi rfl
  · obtain ⟨⟨u, r⟩, hu, e⟩ := Option.map_eq_some_iff.mp hi
    cases e
    exact ⟨Grow.refl _, hk⟩
  · obtain ⟨u, hu, e⟩ := Option.map_eq_some_iff.mp hi
    cases e
    exact iupdate_grow hu hk
  · obtain ⟨u, hu, e⟩ := Option.map_eq_some_iff.mp hi
    cases e
    exact iupdate_grow hu hk
  · rename_i src dst x ho
    split at hi
    · rename_i hc
      cases hi
      have := icvt_ok ho hc
      dsimp only at this
      obtain ⟨n, a1, a2, a3, a4⟩ := this
      subst a3
      exact ⟨Grow.push _ _, hk.push (fun L e => absurd e (a2 L))⟩
    · rename_i hc
      cases hi
      have := icvt_ok ho hc
      rw [this.1]
      exact ⟨Grow.refl _, hk⟩
    · rename_i hc
      cases hi
      have := icvt_ok ho hc
      rw [this.1]
      exact ⟨Grow.refl _, hk⟩
    · exact pure_case hi rfl
  · obtain ⟨⟨u, hu'⟩, hu, e⟩ := Option.map_eq_some_iff.mp hi
    cases e
    exact irange_grow hu hk
  · obtain ⟨⟨u, hu'⟩, hu, e⟩ := Option.map_eq_some_iff.mp hi
    cases e
    exact inext_grow hu hk
  · obtain ⟨u, hu, e⟩ := Option.map_eq_some_iff.mp hi
    cases e
    exact ⟨Grow.refl _, hk⟩
  · exact pure_case hi rfl

section
variable {P : Program} {okf : FuncId → Bool} {cf : FuncId → Array Value → IHeap → Option (Value × IHeap)} {rf : Nat → Array Value → IHeap → Option (Value × IHeap)}
/-- What the callees are, is sound. -/
structure Sound (P : Program) (okf : FuncId → Bool) (cf : FuncId → Array Value → IHeap → Option (Value × IHeap)) (rf : Nat → Array Value → IHeap → Option (Value × IHeap)) : Prop where
  fns : FnsOk P okf
  mixed : P.follows .mixedOrders = true
  call : ∀ f args h v h', HOk h → cf f args h = some (v, h') → ICall P f args h v h' ∧ HOk h'
  round : ∀ l args h v h', HOk h → rf l args h = some (v, h') → IRound P l args h v h' ∧ HOk h'

theorem xop_ok (s : Sound P okf cf rf) {rd : Option Nat} {all : Array Oper} {a : Act} {o : Oper} {h h' : IHeap} {v : Value} {k : Kind} (hk : HOk h) (hw : Region.wanted o (yielded all a.tmps) = true) (hx : xop P okf cf rf a.eval o h = some (v, h', k)) : KOk P rd all o a h v h' k ∧ HOk h' := by
  have plain : ∀ (hd : ∀ c, o.op ≠ .defer c), (iop P a.eval o h).map (fun (v, h', c) => (v, h', kindOf c)) = some (v, h', k) → KOk P rd all o a h v h' k ∧ HOk h' := by
    intro hd hm
    obtain ⟨⟨u, hu, c⟩, h1, e⟩ := Option.map_eq_some_iff.mp hm
    cases e
    have h2 := iop_ok h1
    obtain ⟨h3, h4⟩ := iop_grow h1 hk
    refine ⟨?_, h4⟩
    cases c with
    | pure => exact ⟨hw, hd, h2.1, h2.2⟩
    | read i => exact ⟨hw, hd, h2.1, h2.2⟩
    | alloc => obtain ⟨n, a1, a2, a3⟩ := h2; exact ⟨hw, hd, n, a1, a2, a3⟩
    | heavy => exact ⟨hw, h3, HOp.of_mem hd h2⟩
  unfold xop at hx
  unfold callee1 at hx
  split at hx
  · rename_i g args hc
    split at hx
    · rename_i hok
      obtain ⟨⟨u, hu⟩, h1, e⟩ := Option.map_eq_some_iff.mp hx
      cases e
      obtain ⟨fn, c0, e1, e2, e3, e4⟩ := s.fns g hok
      obtain ⟨h2, h3⟩ := s.call _ _ _ _ _ hk h1
      split at hc
      · rename_i c ho
        split at hc
        · rename_i f hcal
          split at hc
          · rename_i g' fs cs hf
            cases hc
            exact ⟨⟨hw, h2.grow, HOp.call ho hcal hf e1 e2 (by rw [e3]; rfl) h2⟩, h3⟩
          · split at hc <;> cases hc
          · cases hc
        · cases hc
        · cases hc
      · cases hc
      · cases hc
    · obtain ⟨u, h1, e⟩ := Option.map_eq_some_iff.mp hx
      cases e
      exact ⟨⟨hw, fun c hd => (by simp [hd] at hc), rfl, iplain_ok h1⟩, hk⟩
  · rename_i l args hc
    obtain ⟨⟨u, hu⟩, h1, e⟩ := Option.map_eq_some_iff.mp hx
    cases e
    obtain ⟨h2, h3⟩ := s.round _ _ _ _ _ hk h1
    split at hc
    · rename_i c ho
      split at hc
      · rename_i f hcal
        split at hc
        · cases hc
        · rename_i l' fs cs hf
          split at hc
          · rename_i hemp
            cases hc
            obtain ⟨rfl, rfl⟩ := hemp
            exact ⟨⟨hw, h2.grow, HOp.yield ho hcal hf h2⟩, h3⟩
          · cases hc
        · cases hc
      · cases hc
      · cases hc
    · cases hc
    · cases hc
  · rename_i hc
    refine plain (fun c hd => ?_) hx
    rw [hd] at hc
    cases hc
  · cases hx

theorem quiet_same {rd : Option Nat} {all : Array Oper} {a : Act} {o : Oper} {h h' : IHeap} {v : Value} {k : Kind} (hq : quietK k = true) (hk : KOk P rd all o a h v h' k) : h' = h := by
  cases k with
  | skip => exact hk.2.2
  | pure => exact hk.2.2.1
  | read id => exact hk.2.2.1
  | alloc => cases hq
  | heavy => cases hq

theorem xops_ok (s : Sound P okf cf rf) {rd : Option Nat} {all : Array Oper} : ∀ (os : List Oper) (e e' : XEnv) (a : Act) (h h' : IHeap) (es : List Ent), HOk h → EnvRel e a → xops P okf cf rf all os e h = some (e', h', es) → ∃ a', EnvRel e' a' ∧ OpsRun P rd all os a h es a' h' ∧ HOk h'
  | [], e, e', a, h, h', es, hk, hr, hx => by
    simp only [xops, Option.some.injEq, Prod.mk.injEq] at hx
    obtain ⟨rfl, rfl, rfl⟩ := hx
    exact ⟨a, hr, .nil, hk⟩
  | o :: os, e, e', a, h, h', es, hk, hr, hx => by
    unfold xops at hx
    rw [wantedE_eq hr] at hx
    split at hx
    · rename_i hw
      split at hx
      · rename_i v h1 k h2
        rw [← hr.ev] at h2
        obtain ⟨g1, g2⟩ := xop_ok (rd := rd) s hk hw h2
        split at hx
        · rename_i hq
          have := quiet_same hq g1
          subst this
          rw [forceV_eq, putK_eq] at hx
          split at hx
          · rename_i a2 h3 es' hrec
            cases hx
            obtain ⟨a', g3, g4, g5⟩ := xops_ok s os _ _ _ _ _ _ g2 (hr.put o.dst v) hrec
            exact ⟨a', g3, .cons g1 g4, g5⟩
          · cases hx
        · rw [forceV_eq, putK_eq] at hx
          split at hx
          · rename_i a2 h3 es' hrec
            cases hx
            obtain ⟨a', g3, g4, g5⟩ := xops_ok s os _ _ _ _ _ _ g2 (hr.put o.dst v) hrec
            exact ⟨a', g3, .cons g1 g4, g5⟩
          · cases hx
      · cases hx
    · rename_i hw
      rw [putK_eq] at hx
      split at hx
      · rename_i a2 h3 es' hrec
        cases hx
        obtain ⟨a', g3, g4, g5⟩ := xops_ok s os _ _ _ _ _ _ hk (hr.put o.dst undef) hrec
        exact ⟨a', g3, .cons (k := .skip) ⟨by simpa using hw, rfl, rfl⟩ g4, g5⟩
      · cases hx

theorem xpend_ok {rd : Option Nat} {j : Option Code} {e : Exit} {a : Act} {h : IHeap} (hx : xpend j = some e) : goesOn P rd j a h e a h := by
  unfold xpend at hx
  split at hx <;> cases hx
  · exact ⟨rfl, rfl, rfl⟩
  · exact IExec.ret
  · exact IExec.exit
  · exact IExec.goto

theorem xloop_ok {rd : Option Nat} {c : Code} {body : XEnv → IHeap → Option (Exit × XEnv × IHeap)} (hb : ∀ e h x e' h' a, HOk h → EnvRel e a → body e h = some (x, e', h') → ∃ a', EnvRel e' a' ∧ IExec P rd c a h x a' h' ∧ HOk h') : ∀ (n : Nat) (e e' : XEnv) (a : Act) (h h' : IHeap) (x : Exit), HOk h → EnvRel e a → xloop body n e h = some (x, e', h') → ∃ a', EnvRel e' a' ∧ ILoop P rd c a h x a' h' ∧ HOk h'
  | 0, _, _, _, _, _, _, _, _, hx => by cases hx
  | n + 1, e, e', a, h, h', x, hk, hr, hx => by
    unfold xloop at hx
    split at hx
    · rename_i e1 h1 hrun
      obtain ⟨a1, g0, g1, g2⟩ := hb _ _ _ _ _ _ hk hr hrun
      obtain ⟨a', g3, g4, g5⟩ := xloop_ok hb n _ _ _ _ _ _ g2 g0 hx
      exact ⟨a', g3, .more g1 g4, g5⟩
    · rename_i hne
      obtain ⟨a1, g0, g1, g2⟩ := hb _ _ _ _ _ _ hk hr hx
      exact ⟨a1, g0, .stop g1 (fun he => by subst he; exact hne _ _ hx), g2⟩

theorem xops_bad {all : Array Oper} {o : Oper} (hb : badOp o = true) : ∀ {os : List Oper}, o ∈ os → ∀ {e : XEnv} {h : IHeap}, xops P okf cf rf all os e h = none
  | [], hm, _, _ => by simp at hm
  | p :: os, hm, e, h => by
    rw [List.mem_cons] at hm
    rcases hm with rfl | hm
    · unfold badOp at hb
      simp only [Bool.and_eq_true] at hb
      obtain ⟨h1, h2⟩ := hb
      split at h1
      · rename_i x ho
        split at h2
        · rename_i hg
          have hx : xop P okf cf rf e.ev o h = none := by
            simp only [xop, callee1, ho, iop_panic ho, Option.map_none]
          simp only [xops, wantedE, hg, if_true, hx]
        · cases h2
      · cases h1
    · have ih := fun e h => xops_bad (all := all) hb hm (e := e) (h := h)
      unfold xops
      split
      · split
        · split <;> simp only [forceV_eq, putK_eq, ih]
        · rfl
      · simp only [putK_eq, ih]
theorem xcode_ok (s : Sound P okf cf rf) (n : Nat) (rd : Option Nat) : ∀ (c : Code) (e : XEnv) (h : IHeap) (x : Exit) (e' : XEnv) (h' : IHeap) (a : Act), codeOk c = true → HOk h → EnvRel e a → xcode P okf cf rf n rd c e h = some (x, e', h') → ∃ a', EnvRel e' a' ∧ IExec P rd c a h x a' h' ∧ HOk h' := by
  intro c
  induction c with
  | skip => intro e h x e' h' a hc hk hr hx; simp only [xcode, Option.some.injEq, Prod.mk.injEq] at hx; obtain ⟨rfl, rfl, rfl⟩ := hx; exact ⟨a, hr, .skip, hk⟩
  | label l => intro e h x e' h' a hc hk hr hx; simp only [xcode, Option.some.injEq, Prod.mk.injEq] at hx; obtain ⟨rfl, rfl, rfl⟩ := hx; exact ⟨a, hr, .label, hk⟩
  | exit id => intro e h x e' h' a hc hk hr hx; simp only [xcode, Option.some.injEq, Prod.mk.injEq] at hx; obtain ⟨rfl, rfl, rfl⟩ := hx; exact ⟨a, hr, .exit, hk⟩
  | goto l => intro e h x e' h' a hc hk hr hx; simp only [xcode, Option.some.injEq, Prod.mk.injEq] at hx; obtain ⟨rfl, rfl, rfl⟩ := hx; exact ⟨a, hr, .goto, hk⟩
  | ret => intro e h x e' h' a hc hk hr hx; simp only [xcode, Option.some.injEq, Prod.mk.injEq] at hx; obtain ⟨rfl, rfl, rfl⟩ := hx; exact ⟨a, hr, .ret, hk⟩
  | region id ops draw =>
    intro e h x e' h' a hc hk hr hx
    simp only [xcode] at hx
    split at hx
    · rename_i e1 h1 es hrun
      split at hx
      · rename_i hni
        cases hx
        obtain ⟨a', g0, g1, g2⟩ := xops_ok (rd := rd) s _ _ _ _ _ _ _ hk hr hrun
        have hc : regionOk ops = true := by
          simp only [codeOk, Bool.or_eq_true] at hc
          rcases hc with hc | hc
          · exact hc
          · obtain ⟨o, ho, hb⟩ := Array.any_eq_true'.1 hc
            rw [xops_bad hb (Array.mem_toList_iff.2 ho)] at hrun
            cases hrun
        refine ⟨a', g0, .region s.mixed hc g1 (fun hd => niLB_ok ?_), g2⟩
        subst hd
        simpa using hni
      · cases hx
    · cases hx
  | seq c1 c2 ih1 ih2 =>
    intro e h x e' h' a hc hk hr hx
    simp only [codeOk, Bool.and_eq_true] at hc
    simp only [xcode] at hx
    split at hx
    · rename_i e1 h1 hrun
      obtain ⟨a1, g0, g1, g2⟩ := ih1 _ _ _ _ _ _ hc.1 hk hr hrun
      obtain ⟨a2, g3, g4, g5⟩ := ih2 _ _ _ _ _ _ hc.2 g2 g0 hx
      exact ⟨a2, g3, .seq g1 g4, g5⟩
    · rename_i hne
      obtain ⟨a1, g0, g1, g2⟩ := ih1 _ _ _ _ _ _ hc.1 hk hr hx
      exact ⟨a1, g0, .seq_out g1 (fun he => by subst he; exact hne _ _ hx), g2⟩
  | cond c c1 c2 ih1 ih2 =>
    intro e h x e' h' a hc hk hr hx
    simp only [codeOk, Bool.and_eq_true] at hc
    simp only [xcode] at hx
    rw [← hr.ev] at hx
    split at hx
    · rename_i ht
      obtain ⟨a1, g0, g1, g2⟩ := ih1 _ _ _ _ _ _ hc.1.2 hk hr hx
      exact ⟨a1, g0, .cond ht hc.1.1 g1, g2⟩
    · rename_i ht
      obtain ⟨a1, g0, g1, g2⟩ := ih2 _ _ _ _ _ _ hc.2 hk hr hx
      exact ⟨a1, g0, .cond ht hc.1.1 g1, g2⟩
    · cases hx
  | block id c ih =>
    intro e h x e' h' a hc hk hr hx
    simp only [codeOk] at hc
    simp only [xcode] at hx
    obtain ⟨⟨x1, e1, h1⟩, hrun, he⟩ := Option.map_eq_some_iff.mp hx
    cases he
    obtain ⟨a1, g0, g1, g2⟩ := ih _ _ _ _ _ _ hc hk hr hrun
    exact ⟨a1, g0, .block g1, g2⟩
  | scope c ih =>
    intro e h x e' h' a hc hk hr hx
    simp only [codeOk] at hc
    simp only [xcode] at hx
    split at hx
    · cases hx
    · rename_i hng
      obtain ⟨a1, g0, g1, g2⟩ := ih _ _ _ _ _ _ hc hk hr hx
      exact ⟨a1, g0, .scope g1 (fun l hl => hng l e' h' (by rw [hx, hl])), g2⟩
  | loop c ih =>
    intro e h x e' h' a hc hk hr hx
    simp only [codeOk] at hc
    simp only [xcode] at hx
    obtain ⟨a1, g0, g1, g2⟩ := xloop_ok (rd := rd) (c := c) (fun e h x e' h' a hk hr hx => ih e h x e' h' a hc hk hr hx) n _ _ _ _ _ _ hk hr hx
    exact ⟨a1, g0, .loop g1, g2⟩
  | rangeFunc g ps assign body ihx ihy =>
    intro e h x e' h' a hc hk hr hx
    simp only [codeOk, Bool.and_eq_true] at hc
    simp only [xcode, pushH_eq, setH_eq] at hx
    have hnl : newLoopE e ps assign body h.size = newLoop a ps assign body h.size := by
      unfold newLoopE newLoop
      rw [hr.arr]
    rw [hnl, ← hr.ev] at hx
    split at hx
    · rename_i f fs cs hg
      split at hx
      · rename_i hok
        split at hx
        · rename_i u h3 hcall
          split at hx
          · rename_i L3 hg3
            split at hx
            · cases hx
            · rename_i hst
              split at hx
              · rename_i x0 hp
                cases hx
                obtain ⟨fn, c0, e1, e2, e3, e4⟩ := s.fns f hok
                have hk2 : HOk ((h.push .defs).push (.loop (newLoop a ps assign body h.size))) := (hk.push (fun L e => by cases e)).push (fun L e => by cases e; exact ⟨hc.1.2, hc.2⟩)
                obtain ⟨g1, g2⟩ := s.call _ _ _ _ _ hk2 hcall
                exact ⟨{ a with defers := markOf h.size :: a.defers }, ⟨hr.size, hr.get, by rw [hr.dfr]⟩, IExec.rangeFunc hc.1.1 hg e1 e2 (by rw [e3]; rfl) g1 hg3 hst rfl (xpend_ok hp), g2.set (IHeap.get_lt hg3) (fun L e => by cases e; exact g2 _ L3 hg3)⟩
              · cases hx
          · cases hx
        · cases hx
      · cases hx
    · cases hx
  | _ => intro e h x e' h' a hc hk hr hx; simp only [xcode] at hx; cases hx

theorem iresultsE_eq {e : XEnv} {a : Act} (r : EnvRel e a) (h : IHeap) (rs : Array ResultVar) : iresultsE P e.get h rs.toList = iresults P h rs a.tmps := by
  have h1 : ires1E P e.get h = ires1 P h a.tmps := by
    funext rv
    cases rv with
    | tmp t => simp only [ires1E, ires1, r.get]
    | cell p t => simp only [ires1E, ires1, r.get]; rfl
  unfold iresultsE iresults
  rw [h1]
  rfl
theorem marksOf_ok : ∀ {ds : List Deferred} {bs : List Nat}, marksOf ds = some bs → ds = bs.map markOf
  | [], bs, h => by simp only [marksOf, Option.some.injEq] at h; subst h; rfl
  | d :: ds, bs, h => by
    unfold marksOf at h
    split at h
    · rename_i b ht
      split at h
      · rename_i ha
        obtain ⟨bs', h1, rfl⟩ := Option.map_eq_some_iff.mp h
        rw [marksOf_ok h1]
        obtain ⟨t, ar⟩ := d
        simp only at ht ha
        subst ht ha
        rfl
      · cases h
    · cases h
theorem closeMarks_ok : ∀ {bs : List Nat} {h h' : IHeap}, closeMarks bs h = some h' → HOk h → Grow h h' ∧ h'.size = h.size ∧ HOk h'
  | [], h, h', hc, hk => by simp only [closeMarks, Option.some.injEq] at hc; subst hc; exact ⟨Grow.refl _, rfl, hk⟩
  | b :: bs, h, h', hc, hk => by
    unfold closeMarks at hc
    split at hc
    · rename_i hg
      obtain ⟨g1, g2, g3⟩ := closeMarks_ok hc (hk.set (IHeap.get_lt hg) (fun L e => by cases e))
      exact ⟨(Grow.set hg rfl (by simp)).trans g1, g2, g3⟩
    · cases hc
theorem xfun_ok (s : Sound P okf cf rf) (n : Nat) {f : FuncId} (hok : okf f = true) {args : Array Value} {h h' : IHeap} {v : Value} (hk : HOk h) (hx : xfun P okf cf rf n f args h = some (v, h')) : ICall P f args h v h' ∧ HOk h' := by
  obtain ⟨fn, c, e1, e2, e3, e4⟩ := s.fns f hok
  unfold xfun at hx
  rw [e1] at hx
  dsimp only at hx
  rw [e3] at hx
  dsimp only at hx
  split at hx
  · rename_i x env h1 hr
    obtain ⟨a1, g0, g1, g2⟩ := xcode_ok s n none _ _ _ _ _ _ _ e4 hk (startE_rel fn args) hr
    have fin : (match marksOf env.dfr with
          | some bs => (match closeMarks bs h1 with
            | some h2 => (iresultsE P env.get h2 fn.results.toList).map fun v => (v, h2)
            | none => none)
          | none => none) = some (v, h') → (x = .normal ∨ x = .ret) → ICall P f args h v h' ∧ HOk h' := by
      intro hx he
      split at hx
      · rename_i bs hm
        split at hx
        · rename_i h2 hc
          obtain ⟨u, hu, ee⟩ := Option.map_eq_some_iff.mp hx
          cases ee
          obtain ⟨k1, k2, k3⟩ := closeMarks_ok hc g2
          rw [iresultsE_eq g0] at hu
          exact ⟨ICall.of_body e1 e3 g1 he (by rw [g0.dfr]; exact marksOf_ok hm) hc k1 k2 hu, k3⟩
        · cases hx
      · cases hx
    split at hx
    · exact fin hx (.inl rfl)
    · exact fin hx (.inr rfl)
    · cases hx
  · cases hx
theorem xround_ok (s : Sound P okf cf rf) (n : Nat) {l : Nat} {args : Array Value} {h h' : IHeap} {v : Value} (hk : HOk h) (hx : xround P okf cf rf n l args h = some (v, h')) : IRound P l args h v h' ∧ HOk h' := by
  unfold xround at hx
  simp only [setH_eq, envK_eq, bindK_eq] at hx
  split at hx
  · rename_i L hg
    obtain ⟨c1, c2⟩ := hk _ _ hg
    have r0 : EnvRel (bindE (L.params.zip args).toList (envOf L.tmps.toList L.tmps.toList.length)) { tmps := (L.params.zip args).foldl (fun tmps (t, x) => tmps.setIfInBounds t x) L.tmps, defers := [] } := by
      have h1 := envOf_rel L.tmps.toList 0
      simp only [Nat.add_zero, List.replicate_zero, List.append_nil, Array.toArray_toList] at h1
      have h2 := bindE_rel (L.params.zip args).toList h1
      rw [← Array.foldl_toList]
      exact h2
    split at hx
    · rename_i hsz
      split at hx
      · rename_i e1 h1 hr
        obtain ⟨a1, g0, g1, g2⟩ := xcode_ok s n (some l) _ _ _ _ _ _ _ c1 hk r0 hr
        split at hx
        · rename_i L1 hg1
          have hl1 := g2 _ _ hg1
          split at hx
          · rename_i hst
            split at hx
            · rename_i x e2 h2 hr2
              have hkb : HOk (h1.set l (.loop { L1 with state := .busy })) := g2.set (IHeap.get_lt hg1) (fun L e => by cases e; exact hl1)
              obtain ⟨a2, g6, g3, g4⟩ := xcode_ok s n (some l) _ _ _ _ _ _ _ c2 hkb g0 hr2
              have gb : Grow h1 (h1.set l (.loop { L1 with state := .busy })) := Grow.set hg1 rfl (by simp)
              have fin : ∀ (L2 : Loop) (j : Option Code), h2.get l = some (.loop L2) → Jump x j →
                  v = .bool j.isNone → h' = h2.set l (.loop { L2 with state := if j.isNone then .ready else .done, pending := j }) → IRound P l args h v h' ∧ HOk h' := by
                intro L2 j hg2 hj hv hh
                subst hv hh
                exact ⟨⟨g1.grow.trans (gb.trans (g3.grow.trans (Grow.set hg2 rfl (by simp)))), L, a1, h1, L1, x, a2, h2, L2, j, hg, hsz, g1, hg1, hst, g3, hg2, hj, rfl, rfl⟩, g4.set (IHeap.get_lt hg2) (fun L e => by cases e; exact g4 _ L2 hg2)⟩
              split at hx
              · cases hx; exact fin _ none (by assumption) rfl rfl rfl
              · cases hx; exact fin _ (some .ret) (by assumption) rfl rfl rfl
              · cases hx; exact fin _ (some (.exit _)) (by assumption) rfl rfl rfl
              · cases hx; exact fin _ (some (.goto _)) (by assumption) rfl rfl rfl
              · cases hx
            · cases hx
          · cases hx
        · cases hx
      · cases hx
    · cases hx
  · cases hx
end
theorem xpair_ok {P : Program} {okf : FuncId → Bool} (hf : FnsOk P okf) (hm : P.follows .mixedOrders = true) (m : Nat) : ∀ n, Sound P okf (xpair P okf m n).1 (xpair P okf m n).2
  | 0 => ⟨hf, hm, fun f args h v h' _ hx => (by cases hx), fun l args h v h' _ hx => (by cases hx)⟩
  | n + 1 => by
    have s := xpair_ok hf hm m n
    refine ⟨hf, hm, fun f args h v h' hk hx => ?_, fun l args h v h' hk hx => xround_ok s m hk hx⟩
    simp only [xpair] at hx
    split at hx
    · rename_i hok
      exact xfun_ok s m hok hk hx
    · cases hx
theorem xcall_ok {P : Program} {okf : FuncId → Bool} (hf : FnsOk P okf) (hm : P.follows .mixedOrders = true) {m n : Nat} {f : FuncId} {args : Array Value} {h h' : IHeap} {v : Value} (hk : HOk h) (hx : xcall P okf m n f args h = some (v, h')) : ICall P f args h v h' ∧ HOk h' :=
  (xpair_ok hf hm m n).call f args h v h' hk hx
end Go.Proofs.Ytfgaggpfdckggaa.Ideal
