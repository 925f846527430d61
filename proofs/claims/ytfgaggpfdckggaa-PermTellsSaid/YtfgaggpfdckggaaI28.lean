/- Weakest conditions: cuts, ranges over functions, rounds. -/
import Derived.Test.YtfgaggpfdckggaaI27
noncomputable section
namespace Go.Proofs.Ytfgaggpfdckggaa.Ideal
open Go.RowKit
set_option linter.unusedVariables false
set_option linter.unusedSimpArgs false
set_option linter.unnecessarySimpa false

section mono
variable {P : Program} {rd : Option Nat}
theorem atSome_mono {α : Type} {o : Option α} {K K' : Hid (α → Prop)} (h : atSome o (K := K)) (k : ∀ a, K.ap a → K'.ap a) : atSome o (K := K') := by
  obtain ⟨a, rfl, h⟩ := atSome_inv h
  exact k a h
theorem atPtr_mono {v : Value} {K K' : Hid (Nat → Nat → Prop)} (h : atPtr v (K := K)) (k : ∀ a b, K.ap a b → K'.ap a b) : atPtr v (K := K') := by
  obtain ⟨i, q, rfl, h⟩ := atPtr_inv h
  exact k i q h
theorem atBool_mono {v : Value} {K K' : Hid (Bool → Prop)} (h : atBool v (K := K)) (k : ∀ a, K.ap a → K'.ap a) : atBool v (K := K') := by
  obtain ⟨b, rfl, h⟩ := atBool_inv h
  exact k b h
theorem atInt_mono {v : Value} {K K' : Hid (IntKind → Int → Prop)} (h : atInt v (K := K)) (k : ∀ a b, K.ap a b → K'.ap a b) : atInt v (K := K') := by
  obtain ⟨i, q, rfl, h⟩ := atInt_inv h
  exact k i q h
theorem atRow_mono {v : Option IObj} {K K' : Hid (Bool → Nat → List Value → Prop)} (h : atRow v (K := K)) (k : ∀ a b c, K.ap a b c → K'.ap a b c) : atRow v (K := K') := by
  obtain ⟨a, b, c, rfl, h⟩ := atRow_inv h
  exact k a b c h
theorem atRowW_mono {v : Option IObj} {K K' : Hid (Nat → List Value → Prop)} (h : atRowW v (K := K)) (k : ∀ b c, K.ap b c → K'.ap b c) : atRowW v (K := K') := by
  obtain ⟨b, c, rfl, h⟩ := atRowW_inv h
  exact k b c h
theorem atMapO_mono {v : Option IObj} {K K' : Hid (List MapEntry → Nat → Prop)} (h : atMapO v (K := K)) (k : ∀ b c, K.ap b c → K'.ap b c) : atMapO v (K := K') := by
  obtain ⟨b, c, rfl, h⟩ := atMapO_inv h
  exact k b c h
theorem atIf_mono {c : Prop} {K K' : Hid (Unit → Prop)} (h : atIf c (K := K)) (k : K.ap () → K'.ap ()) : atIf c (K := K') := ⟨h.1, k h.2⟩
theorem atAgg_mono {v : Value} {K K' : Hid (Array Value → Prop)} (h : atAgg v (K := K)) (k : ∀ a, K.ap a → K'.ap a) : atAgg v (K := K') := by
  obtain ⟨b, rfl, h⟩ := atAgg_inv h
  exact k b h
theorem atTup_mono {v : Value} {K K' : Hid (Array Value → Prop)} (h : atTup v (K := K)) (k : ∀ a, K.ap a → K'.ap a) : atTup v (K := K') := by
  obtain ⟨b, rfl, h⟩ := atTup_inv h
  exact k b h
theorem jgen_mono {e : XEnv} {o : Oper} {h : IHeap} {K K' : Hid VK} (x : jgen P e o h (K := K)) (k : ∀ v h' c, K.ap v h' c → K'.ap v h' c) : jgen P e o h (K := K') := by
  unfold jgen at *
  split at x
  · exact k _ _ _ x
  · exact x.elim
theorem jlen_mono {t : TypeId} {v : Value} {h : IHeap} {K K' : Hid VK} (x : jlen P t v h (K := K)) (k : ∀ v h' c, K.ap v h' c → K'.ap v h' c) : jlen P t v h (K := K') := by
  unfold jlen at *
  split at x
  · exact atSome_mono x fun a y => k _ _ _ y
  · exact atIf_mono x fun y => k _ _ _ y
  · exact atSome_mono x fun a y => atMapO_mono y fun b c z => k _ _ _ z
  · exact atSome_mono x fun a y => k _ _ _ y
  · exact x.elim
theorem jw_mono {e : XEnv} {o : Oper} {h : IHeap} {op : Op} {K K' : Hid VK} (x : jw P e o h op (K := K)) (k : ∀ v h' c, K.ap v h' c → K'.ap v h' c) : jw P e o h op (K := K') := by
  unfold jw at *
  split at x
  · exact k _ _ _ x
  · exact k _ _ _ x
  · exact atBool_mono x fun a y => k _ _ _ y
  · exact atPtr_mono x fun _ _ y => atRow_mono y fun _ _ _ y => atSome_mono y fun _ y => k _ _ _ y
  · exact atPtr_mono x fun _ _ y => atRowW_mono y fun _ _ y => atSome_mono y fun _ y => atIf_mono y fun y => k _ _ _ y
  · exact atSome_mono x fun a y => k _ _ _ y
  · exact k _ _ _ x
  · exact atPtr_mono x fun _ _ y => atSome_mono y fun _ y => k _ _ _ y
  · refine atInt_mono x fun _ j y => ?_
    simp only [Hid.ap_mk] at y ⊢
    unfold jidx at *
    split at y
    · exact atSome_mono y fun _ y => atIf_mono y fun y => k _ _ _ y
    · exact atSome_mono y fun _ y => atIf_mono y fun y => k _ _ _ y
    · exact y.elim
  · exact atAgg_mono x fun _ y => atSome_mono y fun _ y => atSome_mono y fun _ y => k _ _ _ y
  · exact atTup_mono x fun _ y => atSome_mono y fun _ y => k _ _ _ y
  · exact atSome_mono x fun a y => k _ _ _ y
  · exact atSome_mono x fun a y => k _ _ _ y
  · exact atSome_mono x fun a y => k _ _ _ y
  · exact atSome_mono x fun a y => k _ _ _ y
  · exact atSome_mono x fun a y => k _ _ _ y
  · exact k _ _ _ x
  · unfold jnil at *
    split at x
    · exact k _ _ _ x
    · exact k _ _ _ x
    · exact atIf_mono x fun y => k _ _ _ y
    · exact x.elim
  · unfold jcvt at *
    split at x
    · exact k _ _ _ x
    · exact jgen_mono x k
  · split at x
    · unfold callV at *
      split at x
      · split at x
        · rename_i hok
          rw [if_pos hok]
          exact FN.mono (Q' := ⟨fun v h' => K'.ap v h' .heavy⟩) x fun v h' y => k _ _ _ y
        · rename_i hok
          rw [if_neg hok]
          split at x
          · exact k _ _ _ x
          · exact x.elim
      · exact atIf_mono x fun y => RN.mono y fun v h' z => k _ _ _ z
      · exact x.elim
    · unfold bltW at *
      split at x
      · exact jlen_mono x k
      · exact atSome_mono x fun a y => k _ _ _ y
      · exact atSome_mono x fun a y => k _ _ _ y
      · exact atSome_mono x fun a y => k _ _ _ y
      · exact atSome_mono x fun a y => k _ _ _ y
      · exact atSome_mono x fun a y => k _ _ _ y
      · exact jgen_mono x k
    · exact x.elim
  · exact x.elim
  · exact jgen_mono x k
theorem wops_mono {draw : Bool} {all : Array Oper} {Q Q' : Hid (XEnv → IHeap → Prop)} (k : ∀ e h, Q.ap e h → Q'.ap e h) : ∀ (os : List Oper) (e : XEnv) (h : IHeap) (es : List Ent), wops P draw all os e h es (Q := Q) → wops P draw all os e h es (Q := Q')
  | [], e, h, es, x => ⟨x.1, k _ _ x.2⟩
  | o :: os, e, h, es, x => by
    unfold wops at *
    split
    · rename_i hw
      rw [if_pos hw] at x
      unfold wop at *
      exact jw_mono x fun v h' c y => wops_mono k os _ _ _ y
    · rename_i hw
      rw [if_neg hw] at x
      exact wops_mono k os _ _ _ x
/-- What is asked may be asked of less. -/
theorem WP.mono : ∀ (c : Code) {e : XEnv} {h : IHeap} {Q Q' : Hid XQ}, WP P rd c e h (Q := Q) → (∀ x e' h', Q.ap x e' h' → Q'.ap x e' h') → WP P rd c e h (Q := Q') := by
  intro c
  induction c with
  | region id ops draw => intro e h Q Q' x k; simp only [WP] at *; exact wops_mono (Q := ⟨fun e' h' => Q.ap .normal e' h'⟩) (Q' := ⟨fun e' h' => Q'.ap .normal e' h'⟩) (fun e h y => k _ _ _ y) _ _ _ _ x
  | seq c1 c2 ih1 ih2 =>
    intro e h Q Q' x k
    simp only [WP] at *
    refine ih1 x fun r e' h' y => ?_
    simp only [Hid.ap_mk] at y ⊢
    cases r with
    | normal => exact ih2 y k
    | _ => exact k _ _ _ y
  | cond c c1 c2 ih1 ih2 =>
    intro e h Q Q' x k
    simp only [WP] at *
    exact atBool_mono x fun b y => ⟨fun hb => ih1 (y.1 hb) k, fun hb => ih2 (y.2 hb) k⟩
  | block id c ih => intro e h Q Q' x k; simp only [WP] at *; exact ih x fun r e' h' y => k _ _ _ y
  | scope c ih =>
    intro e h Q Q' x k
    simp only [WP] at *
    refine ih x fun r e' h' y => ?_
    simp only [Hid.ap_mk] at y ⊢
    cases r <;> first | exact y.elim | exact k _ _ _ y
  | loop c ih => intro e h Q Q' x k; simp only [WP] at *; obtain ⟨r, e', h', a, b⟩ := x; exact ⟨r, e', h', a, k _ _ _ b⟩
  | rangeFunc g ps assign body ih1 ih2 => intro e h Q Q' x k; simp only [WP] at *; obtain ⟨r, e', h', a, b⟩ := x; exact ⟨r, e', h', a, k _ _ _ b⟩
  | skip => intro e h Q Q' x k; simp only [WP] at *; exact k _ _ _ x
  | label => intro e h Q Q' x k; simp only [WP] at *; exact k _ _ _ x
  | exit => intro e h Q Q' x k; simp only [WP] at *; exact k _ _ _ x
  | goto => intro e h Q Q' x k; simp only [WP] at *; exact k _ _ _ x
  | ret => intro e h Q Q' x k; simp only [WP] at *; exact k _ _ _ x
  | _ => intro e h Q Q' x k; simp only [WP] at x
/-- A piece of code, cut: what it comes to, then what comes behind. -/
theorem WP.cut {c : Code} {e : XEnv} {h : IHeap} {Q : Hid XQ} (R : XEnv → IHeap → Prop) (x : WP P rd c e h (Q := ⟨fun r e' h' => r = .normal ∧ R e' h'⟩)) (k : ∀ e' h', R e' h' → Q.ap .normal e' h') : WP P rd c e h (Q := Q) :=
  WP.mono c x fun r e' h' y => by
    obtain ⟨rfl, y⟩ := y
    exact k e' h' y
end mono

section range
variable {P : Program} {rd : Option Nat}
/-- How a range over a function ends. -/
def rngQ (Q : Hid XQ) (e : XEnv) (l : Nat) (mk : Nat) (h3 : IHeap) : Prop :=
  ∃ L3, h3.get l = some (.loop L3) ∧ L3.state ≠ .busy ∧ ∃ x, xpend L3.pending = some x ∧ Q.ap x { e with dfr := markOf mk :: e.dfr } (h3.set l (.loop { L3 with state := .exhausted }))
theorem WPR.intro {g : Operand} {ps : Array Tmp} {assign body : Code} {e : XEnv} {h : IHeap} {Q : Hid XQ} {f : FuncId} {fs cs : Array Value} (hok : operandOk g = true) (hg : e.ev g = .func (.func f) fs cs) (hf : fnB P f = true)
    (hx : FN P f (fs ++ #[.func (.yield (h.size + 1)) #[] #[]] ++ cs) ((h.push .defs).push (.loop (newLoopE e ps assign body h.size))) (Q := ⟨fun _ h3 => rngQ Q e (h.size + 1) h.size h3⟩)) : WPR P none g ps assign body e h (Q := Q) := by
  obtain ⟨fn, c0, e1, e2, e3, e4⟩ := fnB_inv hf
  obtain ⟨v, h3, hc, L3, g3, hst, x, hp, hq⟩ := hx
  have hnl : newLoopE e ps assign body h.size = newLoop e.act ps assign body h.size := rfl
  rw [hnl] at hc
  have hge : e.act.eval g = .func (.func f) fs cs := by rw [XEnv.act_eval]; exact hg
  exact ⟨x, _, _, IExec.rangeFunc (e := x) (a' := { e with dfr := markOf h.size :: e.dfr }.act) hok hge e1 e2 (by rw [e3]; rfl) hc g3 hst rfl (xpend_ok hp), hq⟩

/-- The frame at a round's begin. -/
def roundE (L : Loop) (args : Array Value) : XEnv := bindE (L.params.zip args).toList (envOf L.tmps.toList L.tmps.toList.length)
theorem roundE_act (L : Loop) (args : Array Value) : { tmps := (L.params.zip args).foldl (fun tmps (t, x) => tmps.setIfInBounds t x) L.tmps, defers := [] } = (roundE L args).act := by
  have h1 := envOf_rel L.tmps.toList 0
  simp only [Nat.add_zero, List.replicate_zero, List.append_nil, Array.toArray_toList] at h1
  have h2 := bindE_rel (L.params.zip args).toList h1
  rw [← Array.foldl_toList]
  exact h2.act_eq
/-- What is asked behind a round's body. -/
def bodyQ (l : Nat) (Q : Hid VQ) (x : Exit) (e : XEnv) (h2 : IHeap) : Prop :=
  ∃ L2, h2.get l = some (.loop L2) ∧ (match x with
    | .normal => Q.ap (.bool true) (h2.set l (.loop { L2 with state := .ready, pending := none }))
    | .ret => Q.ap (.bool false) (h2.set l (.loop { L2 with state := .done, pending := some .ret }))
    | .exit id => Q.ap (.bool false) (h2.set l (.loop { L2 with state := .done, pending := some (.exit id) }))
    | .goto t => Q.ap (.bool false) (h2.set l (.loop { L2 with state := .done, pending := some (.goto t) }))
    | _ => False)
def assignQ (P : Program) (l : Nat) (body : Code) (Q : Hid VQ) (x : Exit) (e1 : XEnv) (h1 : IHeap) : Prop :=
  x = .normal ∧ ∃ L1, h1.get l = some (.loop L1) ∧ L1.state = .ready ∧ WP P (some l) body e1 (h1.set l (.loop { L1 with state := .busy })) (Q := ⟨bodyQ l Q⟩)
theorem RN.intro (hm : P.follows .mixedOrders = true) {l : Nat} {args : Array Value} {h : IHeap} {Q : Hid VQ} {L : Loop} (hg : h.get l = some (.loop L)) (hsz : args.size = L.params.size) (ha : codeOk L.assign = true) (hb : codeOk L.body = true)
    (hx : WP P (some l) L.assign (roundE L args) h (Q := ⟨assignQ P l L.body Q⟩)) : RN P l args h (Q := Q) := by
  obtain ⟨x, e1, h1, g1, rfl, L1, g2, g3, g4⟩ := WP_ok hm _ _ _ _ ha hx
  obtain ⟨x, e2, h2, g5, L2, g6, g7⟩ := WP_ok hm _ _ _ _ hb g4
  rw [← roundE_act] at g1
  have gb : Grow h1 (h1.set l (.loop { L1 with state := .busy })) := Grow.set g2 rfl (by simp)
  have mk : ∀ j, Jump x j → Q.ap (.bool j.isNone) (h2.set l (.loop { L2 with state := if j.isNone then .ready else .done, pending := j })) → RN P l args h (Q := Q) := by
    intro j hj hq
    exact ⟨_, _, ⟨g1.grow.trans (gb.trans (g5.grow.trans (Grow.set g6 rfl (by simp)))), L, e1.act, h1, L1, x, e2.act, h2, L2, j, hg, hsz, g1, g2, g3, g5, g6, hj, rfl, rfl⟩, hq⟩
  cases x with
  | normal => exact mk none rfl g7
  | ret => exact mk (some .ret) rfl g7
  | exit id => exact mk (some (.exit id)) rfl g7
  | goto t => exact mk (some (.goto t)) rfl g7
  | _ => exact g7.elim
end range
end Go.Proofs.Ytfgaggpfdckggaa.Ideal
