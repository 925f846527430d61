/- Contracts from elsewhere among what the machine on code calls; first heaps of any blocks that are not ours. -/
import Derived.Test.YtfgaggpfdckggaaI23
noncomputable section
namespace Go.Proofs.Ytfgaggpfdckggaa.Ideal
open Go.RowKit
set_option linter.unusedVariables false
set_option linter.unusedSimpArgs false
set_option linter.unnecessarySimpa false

theorem below_models {ρ : Rho} {h : IHeap} {w w' : World} (hm : Models ρ h w) (b : Below w.heap.size w w') : Models ρ h w' := by
  obtain ⟨h1, h2, h3, h4, h5⟩ := b
  refine ⟨fun i R o hg hr => ?_, hm.inj, fun i R hr => Nat.lt_of_lt_of_le (hm.lt i R hr) h4⟩
  obtain ⟨ob, hb, ho⟩ := hm.obj i R o hg hr
  exact ⟨ob, by rw [h5 _ (hm.lt i R hr)]; exact hb, ho⟩
/-- A contract by a walk: what it tells holds no address, what was there stays. -/
theorem ICall.of_below {P : Program} {f : FuncId} {args : Array Value} {h : IHeap} {v : Value} (hv : plainV v = true)
    (hc : ∀ (ρ : Rho) (w : World) (args' : Array Value), ARel ρ args args' → Models ρ h w → Calls P f args' w fun e w' => e = .returned v ∧ Below w.heap.size w w') : ICall P f args h v h := by
  refine ⟨Grow.refl _, fun ρ w args' ha hm hf => (hc ρ w args' ha hm).mono ?_⟩
  rintro e w' ⟨rfl, b⟩
  have hb := b
  obtain ⟨h1, h2, h3, h4, h5⟩ := b
  exact ⟨ρ, v, rfl, ⟨Grow.refl _, h4, h1, h2, h3, fun _ _ => rfl, fun i R a c => by omega, fun b hb _ => h5 b hb⟩, below_models hm hb, plain_rel hv⟩

/-- The machine on code, some calls by contract: kf tells what comes out; memory stays. -/
def xpairC (P : Program) (okf : FuncId → Bool) (kf : FuncId → Array Value → IHeap → Option Value) (m : Nat) : Nat → (FuncId → Array Value → IHeap → Option (Value × IHeap)) × (Nat → Array Value → IHeap → Option (Value × IHeap))
  | 0 => (fun _ _ _ => none, fun _ _ _ => none)
  | n + 1 => (fun f args h => match kf f args h with
      | some v => some (v, h)
      | none => if okf f then xfun P okf (xpairC P okf kf m n).1 (xpairC P okf kf m n).2 m f args h else none, fun l args h => xround P okf (xpairC P okf kf m n).1 (xpairC P okf kf m n).2 m l args h)
theorem xpairC_ok {P : Program} {okf : FuncId → Bool} {kf : FuncId → Array Value → IHeap → Option Value} (hf : FnsOk P okf) (hm : P.follows .mixedOrders = true) (hk : ∀ f args h v, kf f args h = some v → ICall P f args h v h) (m : Nat) : ∀ n, Sound P okf (xpairC P okf kf m n).1 (xpairC P okf kf m n).2
  | 0 => ⟨hf, hm, fun f args h v h' _ hx => (by cases hx), fun l args h v h' _ hx => (by cases hx)⟩
  | n + 1 => by
    have s := xpairC_ok hf hm hk m n
    refine ⟨hf, hm, fun f args h v h' hh hx => ?_, fun l args h v h' hh hx => xround_ok s m hh hx⟩
    simp only [xpairC] at hx
    split at hx
    · rename_i u hu
      cases hx
      exact ⟨hk _ _ _ _ hu, hh⟩
    · split at hx
      · rename_i hok
        exact xfun_ok s m hok hh hx
      · cases hx
def xcallC (P : Program) (okf : FuncId → Bool) (kf : FuncId → Array Value → IHeap → Option Value) (m n : Nat) : FuncId → Array Value → IHeap → Option (Value × IHeap) := (xpairC P okf kf m n).1
theorem xcallC_ok {P : Program} {okf : FuncId → Bool} {kf : FuncId → Array Value → IHeap → Option Value} (hf : FnsOk P okf) (hm : P.follows .mixedOrders = true) (hk : ∀ f args h v, kf f args h = some v → ICall P f args h v h) {m n : Nat} {f : FuncId} {args : Array Value} {h h' : IHeap} {v : Value} (hh : HOk h) (hx : xcallC P okf kf m n f args h = some (v, h')) : ICall P f args h v h' ∧ HOk h' :=
  (xpairC_ok hf hm hk m n).call f args h v h' hh hx
theorem xcallC_body {P : Program} {okf : FuncId → Bool} {kf : FuncId → Array Value → IHeap → Option Value} {m n : Nat} {f : FuncId} {args : Array Value} {h : IHeap} {fn : Func} {c : Code} (hk : kf f args h = none) (ho : okf f = true) (hf : P.funcs[f]? = some fn) (hc : fn.body = some c) :
    xcallC P okf kf m (n + 1) f args h = finX P fn (xcode P okf (xpairC P okf kf m n).1 (xpairC P okf kf m n).2 m none c (startE fn args) h) := by
  unfold xcallC
  simp only [xpairC, hk, ho, if_true]
  unfold xfun finX
  rw [hf]
  dsimp only
  rw [hc]
  rfl
/-- A row's call, from any first heap whose blocks are not ours. -/
theorem calls_init {P : Program} {f : FuncId} {args args' : Array Value} {h h' : IHeap} (hc : ICall P f args h (.bool true) h') {ρ : Rho} {W : World} (ha : ARel ρ args args') (hm : Models ρ h W) (hfr : ∀ i, h.size ≤ i → ρ i = none) (hro : ∀ i o, h.get i = some o → o.isRo = true ∨ o = .dead) :
    Calls P f args' W fun e W' => e = .returned (.bool true) ∧ Below W.heap.size W W' := by
  refine (hc.run ρ W args' ha hm (fun i hi _ => hfr i hi)).mono ?_
  rintro e W' ⟨ρ', v', rfl, s, m, hv⟩
  rw [hv.bool_inv]
  exact ⟨rfl, s.os, s.tape, s.output, s.wsize, fun b hb => s.keep b hb (fun i R o hg _ _ => hro i o hg)⟩

/-- A row of the caller's: its cells as they are. -/
def ro1 (cs : List Value) : IHeap := { size := 1, t := .node .leaf (.row true 0 cs) .leaf }
theorem ro1_get {cs : List Value} {i : Nat} {o : IObj} (h : (ro1 cs).get i = some o) : i = 0 ∧ o = .row true 0 cs := by
  have hl := IHeap.get_lt h
  have : i = 0 := by have : i < 1 := hl; omega
  subst this
  refine ⟨rfl, ?_⟩
  have h2 : (ro1 cs).get 0 = some (.row true 0 cs) := rfl
  rw [h2] at h
  exact (Option.some.inj h).symm
theorem ro1_ok (cs : List Value) : HOk (ro1 cs) := fun i L h => by have := (ro1_get h).2; cases this
def rhoR (b o room : Nat) : Rho := fun i => if i = 0 then some ⟨b, o, room, 0⟩ else none
theorem ro1_models {b q : Nat} {W : World} {c : Array Value} {e : TypeId} {fr : Nat × Nat} {cs : List Value} (hb : W.heap[b]? = some (.cells c e fr)) (hs : q + cs.length ≤ c.size) (hc : ∀ (i : Nat) (v : Value), cs[i]? = some v → c[q + i]? = some v ∧ plainV v = true) : Models (rhoR b q c.size) (ro1 cs) W := by
  have hlt : b < W.heap.size := (Array.getElem?_eq_some_iff.1 hb).1
  refine ⟨fun i R o hg hr => ?_, fun i j R R' h1 h2 he d1 d2 => ?_, fun i R hr => ?_⟩
  · have := (ro1_get hg).2
    subst this
    unfold rhoR at hr
    split at hr
    · cases hr
      exact ⟨_, hb, .row (fun h => by cases h) rfl rfl hs (fun i v hv => ⟨v, (hc i v hv).1, plain_rel (hc i v hv).2⟩)⟩
    · cases hr
  · unfold rhoR at h1 h2
    split at h1
    · split at h2
      · rename_i a b; rw [a, b]
      · cases h2
    · cases h1
  · unfold rhoR at hr
    split at hr
    · cases hr; exact hlt
    · cases hr
end Go.Proofs.Ytfgaggpfdckggaa.Ideal
