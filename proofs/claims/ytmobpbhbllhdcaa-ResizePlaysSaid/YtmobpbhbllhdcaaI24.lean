/- The ideal heap: I22, I23, I24. Rows whose slice arguments are not looked into; a test on what is not known. -/
import Derived.Test.YtmobpbhbllhdcaaI21
import Derived.Deep.Slices
noncomputable section
namespace Go.Proofs.Ytmobpbhbllhdcaa.Ideal
open Go.RowKit
set_option linter.unusedVariables false
set_option linter.unusedSimpArgs false
set_option linter.unnecessarySimpa false

/-- A heap of one dead block: what an argument leads to. -/
def dead1 : IHeap := { size := 1, t := .node .leaf .dead .leaf }
theorem dead1_get {i : Nat} {o : IObj} (h : dead1.get i = some o) : i = 0 ∧ o = .dead := by
  have hl := IHeap.get_lt h
  have : i = 0 := by have : i < 1 := hl; omega
  subst this
  refine ⟨rfl, ?_⟩
  have h2 : dead1.get 0 = some .dead := rfl
  rw [h2] at h
  exact (Option.some.inj h).symm
theorem dead1_ok : HOk dead1 := fun i L h => by have := (dead1_get h).2; cases this
def rho1 (x : Addr) : Rho := fun i => if i = 0 then some ⟨x.block, x.off, 0, 0⟩ else none
theorem dead1_models {x : Addr} {W : World} (hx : x.block < W.heap.size) : Models (rho1 x) dead1 W := by
  refine ⟨fun i R o hg hr => ?_, fun i j R R' h1 h2 he d1 d2 => ?_, fun i R hr => ?_⟩
  · have := (dead1_get hg).2
    subst this
    unfold rho1 at hr
    split at hr
    · cases hr; exact ⟨_, Array.getElem?_eq_getElem hx, .dead⟩
    · cases hr
  · unfold rho1 at h1 h2
    split at h1
    · split at h2
      · rename_i a b; exact .inl (by rw [a, b])
      · cases h2
    · cases h1
  · unfold rho1 at hr
    split at hr
    · cases hr; exact hx
    · cases hr
theorem rho1_slice {x : Addr} (hs : x.spot = none) (len cap : Nat) : VRel (rho1 x) (.slice (some ⟨0, 0, none⟩) len cap) (.slice (some x) len cap) := by
  obtain ⟨b, o, s⟩ := x
  dsimp only at hs
  subst hs
  have h : rho1 ⟨b, o, none⟩ 0 = some ⟨b, o, 0, 0⟩ := rfl
  have := VRel.slc (o := 0) (n := len) (c := cap) h (.inl rfl)
  simpa using this
/-- A call with such arguments. -/
theorem calls_dead1 {P : Program} {L : List Nat} (hL : ∀ g ∈ L, fnB P g = true) (hm : P.follows .mixedOrders = true) {m n : Nat} {f : FuncId} {args args' : Array Value} (hr : isT (xcall P (inL L) m n f args dead1) = true) {W : World} {x : Addr} (hx : x.block < W.heap.size) (ha : ARel (rho1 x) args args') :
    Calls P f args' W fun e W' => e = .returned (.bool true) ∧ Below W.heap.size W W' := by
  obtain ⟨h', hc⟩ := isT_some hr
  have hcall := (xcall_ok (fns_ok hL) hm dead1_ok hc).1
  refine (hcall.run (rho1 x) W args' ha (dead1_models hx) (fun i hi _ => ?_)).mono ?_
  · unfold rho1
    rw [if_neg (by have : 1 ≤ i := hi; omega)]
  · rintro e W' ⟨ρ', v', rfl, s, m, hv⟩
    rw [hv.bool_inv]
    exact ⟨rfl, s.os, s.tape, s.output, s.wsize, fun b hb => s.keep b hb (fun i R o hg _ _ => .inr (dead1_get hg).2)⟩
/-- One slice argument: nil, or one that is there. -/
theorem calls_dead0 {P : Program} {L : List Nat} (hL : ∀ g ∈ L, fnB P g = true) (hm : P.follows .mixedOrders = true) {m n : Nat} {f : FuncId} {args args' : Array Value} (hr : isT (xcall P (inL L) m n f args noHeap) = true) {W : World} (ha : ARel (fun _ => none) args args') :
    Calls P f args' W fun e W' => e = .returned (.bool true) ∧ Below W.heap.size W W' := by
  obtain ⟨h', hc⟩ := isT_some hr
  have hcall := (xcall_ok (fns_ok hL) hm noHeap_ok hc).1
  refine (hcall.run (fun _ => none) W args' ha (noHeap_models W) (fun _ _ _ => rfl)).mono ?_
  rintro e W' ⟨ρ', v', rfl, s, m, hv⟩
  rw [hv.bool_inv]
  exact ⟨rfl, step_below s (fun i o hg => by rw [noHeap_get] at hg; cases hg)⟩

/-! A test on what is not known: what stands ahead of it, then each branch. -/
def sqL : Code → Code | .seq x _ => x | c => c
def sqR : Code → Code | .seq _ y => y | c => c
def cdO : Code → Operand | .cond c _ _ => c | _ => .tmp 0
def cdT : Code → Code | .cond _ t _ => t | c => c
def cdF : Code → Code | .cond _ _ s => s | c => c
def isN : Option (Exit × XEnv × IHeap) → Bool | some (.normal, _, _) => true | _ => false
def getE : Option (Exit × XEnv × IHeap) → XEnv | some (_, e, _) => e | none => ⟨0, .leaf, []⟩
def getH : Option (Exit × XEnv × IHeap) → IHeap | some (_, _, h) => h | none => ⟨0, .leaf⟩
theorem isN_eq {r : Option (Exit × XEnv × IHeap)} (h : isN r = true) : r = some (.normal, getE r, getH r) := by
  unfold isN at h
  split at h
  · rfl
  · cases h
section
variable {P : Program} {okf : FuncId → Bool} {cf : FuncId → Array Value → IHeap → Option (Value × IHeap)} {rf : Nat → Array Value → IHeap → Option (Value × IHeap)}
theorem xcode_seq {n : Nat} {rd : Option Nat} {x y : Code} {e : XEnv} {h : IHeap} (h1 : isN (xcode P okf cf rf n rd x e h) = true) :
    xcode P okf cf rf n rd (.seq x y) e h = xcode P okf cf rf n rd y (getE (xcode P okf cf rf n rd x e h)) (getH (xcode P okf cf rf n rd x e h)) := by
  conv => lhs; unfold xcode
  rw [isN_eq h1]
  rfl
theorem xcode_cond {n : Nat} {rd : Option Nat} {c : Operand} {t s rest : Code} {e : XEnv} {h : IHeap} {b : Bool} (hb : e.ev c = .bool b) :
    xcode P okf cf rf n rd (.seq (.cond c t s) rest) e h = xcode P okf cf rf n rd (.seq (if b then t else s) rest) e h := by
  have h1 : xcode P okf cf rf n rd (.cond c t s) e h = xcode P okf cf rf n rd (if b then t else s) e h := by
    conv => lhs; unfold xcode
    rw [hb]
    cases b <;> rfl
  conv => lhs; unfold xcode
  conv => rhs; unfold xcode
  rw [h1]
theorem xcode_assoc {n : Nat} {rd : Option Nat} {x y z : Code} {e : XEnv} {h : IHeap} : xcode P okf cf rf n rd (.seq (.seq x y) z) e h = xcode P okf cf rf n rd (.seq x (.seq y z)) e h := by
  simp only [xcode]
  cases xcode P okf cf rf n rd x e h with
  | none => rfl
  | some r =>
    obtain ⟨q, e1, h1⟩ := r
    cases q <;> rfl
/-- What a function tells behind its code. -/
def finX (P : Program) (fn : Func) (r : Option (Exit × XEnv × IHeap)) : Option (Value × IHeap) :=
  match r with
  | some (x, e1, h1) => (match x with
    | .normal | .ret => (match marksOf e1.dfr with
      | some bs => (match closeMarks bs h1 with
        | some h2 => (iresultsE P e1.get h2 fn.results.toList).map fun v => (v, h2)
        | none => none)
      | none => none)
    | _ => none)
  | none => none
end
theorem xcall_body {P : Program} {okf : FuncId → Bool} {m n : Nat} {f : FuncId} {args : Array Value} {h : IHeap} {fn : Func} {c : Code} (ho : okf f = true) (hf : P.funcs[f]? = some fn) (hc : fn.body = some c) :
    xcall P okf m (n + 1) f args h = finX P fn (xcode P okf (xpair P okf m n).1 (xpair P okf m n).2 m none c (startE fn args) h) := by
  unfold xcall
  simp only [xpair, ho, if_true]
  unfold xfun finX
  rw [hf]
  dsimp only
  rw [hc]
  rfl
end Go.Proofs.Ytmobpbhbllhdcaa.Ideal
end
noncomputable section
namespace Go.Proofs.Ytmobpbhbllhdcaa.Ideal
open Go.RowKit
set_option linter.unusedVariables false
theorem cell_there {w : World} {x : Addr} {v : Value} (h : w.cell? x = some v) : x.spot = none ∧ x.block < w.heap.size := by
  obtain ⟨b, q, s⟩ := x
  unfold World.cell? at h
  dsimp only at h
  split at h
  · rename_i c e fr hb
    refine ⟨?_, (Array.getElem?_eq_some_iff.1 hb).1⟩
    cases s with
    | none => rfl
    | some u => simp at h
  · cases h
/-- A slice argument: nil; or there, or of no capacity. -/
def There (w : World) (A : Option Addr) (len cap : Nat) : Prop := (A = none ∧ len = 0 ∧ cap = 0) ∨ ∃ x, A = some x ∧ len ≤ cap ∧ (cap = 0 ∨ (x.spot = none ∧ x.block < w.heap.size))
theorem open_there {H : Type} {enc : TypeId × Value → H} {P : Program} {w : World} {base : Nat} {held : Bool} {t e : TypeId} {A : Option Addr} {len cap : Nat} {d : DataW H} {p : List MemPlace}
    (ht : P.underlying t = some (.slice e)) (hc : 0 < P.cellsOf e) (h : DataW.Trod enc P w base (fun _ => true) held t (.slice A len cap) d p) : There w A len cap := by
  obtain ⟨fuel, hf⟩ := h
  rcases Go.Deep.open_slice ht hf with ⟨h1, _⟩ | ⟨a, len', cap', m, n, D, Pl, h1, hb, hl, hcm, hm, _, hall⟩
  · simp [Value.cells] at h1
    exact .inl h1
  · simp [Value.cells] at h1
    obtain ⟨rfl, rfl, rfl⟩ := h1
    refine .inr ⟨a, rfl, hl, ?_⟩
    by_cases h0 : cap = 0
    · exact .inl h0
    · simp at hm
      subst hm
      obtain ⟨cs, g1, _⟩ := hall 0 (by omega)
      obtain ⟨_, g2, g3⟩ := World.cells?_some g1
      have g4 := g3 0 hc
      have hz : (a.add (0 * P.cellsOf e)).add 0 = a := by rw [Nat.zero_mul]; rfl
      rw [hz] at g4
      have : ∃ v, cs[0]? = some v := ⟨_, List.getElem?_eq_getElem (by omega)⟩
      obtain ⟨v, hv⟩ := this
      rw [hv] at g4
      exact .inr (cell_there g4)
theorem arel_nil {ρ : Rho} : ARel ρ #[] #[] := ⟨rfl, fun i hi => by simp at hi⟩
theorem arel2 {ρ : Rho} {a b a' b' : Value} (h1 : VRel ρ a a') (h2 : VRel ρ b b') : ARel ρ #[a, b] #[a', b'] := by
  refine ⟨rfl, fun i hi => ?_⟩
  have hi' : i < 2 := hi
  match i, hi' with
  | 0, _ => exact h1
  | 1, _ => exact h2
end Go.Proofs.Ytmobpbhbllhdcaa.Ideal
end
noncomputable section
namespace Go.Proofs.Ytmobpbhbllhdcaa.Ideal
open Go.RowKit
set_option linter.unusedVariables false
set_option linter.unusedSimpArgs false
set_option linter.unnecessarySimpa false

theorem below_models {ρ : Rho} {h : IHeap} {w w' : World} (hm : Models ρ h w) (b : Below w.heap.size w w') : Models ρ h w' := by
  obtain ⟨h1, h2, h3, h4, h5⟩ := b
  refine ⟨fun i R o hg hr => ?_, hm.inj, fun i R hr => Nat.lt_of_lt_of_le (hm.lt i R hr) h4⟩
  obtain ⟨ob, hb, ho⟩ := hm.obj i R o hg hr
  exact ⟨ob, by rw [h5 _ (hm.lt i R hr)]; exact hb, ho⟩
/-- A contract by a walk: what it tells holds no address, what was there stays. -/
theorem ICall.of_below {P : Program} {f : FuncId} {args : Array Value} {h : IHeap} {v : Value} (hv : plainV v = true)
    (hc : ∀ (ρ : Rho) (w : World) (args' : Array Value), ARel ρ args args' → Models ρ h w → Calls P f args' w fun e w' => e = .returned v ∧ Below w.heap.size w w') : ICall P f args h v h := by
  refine ⟨Grow.refl _, fun ρ w args' ha hm hf => (hc ρ w args' ha hm).mono ?_⟩
  rintro e w' ⟨rfl, b⟩
  have hb := b
  obtain ⟨h1, h2, h3, h4, h5⟩ := b
  exact ⟨ρ, v, rfl, ⟨Grow.refl _, h4, h1, h2, h3, fun _ _ => rfl, fun i R a c => by omega, fun b hb _ => h5 b hb⟩, below_models hm hb, plain_rel hv⟩

/-- The machine on code, some calls by contract: kf tells what comes out; memory stays. -/
def xpairC (P : Program) (okf : FuncId → Bool) (kf : FuncId → Array Value → IHeap → Option Value) (m : Nat) : Nat → (FuncId → Array Value → IHeap → Option (Value × IHeap)) × (Nat → Array Value → IHeap → Option (Value × IHeap))
  | 0 => (fun _ _ _ => none, fun _ _ _ => none)
  | n + 1 => (fun f args h => match kf f args h with
      | some v => some (v, h)
      | none => if okf f then xfun P okf (xpairC P okf kf m n).1 (xpairC P okf kf m n).2 m f args h else none, fun l args h => xround P okf (xpairC P okf kf m n).1 (xpairC P okf kf m n).2 m l args h)
theorem xpairC_ok {P : Program} {okf : FuncId → Bool} {kf : FuncId → Array Value → IHeap → Option Value} (hf : FnsOk P okf) (hm : P.follows .mixedOrders = true) (hk : ∀ f args h v, kf f args h = some v → ICall P f args h v h) (m : Nat) : ∀ n, Sound P okf (xpairC P okf kf m n).1 (xpairC P okf kf m n).2
  | 0 => ⟨hf, hm, fun f args h v h' _ hx => (by cases hx), fun l args h v h' _ hx => (by cases hx)⟩
  | n + 1 => by
    have s := xpairC_ok hf hm hk m n
    refine ⟨hf, hm, fun f args h v h' hh hx => ?_, fun l args h v h' hh hx => xround_ok s m hh hx⟩
    simp only [xpairC] at hx
    split at hx
    · rename_i u hu
      cases hx
      exact ⟨hk _ _ _ _ hu, hh⟩
    · split at hx
      · rename_i hok
        exact xfun_ok s m hok hh hx
      · cases hx
def xcallC (P : Program) (okf : FuncId → Bool) (kf : FuncId → Array Value → IHeap → Option Value) (m n : Nat) : FuncId → Array Value → IHeap → Option (Value × IHeap) := (xpairC P okf kf m n).1
theorem xcallC_ok {P : Program} {okf : FuncId → Bool} {kf : FuncId → Array Value → IHeap → Option Value} (hf : FnsOk P okf) (hm : P.follows .mixedOrders = true) (hk : ∀ f args h v, kf f args h = some v → ICall P f args h v h) {m n : Nat} {f : FuncId} {args : Array Value} {h h' : IHeap} {v : Value} (hh : HOk h) (hx : xcallC P okf kf m n f args h = some (v, h')) : ICall P f args h v h' ∧ HOk h' :=
  (xpairC_ok hf hm hk m n).call f args h v h' hh hx
theorem xcallC_body {P : Program} {okf : FuncId → Bool} {kf : FuncId → Array Value → IHeap → Option Value} {m n : Nat} {f : FuncId} {args : Array Value} {h : IHeap} {fn : Func} {c : Code} (hk : kf f args h = none) (ho : okf f = true) (hf : P.funcs[f]? = some fn) (hc : fn.body = some c) :
    xcallC P okf kf m (n + 1) f args h = finX P fn (xcode P okf (xpairC P okf kf m n).1 (xpairC P okf kf m n).2 m none c (startE fn args) h) := by
  unfold xcallC
  simp only [xpairC, hk, ho, if_true]
  unfold xfun finX
  rw [hf]
  dsimp only
  rw [hc]
  rfl
/-- A row's call, from any first heap whose blocks are not ours. -/
theorem calls_init {P : Program} {f : FuncId} {args args' : Array Value} {h h' : IHeap} (hc : ICall P f args h (.bool true) h') {ρ : Rho} {W : World} (ha : ARel ρ args args') (hm : Models ρ h W) (hfr : ∀ i, h.size ≤ i → ρ i = none) (hro : ∀ i o, h.get i = some o → o.isRo = true ∨ o = .dead) :
    Calls P f args' W fun e W' => e = .returned (.bool true) ∧ Below W.heap.size W W' := by
  refine (hc.run ρ W args' ha hm (fun i hi _ => hfr i hi)).mono ?_
  rintro e W' ⟨ρ', v', rfl, s, m, hv⟩
  rw [hv.bool_inv]
  exact ⟨rfl, s.os, s.tape, s.output, s.wsize, fun b hb => s.keep b hb (fun i R o hg _ _ => hro i o hg)⟩

/-- A row of the caller's: its cells as they are. -/
def ro1 (cs : List Value) : IHeap := { size := 1, t := .node .leaf (.row true 0 cs) .leaf }
theorem ro1_get {cs : List Value} {i : Nat} {o : IObj} (h : (ro1 cs).get i = some o) : i = 0 ∧ o = .row true 0 cs := by
  have hl := IHeap.get_lt h
  have : i = 0 := by have : i < 1 := hl; omega
  subst this
  refine ⟨rfl, ?_⟩
  have h2 : (ro1 cs).get 0 = some (.row true 0 cs) := rfl
  rw [h2] at h
  exact (Option.some.inj h).symm
theorem ro1_ok (cs : List Value) : HOk (ro1 cs) := fun i L h => by have := (ro1_get h).2; cases this
def rhoR (b o room : Nat) : Rho := fun i => if i = 0 then some ⟨b, o, room, 0⟩ else none
theorem ro1_models {b q : Nat} {W : World} {c : Array Value} {e : TypeId} {fr : Nat × Nat} {cs : List Value} (hb : W.heap[b]? = some (.cells c e fr)) (hs : q + cs.length ≤ c.size) (hc : ∀ (i : Nat) (v : Value), cs[i]? = some v → c[q + i]? = some v ∧ plainV v = true) : Models (rhoR b q c.size) (ro1 cs) W := by
  have hlt : b < W.heap.size := (Array.getElem?_eq_some_iff.1 hb).1
  refine ⟨fun i R o hg hr => ?_, fun i j R R' h1 h2 he d1 d2 => ?_, fun i R hr => ?_⟩
  · have := (ro1_get hg).2
    subst this
    unfold rhoR at hr
    split at hr
    · cases hr
      exact ⟨_, hb, .row (fun h => by cases h) rfl rfl hs (fun i v hv => ⟨v, (hc i v hv).1, plain_rel (hc i v hv).2⟩)⟩
    · cases hr
  · unfold rhoR at h1 h2
    split at h1
    · split at h2
      · rename_i a b; exact .inl (by rw [a, b])
      · cases h2
    · cases h1
  · unfold rhoR at hr
    split at hr
    · cases hr; exact hlt
    · cases hr
end Go.Proofs.Ytmobpbhbllhdcaa.Ideal
end
