/- Rows whose slice arguments are not looked into; a test on what is not known. -/
import Derived.Test.YtfgaggpfdckggaaI21
noncomputable section
namespace Go.Proofs.Ytfgaggpfdckggaa.Ideal
open Go.RowKit
set_option linter.unusedVariables false
set_option linter.unusedSimpArgs false
set_option linter.unnecessarySimpa false

/-- A heap of one dead block: what an argument leads to. -/
def dead1 : IHeap := { size := 1, t := .node .leaf .dead .leaf }
theorem dead1_get {i : Nat} {o : IObj} (h : dead1.get i = some o) : i = 0 ∧ o = .dead := by
  have hl := IHeap.get_lt h
  have : i = 0 := by have : i < 1 := hl; omega
  subst this
  refine ⟨rfl, ?_⟩
  have h2 : dead1.get 0 = some .dead := rfl
  rw [h2] at h
  exact (Option.some.inj h).symm
theorem dead1_ok : HOk dead1 := fun i L h => by have := (dead1_get h).2; cases this
def rho1 (x : Addr) : Rho := fun i => if i = 0 then some ⟨x.block, x.off, 0, 0⟩ else none
theorem dead1_models {x : Addr} {W : World} (hx : x.block < W.heap.size) : Models (rho1 x) dead1 W := by
  refine ⟨fun i R o hg hr => ?_, fun i j R R' h1 h2 he d1 d2 => ?_, fun i R hr => ?_⟩
  · have := (dead1_get hg).2
    subst this
    unfold rho1 at hr
    split at hr
    · cases hr; exact ⟨_, Array.getElem?_eq_getElem hx, .dead⟩
    · cases hr
  · unfold rho1 at h1 h2
    split at h1
    · split at h2
      · rename_i a b; rw [a, b]
      · cases h2
    · cases h1
  · unfold rho1 at hr
    split at hr
    · cases hr; exact hx
    · cases hr
theorem rho1_slice {x : Addr} (hs : x.spot = none) (len cap : Nat) : VRel (rho1 x) (.slice (some ⟨0, 0, none⟩) len cap) (.slice (some x) len cap) := by
  obtain ⟨b, o, s⟩ := x
  dsimp only at hs
  subst hs
  have h : rho1 ⟨b, o, none⟩ 0 = some ⟨b, o, 0, 0⟩ := rfl
  have := VRel.slc (o := 0) (n := len) (c := cap) h (.inl rfl)
  simpa using this
/-- A call with such arguments. -/
theorem calls_dead1 {P : Program} {L : List Nat} (hL : ∀ g ∈ L, fnB P g = true) (hm : P.follows .mixedOrders = true) {m n : Nat} {f : FuncId} {args args' : Array Value} (hr : isT (xcall P (inL L) m n f args dead1) = true) {W : World} {x : Addr} (hx : x.block < W.heap.size) (ha : ARel (rho1 x) args args') :
    Calls P f args' W fun e W' => e = .returned (.bool true) ∧ Below W.heap.size W W' := by
  obtain ⟨h', hc⟩ := isT_some hr
  have hcall := (xcall_ok (fns_ok hL) hm dead1_ok hc).1
  refine (hcall.run (rho1 x) W args' ha (dead1_models hx) (fun i hi _ => ?_)).mono ?_
  · unfold rho1
    rw [if_neg (by have : 1 ≤ i := hi; omega)]
  · rintro e W' ⟨ρ', v', rfl, s, m, hv⟩
    rw [hv.bool_inv]
    exact ⟨rfl, s.os, s.tape, s.output, s.wsize, fun b hb => s.keep b hb (fun i R o hg _ _ => .inr (dead1_get hg).2)⟩
/-- One slice argument: nil, or one that is there. -/
theorem calls_dead0 {P : Program} {L : List Nat} (hL : ∀ g ∈ L, fnB P g = true) (hm : P.follows .mixedOrders = true) {m n : Nat} {f : FuncId} {args args' : Array Value} (hr : isT (xcall P (inL L) m n f args noHeap) = true) {W : World} (ha : ARel (fun _ => none) args args') :
    Calls P f args' W fun e W' => e = .returned (.bool true) ∧ Below W.heap.size W W' := by
  obtain ⟨h', hc⟩ := isT_some hr
  have hcall := (xcall_ok (fns_ok hL) hm noHeap_ok hc).1
  refine (hcall.run (fun _ => none) W args' ha (noHeap_models W) (fun _ _ _ => rfl)).mono ?_
  rintro e W' ⟨ρ', v', rfl, s, m, hv⟩
  rw [hv.bool_inv]
  exact ⟨rfl, step_below s (fun i o hg => by rw [noHeap_get] at hg; cases hg)⟩

/-! A test on what is not known: what stands ahead of it, then each branch. -/
def sqL : Code → Code | .seq x _ => x | c => c
def sqR : Code → Code | .seq _ y => y | c => c
def cdO : Code → Operand | .cond c _ _ => c | _ => .tmp 0
def cdT : Code → Code | .cond _ t _ => t | c => c
def cdF : Code → Code | .cond _ _ s => s | c => c
def isN : Option (Exit × XEnv × IHeap) → Bool | some (.normal, _, _) => true | _ => false
def getE : Option (Exit × XEnv × IHeap) → XEnv | some (_, e, _) => e | none => ⟨0, .leaf, []⟩
def getH : Option (Exit × XEnv × IHeap) → IHeap | some (_, _, h) => h | none => ⟨0, .leaf⟩
theorem isN_eq {r : Option (Exit × XEnv × IHeap)} (h : isN r = true) : r = some (.normal, getE r, getH r) := by
  unfold isN at h
  split at h
  · rfl
  · cases h
section
variable {P : Program} {okf : FuncId → Bool} {cf : FuncId → Array Value → IHeap → Option (Value × IHeap)} {rf : Nat → Array Value → IHeap → Option (Value × IHeap)}
theorem xcode_seq {n : Nat} {rd : Option Nat} {x y : Code} {e : XEnv} {h : IHeap} (h1 : isN (xcode P okf cf rf n rd x e h) = true) :
    xcode P okf cf rf n rd (.seq x y) e h = xcode P okf cf rf n rd y (getE (xcode P okf cf rf n rd x e h)) (getH (xcode P okf cf rf n rd x e h)) := by
  conv => lhs; unfold xcode
  rw [isN_eq h1]
  rfl
theorem xcode_cond {n : Nat} {rd : Option Nat} {c : Operand} {t s rest : Code} {e : XEnv} {h : IHeap} {b : Bool} (hb : e.ev c = .bool b) :
    xcode P okf cf rf n rd (.seq (.cond c t s) rest) e h = xcode P okf cf rf n rd (.seq (if b then t else s) rest) e h := by
  have h1 : xcode P okf cf rf n rd (.cond c t s) e h = xcode P okf cf rf n rd (if b then t else s) e h := by
    conv => lhs; unfold xcode
    rw [hb]
    cases b <;> rfl
  conv => lhs; unfold xcode
  conv => rhs; unfold xcode
  rw [h1]
theorem xcode_assoc {n : Nat} {rd : Option Nat} {x y z : Code} {e : XEnv} {h : IHeap} : xcode P okf cf rf n rd (.seq (.seq x y) z) e h = xcode P okf cf rf n rd (.seq x (.seq y z)) e h := by
  simp only [xcode]
  cases xcode P okf cf rf n rd x e h with
  | none => rfl
  | some r =>
    obtain ⟨q, e1, h1⟩ := r
    cases q <;> rfl
/-- What a function tells behind its code. -/
def finX (P : Program) (fn : Func) (r : Option (Exit × XEnv × IHeap)) : Option (Value × IHeap) :=
  match r with
  | some (x, e1, h1) => (match x with
    | .normal | .ret => (match marksOf e1.dfr with
      | some bs => (match closeMarks bs h1 with
        | some h2 => (iresultsE P e1.get h2 fn.results.toList).map fun v => (v, h2)
        | none => none)
      | none => none)
    | _ => none)
  | none => none
end
theorem xcall_body {P : Program} {okf : FuncId → Bool} {m n : Nat} {f : FuncId} {args : Array Value} {h : IHeap} {fn : Func} {c : Code} (ho : okf f = true) (hf : P.funcs[f]? = some fn) (hc : fn.body = some c) :
    xcall P okf m (n + 1) f args h = finX P fn (xcode P okf (xpair P okf m n).1 (xpair P okf m n).2 m none c (startE fn args) h) := by
  unfold xcall
  simp only [xpair, ho, if_true]
  unfold xfun finX
  rw [hf]
  dsimp only
  rw [hc]
  rfl
end Go.Proofs.Ytfgaggpfdckggaa.Ideal
