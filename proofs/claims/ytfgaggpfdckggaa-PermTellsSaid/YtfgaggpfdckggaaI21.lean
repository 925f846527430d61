/- From the ideal heap to a row. -/
import Derived.Test.YtfgaggpfdckggaaI20
import Derived.Below
noncomputable section
namespace Go.Proofs.Ytfgaggpfdckggaa.Ideal
open Go.RowKit
set_option linter.unusedVariables false
set_option linter.unusedSimpArgs false
set_option linter.unnecessarySimpa false

def noHeap : IHeap := { size := 0, t := .leaf }
theorem noHeap_get (i : Nat) : noHeap.get i = none := IHeap.get_none (Nat.zero_le _)
theorem noHeap_ok : HOk noHeap := fun i L h => by rw [noHeap_get] at h; cases h
theorem noHeap_models (w : World) : Models (fun _ => none) noHeap w :=
  ⟨(fun i R o hg => by rw [noHeap_get] at hg; cases hg), (fun i j R R' h => by cases h), (fun i R h => by cases h)⟩
theorem step_below {ρ ρ' : Rho} {h h' : IHeap} {w w' : World} (s : Step ρ h w ρ' h' w') (hro : ∀ i o, h.get i = some o → o.isRo = true) : Below w.heap.size w w' :=
  ⟨s.os, s.tape, s.output, s.wsize, fun b hb => s.keep b hb (fun i R o hg _ _ => .inl (hro i o hg))⟩

def isT : Option (Value × IHeap) → Bool
  | some (.bool b, _) => b
  | _ => false
theorem isT_some {r : Option (Value × IHeap)} (h : isT r = true) : ∃ h', r = some (.bool true, h') := by
  unfold isT at h
  split at h
  · subst h; exact ⟨_, rfl⟩
  · cases h

def fnB (P : Program) (g : FuncId) : Bool := match P.funcs[g]? with
  | some fn => !(fn.name == "runtime.NumGoroutine") && (match fn.body with | some c => codeOk c | none => false)
  | none => false
def inL (L : List Nat) (g : Nat) : Bool := L.any fun k => Nat.beq k g
theorem inL_mem {L : List Nat} {g : Nat} (h : inL L g = true) : g ∈ L := by
  unfold inL at h
  rw [List.any_eq_true] at h
  obtain ⟨k, h1, h2⟩ := h
  have := Nat.eq_of_beq_eq_true h2
  subst this; exact h1
theorem fns_ok {P : Program} {L : List Nat} (h : ∀ g ∈ L, fnB P g = true) : FnsOk P (inL L) := by
  intro g hg
  have h1 := h g (inL_mem hg)
  unfold fnB at h1
  split at h1
  · rename_i fn hf
    simp only [Bool.and_eq_true, Bool.not_eq_true'] at h1
    obtain ⟨h2, h3⟩ := h1
    split at h3
    · rename_i c hc
      exact ⟨fn, c, hf, h2, hc, h3⟩
    · cases h3
  · cases h1

/-- A call whose arguments hold no address. -/
theorem calls_plain {P : Program} {f : FuncId} {args : Array Value} {h' : IHeap} (hc : ICall P f args noHeap (.bool true) h') (hp : args.all plainV = true) (W : World) : Calls P f args W fun e W' => e = .returned (.bool true) ∧ Below W.heap.size W W' := by
  rw [Array.all_eq_true_iff_forall_mem] at hp
  refine (hc.run (fun _ => none) W args ⟨rfl, fun i hi => plain_rel (hp _ (getD_mem hi))⟩ (noHeap_models W) (fun _ _ _ => rfl)).mono ?_
  rintro e W' ⟨ρ', v', rfl, s, m, hv⟩
  rw [hv.bool_inv]
  exact ⟨rfl, step_below s (fun i o hg => by rw [noHeap_get] at hg; cases hg)⟩
theorem calls_run {P : Program} {L : List Nat} (hL : ∀ g ∈ L, fnB P g = true) (hm : P.follows .mixedOrders = true) {m n : Nat} {f : FuncId} {args : Array Value} (hr : isT (xcall P (inL L) m n f args noHeap) = true) (hp : args.all plainV = true) (W : World) :
    Calls P f args W fun e W' => e = .returned (.bool true) ∧ Below W.heap.size W W' := by
  obtain ⟨h', hx⟩ := isT_some hr
  exact calls_plain (xcall_ok (fns_ok hL) hm noHeap_ok hx).1 hp W
end Go.Proofs.Ytfgaggpfdckggaa.Ideal
