/- Equations for simp: maps. -/
import Derived.Test.YtfgaggpfdckggaaI29
noncomputable section
namespace Go.Proofs.Ytfgaggpfdckggaa.Ideal
open Go.RowKit
set_option linter.unusedVariables false
set_option linter.unusedSimpArgs false
set_option linter.unnecessarySimpa false
variable {P : Program} {rd : Option Nat} {draw : Bool} {all : Array Oper} {os : List Oper} {e : XEnv} {h : IHeap}
variable (d : Option Tmp) (ty : TypeId) (p : String) (af : Array Edge) (g : Option (Nat × Bool))
variable [Q : Hid (XEnv → IHeap → Prop)] [E : Hid (List Ent)]
theorem wdo_lookup (t : TypeId) (x k : Operand) (ok : Bool) : wdo P draw all ⟨d, .lookup t x k ok, ty, p, af, g⟩ os e h = atSome (ilookup P h t (e.ev x) (e.ev k) ok) (K := ⟨fun r => wnx P draw all os e d h r.1 h (match r.2 with | some i => .read i | none => .pure)⟩) := by
  have e1 : wdo P draw all ⟨d, .lookup t x k ok, ty, p, af, g⟩ os e h = jgen P e ⟨d, .lookup t x k ok, ty, p, af, g⟩ h (K := ⟨fun v h' k => wnx P draw all os e d h v h' k⟩) := byEq rfl
  rw [e1]
  cases hl : ilookup P h t (e.ev x) (e.ev k) ok with
  | none => simp [jgen, iop, hl, atSome]
  | some r =>
    obtain ⟨v, r⟩ := r
    cases r <;> simp [jgen, iop, hl, atSome, kindOf, Hid.ap_mk]
theorem wdo_mapUpdate (t : TypeId) (x k u : Operand) : wdo P draw all ⟨d, .mapUpdate t x k u, ty, p, af, g⟩ os e h = atSome (iupdate P h t (e.ev x) (e.ev k) (e.ev u)) (K := ⟨fun h' => wnx P draw all os e d h undef h' .heavy⟩) := by
  have e1 : wdo P draw all ⟨d, .mapUpdate t x k u, ty, p, af, g⟩ os e h = jgen P e ⟨d, .mapUpdate t x k u, ty, p, af, g⟩ h (K := ⟨fun v h' k => wnx P draw all os e d h v h' k⟩) := byEq rfl
  rw [e1]
  cases hl : iupdate P h t (e.ev x) (e.ev k) (e.ev u) <;> simp [jgen, iop, hl, atSome, kindOf, Hid.ap_mk]
theorem wdo_makeMap (t : TypeId) : wdo P draw all ⟨d, .makeMap t none, ty, p, af, g⟩ os e h = wnx P draw all os e d h (.map (some h.size)) (h.push (.map [] 0)) .alloc := by
  have e1 : wdo P draw all ⟨d, .makeMap t none, ty, p, af, g⟩ os e h = jgen P e ⟨d, .makeMap t none, ty, p, af, g⟩ h (K := ⟨fun v h' k => wnx P draw all os e d h v h' k⟩) := byEq rfl
  rw [e1]
  simp [jgen, iop, pushH_eq, kindOf, Hid.ap_mk]
end Go.Proofs.Ytfgaggpfdckggaa.Ideal
