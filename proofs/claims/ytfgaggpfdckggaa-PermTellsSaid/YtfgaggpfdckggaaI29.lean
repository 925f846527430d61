/- Equations for simp: an array's slice, bytes as a string. -/
import Derived.Test.YtfgaggpfdckggaaI28
noncomputable section
namespace Go.Proofs.Ytfgaggpfdckggaa.Ideal
open Go.RowKit
set_option linter.unusedVariables false
set_option linter.unusedSimpArgs false
set_option linter.unnecessarySimpa false

variable {P : Program} {rd : Option Nat} {draw : Bool} {all : Array Oper} {os : List Oper} {e : XEnv} {h : IHeap}
/-- A value if there is one, else what the model's own text says. -/
def jopt (o : Option (Value × Kind)) [R : Hid Prop] [K : Hid (Value → Kind → Prop)] : Prop := match o with | some v => K.ap v.1 v.2 | none => R.ap
theorem jopt_some (v : Value × Kind) [R : Hid Prop] [K : Hid (Value → Kind → Prop)] : jopt (some v) = K.ap v.1 v.2 := byEq rfl
/-- An array's first elements. -/
def arrCut (P : Program) (t : TypeId) (x y : Value) : Option (Value × Kind) := match x, y with
  | .pointer (some ⟨i, q, none⟩), .int _ n => (match arrOf P t with
    | some (N, s) => if 0 ≤ n ∧ n ≤ N ∧ N ≠ 0 then some (.slice (some ⟨i, q, none⟩) n.toNat N, .pure) else none
    | none => none)
  | _, _ => none
theorem arrCut_eq (t : TypeId) (i q N s : Nat) (k : IntKind) (n : Int) (ha : arrOf P t = some (N, s)) (h0 : 0 ≤ n) (h1 : n ≤ N) (h2 : N ≠ 0) : arrCut P t (.pointer (some ⟨i, q, none⟩)) (.int k n) = some (.slice (some ⟨i, q, none⟩) n.toNat N, .pure) := by
  simp [arrCut, ha, h0, h1, h2]
/-- Bytes as a string. -/
def bytesStr (P : Program) (h : IHeap) (s t : TypeId) (x : Value) : Option (Value × Kind) := match x, P.underlying s, P.underlying t with
  | .slice (some ⟨i, q, none⟩) n _, some (.slice te), some .string => if isU8 P te = true ∧ n ≠ 0 then (match h.get i with
    | some (.row _ _ cs) => (match slots cs q n with
      | some vs => (match intsOf vs with
        | some m => some (.string (strOf m), .read i)
        | none => none)
      | none => none)
    | _ => none) else none
  | _, _, _ => none
theorem bytesStr_eq {s t te : TypeId} {i q n c : Nat} {ro : Bool} {esz : Nat} {cs vs : List Value} {m : List Int} (hs : P.underlying s = some (.slice te)) (ht : P.underlying t = some .string) (hu : isU8 P te = true) (hn : n ≠ 0) (hg : h.get i = some (.row ro esz cs)) (hv : slots cs q n = some vs) (hm : intsOf vs = some m) :
    bytesStr P h s t (.slice (some ⟨i, q, none⟩) n c) = some (.string (strOf m), .read i) := by
  simp [bytesStr, hs, ht, hu, hn, hg, hv, hm]
variable (d : Option Tmp) (ty : TypeId) (p : String) (af : Array Edge) (g : Option (Nat × Bool))
variable [Q : Hid (XEnv → IHeap → Prop)] [E : Hid (List Ent)]
theorem wdo_arrCut (t : TypeId) (x y : Operand) : wdo P draw all ⟨d, .slice t x none (some y) none, ty, p, af, g⟩ os e h = jopt (arrCut P t (e.ev x) (e.ev y)) (R := ⟨jgen P e ⟨d, .slice t x none (some y) none, ty, p, af, g⟩ h (K := ⟨fun v h' k => wnx P draw all os e d h v h' k⟩)⟩) (K := ⟨fun v k => wnx P draw all os e d h v h k⟩) := by
  have e1 : wdo P draw all ⟨d, .slice t x none (some y) none, ty, p, af, g⟩ os e h = jgen P e ⟨d, .slice t x none (some y) none, ty, p, af, g⟩ h (K := ⟨fun v h' k => wnx P draw all os e d h v h' k⟩) := byEq rfl
  rw [e1]
  unfold jopt
  split
  · rename_i r hr
    unfold arrCut at hr
    split at hr
    · rename_i i q k n hx hy
      split at hr
      · rename_i N s ha
        split at hr
        · rename_i hc
          obtain ⟨h0, h1, h2⟩ := hc
          cases hr
          have hb : bounds N N (none : Option Value) (some (.int k n)) none = some (0, n.toNat, N) := by
            have : n.toNat ≤ N := by omega
            simp [bounds, bnd, h0, h1, this]
          have hne : (N == 0) = false := by simpa using h2
          simp [jgen, iop, islice, hx, hy, ipure, ha, hb, cutAddr, hne, kindOf, Hid.ap_mk]
        · cases hr
      · cases hr
    · cases hr
  · simp [Hid.ap_mk]
theorem wdo_bytesStr (s t : TypeId) (x : Operand) : wdo P draw all ⟨d, .convert s t x, ty, p, af, g⟩ os e h = jopt (bytesStr P h s t (e.ev x)) (R := ⟨jcvt P e ⟨d, .convert s t x, ty, p, af, g⟩ h (e.ev x) (P.underlying s) (P.underlying t) (K := ⟨fun v h' k => wnx P draw all os e d h v h' k⟩)⟩) (K := ⟨fun v k => wnx P draw all os e d h v h k⟩) := by
  rw [wdo_convert]
  unfold jopt
  split
  · rename_i r hr
    unfold bytesStr at hr
    split at hr
    · rename_i i q n c te hx hs ht
      split at hr
      · rename_i hc
        split at hr
        · rename_i ro esz cs hg
          split at hr
          · rename_i vs hv
            split at hr
            · rename_i m hm
              cases hr
              simp [jcvt, hx, hs, ht, jgen, iop, icvt, hc.1, hc.2, hg, hv, hm, kindOf, Hid.ap_mk]
            · cases hr
          · cases hr
        · cases hr
      · cases hr
    · cases hr
  · simp [Hid.ap_mk]
end Go.Proofs.Ytfgaggpfdckggaa.Ideal
