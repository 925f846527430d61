/- ArpAnswers: the walk, as the row opens its arguments. -/
import Derived.Test.YteokdllmandleaaArpLawA
namespace Go.Proofs.Yteokdllmandleaa.Arp
set_option linter.unusedVariables false
open Go.RowKit

theorem flat_rows (w : World) : ∀ (rows : List (List Value)), (∀ r ∈ rows, Leaves w (List.replicate 4 (.int .u8)) r) → ∃ l : List (Nat → UInt8), l.length = rows.length ∧ rows.flatten = encIPs l
  | [], _ => ⟨[], rfl, rfl⟩
  | r :: rows, h => by
    obtain ⟨us, hl, rfl⟩ := Leaves.bytes_inv 4 r (h r (by simp))
    obtain ⟨l, h1, h2⟩ := flat_rows w rows (fun r hr => h r (by simp [hr]))
    match us, hl with
    | [a, b, c, d], _ => exact ⟨vec [a, b, c, d] :: l, by simp [h1], by rw [List.flatten_cons, h2]; rfl⟩

theorem answers_walk (c0 c1 : List Value) (A : Option Addr) (len cap : Nat) (rows : List (List Value)) (W : World) (l0 : Leaves W (.int .u16 :: List.replicate 20 (.int .u8)) c0) (l1 : Leaves W (List.replicate 6 (.int .u8)) c1)
    (hr : rows.length = len ∧ len ≤ cap ∧ (A = none → len = 0 ∧ cap = 0) ∧ cap ≤ maxLen ∧ (∀ r ∈ rows, Leaves W (List.replicate 4 (.int .u8)) r) ∧ Cells W A rows.flatten) :
    Calls Try.prog 3 #[.agg c0.toArray, .agg c1.toArray, .slice A len cap] W fun e W' => e = .returned (.bool true) ∧ Below W.heap.size W W' := by
  obtain ⟨v, vs, rfl, ⟨op, rfl, hop⟩, h2⟩ := l0.cons_inv
  obtain ⟨us, hus, rfl⟩ := h2.bytes_inv
  obtain ⟨os, hos, rfl⟩ := l1.bytes_inv
  obtain ⟨rfl, hlc, hA, hm, hrows, hc⟩ := hr
  obtain ⟨l, hl, hf⟩ := flat_rows W rows hrows
  rw [hf] at hc
  rw [← hl] at hA hlc ⊢
  have hm' : l.length ≤ 9223372036854775807 := by unfold maxLen at hm; omega
  match us, hus, os, hos with
  | [u0, u1, u2, u3, u4, u5, u6, u7, u8, u9, u10, u11, u12, u13, u14, u15, u16, u17, u18, u19], _, [o0, o1, o2, o3, o4, o5], _ =>
    exact law_answers op (vec [u0, u1, u2, u3, u4, u5]) (vec [u6, u7, u8, u9, u10, u11]) (vec [u12, u13, u14, u15]) (vec [u16, u17, u18, u19]) (vec [o0, o1, o2, o3, o4, o5]) hop A cap l W hA hc hm'
end Go.Proofs.Yteokdllmandleaa.Arp
