import Derived.Test.YteokdllmandleaaArgW
noncomputable section
open Go.Proofs
namespace Go.Proofs.Yteokdllmandleaa.Ideal
open Go.RowKit
set_option linter.unusedSimpArgs false
set_option linter.unusedVariables false
theorem walkReads (A : Option Addr) (len cap : Nat) (rows : List (List Value)) (c1 : List Value) (W : World)
    (w5 : rows.length = len ∧ len ≤ cap ∧ (A = none → len = 0 ∧ cap = 0) ∧ cap ≤ maxLen ∧ (∀ r ∈ rows, Leaves W [.int .u8] r) ∧ Cells W A rows.flatten) (t5 : ∀ x, A = some x → cap ≠ 0 → ∃ v, W.cell? x = some v)
    (l1 : Leaves W [.int .u16, .int .u8, .int .u8, .int .u8, .int .u8, .int .u8, .int .u8, .int .u8, .int .u8, .int .u8, .int .u8, .int .u8, .int .u8, .int .u8, .int .u8, .int .u8, .int .u8, .int .u8, .int .u8, .int .u8, .int .u8] c1) :
    Calls Try.prog 4 #[.slice A len cap, .agg c1.toArray] W fun e W' => e = .returned (.bool true) ∧ Below W.heap.size W W' := by
  obtain ⟨hlen, hlc, hnil, hmax, hlv, hcells⟩ := w5
  obtain ⟨bs, hbl, hfl, hbb⟩ := byte_rows hlv
  obtain rfl : bs.length = len := by omega
  rw [hfl] at hcells
  obtain ⟨a, rfl, hop⟩ := leaves_ar l1
  have pa : [Value.agg a.row.toArray].all plainV = true := by
    rw [List.all_cons, plain_ar]
    rfl
  refine calls_slice1b (pre := []) (post := [.agg a.row.toArray]) rfl pa (cs := bys bs) (plain_bys bs) hnil hcells t5 ?_ ?_
  · intro h0
    have : bs = [] := List.eq_nil_of_length_eq_zero (by omega)
    subst this
    exact ⟨rfl, rfl⟩
  · intro A' ha
    exact (reads_c (h := ro2 (bys bs) []) a hop ha hbb (ro2_get0 _ _)).icall
end Go.Proofs.Yteokdllmandleaa.Ideal
