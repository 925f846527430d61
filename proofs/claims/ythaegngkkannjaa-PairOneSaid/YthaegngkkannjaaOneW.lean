import Derived.Test.YthaegngkkannjaaOne
import Derived.Test.YthaegngkkannjaaSlice1
import Derived.Test.YthaegngkkannjaaOpen
noncomputable section
open Go.Proofs
namespace Go.Proofs.Ythaegngkkannjaa.Ideal
open Go.RowKit
set_option linter.unusedSimpArgs false
set_option linter.unusedVariables false
theorem walk (a0 a1 a2 : Int) (a3 a4 : Bool) (A : Option Addr) (len cap : Nat) (rows : List (List Value)) (W : World) (w0 : (Lit.int .i64 a0).wf = true) (w1 : (Lit.int .i64 a1).wf = true) (w2 : (Lit.int .i64 a2).wf = true)
    (w5 : rows.length = len ∧ len ≤ cap ∧ (A = none → len = 0 ∧ cap = 0) ∧ cap ≤ maxLen ∧ (∀ r ∈ rows, Leaves W [.bool] r) ∧ Cells W A rows.flatten) (t5 : ∀ x, A = some x → cap ≠ 0 → ∃ v, W.cell? x = some v) :
    Calls Try.prog 3 #[.int .i64 a0, .int .i64 a1, .int .i64 a2, .bool a3, .bool a4, .slice A len cap] W fun e W' => e = .returned (.bool true) ∧ Below W.heap.size W W' := by
  obtain ⟨hlen, hlc, hnil, hmax, hlv, hcells⟩ := w5
  obtain ⟨bs, hbl, hfl⟩ := bool_rows hlv
  obtain rfl : bs.length = len := by omega
  rw [hfl] at hcells
  refine calls_slice1 (pre := [.int .i64 a0, .int .i64 a1, .int .i64 a2, .bool a3, .bool a4]) (post := []) rfl rfl (cs := bs.map .bool) ?_ hnil hcells t5 ?_ ?_ ?_
  · intro v hv
    obtain ⟨b, _, rfl⟩ := List.mem_map.1 hv
    rfl
  · intro h0
    have : bs = [] := List.eq_nil_of_length_eq_zero (by omega)
    subst this
    exact ⟨rfl, rfl⟩
  · exact (one_c (h := noHeap) (A := none) (bs := []) (cap := 0) (fun h => absurd rfl h)).icall
  · refine (one_c (h := ro1 (bs.map .bool)) (A := some ⟨0, 0, none⟩) (bs := bs) (cap := cap) (fun _ => ⟨0, 0, true, 0, _, rfl, ro1_get0 _, fun j b hj => ?_⟩)).icall
    simp [hj]
end Go.Proofs.Ythaegngkkannjaa.Ideal
