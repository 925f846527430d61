import Derived.Test.YtkecaobcchnilaaP09e
import Derived.Test.YtkecaobcchnilaaSlice1
import Derived.Test.YtkecaobcchnilaaOpen
noncomputable section
open Go.Proofs
namespace Go.Proofs.Ytkecaobcchnilaa.Ideal
open Go.RowKit
set_option linter.unusedSimpArgs false
set_option linter.unusedVariables false
theorem wf_u8 {k : Int} (h : (Lit.int .u8 k).wf = true) : 0 ≤ k ∧ k < 256 := by
  simp [Lit.wf, IntKind.min, IntKind.max, IntKind.signed, IntKind.bits] at h
  omega
/-- Rows of one byte. -/
theorem byte_rows {W : World} : ∀ {rows : List (List Value)}, (∀ r ∈ rows, Leaves W [.int .u8] r) → ∃ bs : List Int, bs.length = rows.length ∧ rows.flatten = bs.map (.int .u8 ·) ∧ ∀ b ∈ bs, 0 ≤ b ∧ b < 256
  | [], _ => ⟨[], rfl, rfl, by simp⟩
  | r :: rows, h => by
    obtain ⟨bs, h1, h2, h3⟩ := byte_rows (rows := rows) fun r hr => h r (by simp [hr])
    obtain ⟨_, t1, rfl, ⟨b, rfl, hw⟩, l1⟩ := (h r (by simp)).cons_inv
    obtain rfl := List.eq_nil_of_length_eq_zero l1.1
    refine ⟨b :: bs, by simp [h1], by simp [h2], fun x hx => ?_⟩
    rcases List.mem_cons.1 hx with rfl | hx
    · exact wf_u8 hw
    · exact h3 x hx
theorem walkOnce (a0 : Int) (A : Option Addr) (len cap : Nat) (rows : List (List Value)) (W : World) (w0 : (Lit.int .u8 a0).wf = true)
    (w5 : rows.length = len ∧ len ≤ cap ∧ (A = none → len = 0 ∧ cap = 0) ∧ cap ≤ maxLen ∧ (∀ r ∈ rows, Leaves W [.int .u8] r) ∧ Cells W A rows.flatten) (t5 : ∀ x, A = some x → cap ≠ 0 → ∃ v, W.cell? x = some v) :
    Calls Try.prog 3 #[.int .u8 a0, .slice A len cap] W fun e W' => e = .returned (.bool true) ∧ Below W.heap.size W W' := by
  obtain ⟨hlen, hlc, hnil, hmax, hlv, hcells⟩ := w5
  obtain ⟨bs, hbl, hfl, hbb⟩ := byte_rows hlv
  obtain rfl : bs.length = len := by omega
  rw [hfl] at hcells
  refine calls_slice1 (pre := [.int .u8 a0]) (post := []) rfl rfl (cs := bs.map (.int .u8 ·)) ?_ hnil hcells t5 ?_ ?_ ?_
  · intro v hv
    obtain ⟨b, _, rfl⟩ := List.mem_map.1 hv
    rfl
  · intro h0
    have : bs = [] := List.eq_nil_of_length_eq_zero (by omega)
    subst this
    exact ⟨rfl, rfl⟩
  · exact (once_c (h := noHeap) (A := none) (bs := []) (cap := 0) (wf_u8 w0) (by simp) (fun h => absurd rfl h)).icall
  · refine (once_c (h := ro1 (bs.map (.int .u8 ·))) (A := some ⟨0, 0, none⟩) (bs := bs) (cap := cap) (wf_u8 w0) hbb (fun _ => ⟨0, 0, true, 0, _, rfl, ro1_get0 _, fun j b hj => ?_⟩)).icall
    simp [hj]
end Go.Proofs.Ytkecaobcchnilaa.Ideal
