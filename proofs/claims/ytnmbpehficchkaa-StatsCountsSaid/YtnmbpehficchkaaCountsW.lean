import Derived.Test.YtnmbpehficchkaaP44j
import Derived.Test.YtnmbpehficchkaaSlice1
import Derived.Test.YtnmbpehficchkaaSlice2
import Derived.Test.YtnmbpehficchkaaOpen
noncomputable section
open Go.Proofs
namespace Go.Proofs.Ytnmbpehficchkaa.Ideal
open Go.RowKit
set_option linter.unusedSimpArgs false
set_option linter.unusedVariables false
theorem wf_u64 {k : Int} (h : (Lit.int .u64 k).wf = true) : 0 ≤ k ∧ k < 18446744073709551616 := by
  simp [Lit.wf, IntKind.min, IntKind.max, IntKind.signed, IntKind.bits] at h
  omega
/-- Rows of one number. -/
theorem u64_rows {W : World} : ∀ {rows : List (List Value)}, (∀ r ∈ rows, Leaves W [.int .u64] r) → ∃ bs : List Nat, bs.length = rows.length ∧ rows.flatten = u64s bs ∧ ∀ b ∈ bs, b < 2 ^ 64
  | [], _ => ⟨[], rfl, rfl, by simp⟩
  | r :: rows, h => by
    obtain ⟨bs, h1, h2, h3⟩ := u64_rows (rows := rows) fun r hr => h r (by simp [hr])
    obtain ⟨_, t1, rfl, ⟨a, rfl, hw⟩, l1⟩ := (h r (by simp)).cons_inv
    obtain rfl := List.eq_nil_of_length_eq_zero l1.1
    have hw := wf_u64 hw
    refine ⟨a.toNat :: bs, by simp [h1], ?_, fun x hx => ?_⟩
    · have : ((a.toNat : Nat) : Int) = a := by omega
      simp [h2, u64s, this]
    · rcases List.mem_cons.1 hx with rfl | hx
      · omega
      · exact h3 x hx
theorem walkCounts (A : Option Addr) (len cap : Nat) (rows : List (List Value)) (B : Option Addr) (len2 cap2 : Nat) (rows2 : List (List Value)) (a0 a1 : Int) (W : World)
    (w5 : rows.length = len ∧ len ≤ cap ∧ (A = none → len = 0 ∧ cap = 0) ∧ cap ≤ maxLen ∧ (∀ r ∈ rows, Leaves W [.int .u64] r) ∧ Cells W A rows.flatten) (t5 : ∀ x, A = some x → cap ≠ 0 → ∃ v, W.cell? x = some v)
    (w6 : rows2.length = len2 ∧ len2 ≤ cap2 ∧ (B = none → len2 = 0 ∧ cap2 = 0) ∧ cap2 ≤ maxLen ∧ (∀ r ∈ rows2, Leaves W [.int .u64] r) ∧ Cells W B rows2.flatten) (t6 : ∀ x, B = some x → cap2 ≠ 0 → ∃ v, W.cell? x = some v) (w2 : (Lit.int .i64 a0).wf = true) (w3 : (Lit.int .i64 a1).wf = true) :
    Calls Try.prog 5 #[.slice A len cap, .slice B len2 cap2, .int .i64 a0, .int .i64 a1] W fun e W' => e = .returned (.bool true) ∧ Below W.heap.size W W' := by
  obtain ⟨hlen, hlc, hnil, hmax, hlv, hcells⟩ := w5
  obtain ⟨hlen2, hlc2, hnil2, hmax2, hlv2, hcells2⟩ := w6
  obtain ⟨bs, hbl, hfl, hbb⟩ := u64_rows hlv
  obtain rfl : bs.length = len := by omega
  obtain ⟨rs, hrl, hfr, hrb⟩ := u64_rows hlv2
  obtain rfl : rs.length = len2 := by omega
  rw [hfl] at hcells
  rw [hfr] at hcells2
  refine calls_slice2 (pre := []) (mid := []) (post := [.int .i64 a0, .int .i64 a1]) rfl rfl rfl (cs := u64s bs) (ds := u64s rs) ?_ ?_ hnil hcells t5 ?_ hnil2 hcells2 t6 ?_ ?_
  · intro v hv
    obtain ⟨b, _, rfl⟩ := List.mem_map.1 hv
    rfl
  · intro v hv
    obtain ⟨b, _, rfl⟩ := List.mem_map.1 hv
    rfl
  · intro h0
    have : bs = [] := List.eq_nil_of_length_eq_zero (by omega)
    subst this
    exact ⟨rfl, rfl⟩
  · intro h0
    have : rs = [] := List.eq_nil_of_length_eq_zero (by omega)
    subst this
    exact ⟨rfl, rfl⟩
  · intro A' B' ha hb
    exact (counts_c (h := ro2 (u64s bs) (u64s rs)) ha hb hbb hrb (ro2_get0 _ _) (ro2_get1 _ _)).icall
end Go.Proofs.Ytnmbpehficchkaa.Ideal
