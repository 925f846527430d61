import Derived.Test.YthaegngkkannjaaTerms
import Derived.Test.YthaegngkkannjaaSlice2
import Derived.Test.YthaegngkkannjaaOpen
noncomputable section
open Go.Proofs
namespace Go.Proofs.Ythaegngkkannjaa.Ideal
open Go.RowKit
set_option linter.unusedSimpArgs false
set_option linter.unusedVariables false
theorem wf_u8 {k : Int} (h : (Lit.int .u8 k).wf = true) : 0 ≤ k ∧ k < 256 := by
  simp [Lit.wf, IntKind.min, IntKind.max, IntKind.signed, IntKind.bits] at h
  omega
/-- Rows of one byte. -/
theorem byte_rows {W : World} : ∀ {rows : List (List Value)}, (∀ r ∈ rows, Leaves W [.int .u8] r) → ∃ bs : List Int, bs.length = rows.length ∧ rows.flatten = bs.map (.int .u8) ∧ ∀ b ∈ bs, 0 ≤ b ∧ b < 256
  | [], _ => ⟨[], rfl, rfl, by simp⟩
  | r :: rows, h => by
    obtain ⟨bs, h1, h2, h3⟩ := byte_rows (rows := rows) fun r hr => h r (by simp [hr])
    obtain ⟨_, t1, rfl, ⟨a, rfl, hw⟩, l1⟩ := (h r (by simp)).cons_inv
    obtain rfl := List.eq_nil_of_length_eq_zero l1.1
    refine ⟨a :: bs, by simp [h1], by simp [h2], fun x hx => ?_⟩
    rcases List.mem_cons.1 hx with rfl | hx
    · exact wf_u8 hw
    · exact h3 x hx
theorem walkTerms (a0 a1 a2 : Int) (A : Option Addr) (len cap : Nat) (rows : List (List Value)) (B : Option Addr) (len2 cap2 : Nat) (rows2 : List (List Value)) (W : World) (w0 : (Lit.int .i64 a0).wf = true) (w1 : (Lit.int .i64 a1).wf = true) (w2 : (Lit.int .i64 a2).wf = true)
    (w5 : rows.length = len ∧ len ≤ cap ∧ (A = none → len = 0 ∧ cap = 0) ∧ cap ≤ maxLen ∧ (∀ r ∈ rows, Leaves W [.bool] r) ∧ Cells W A rows.flatten) (t5 : ∀ x, A = some x → cap ≠ 0 → ∃ v, W.cell? x = some v)
    (w6 : rows2.length = len2 ∧ len2 ≤ cap2 ∧ (B = none → len2 = 0 ∧ cap2 = 0) ∧ cap2 ≤ maxLen ∧ (∀ r ∈ rows2, Leaves W [.int .u8] r) ∧ Cells W B rows2.flatten) (t6 : ∀ x, B = some x → cap2 ≠ 0 → ∃ v, W.cell? x = some v) :
    Calls Try.prog 4 #[.int .i64 a0, .int .i64 a1, .int .i64 a2, .slice A len cap, .slice B len2 cap2] W fun e W' => e = .returned (.bool true) ∧ Below W.heap.size W W' := by
  obtain ⟨hlen, hlc, hnil, hmax, hlv, hcells⟩ := w5
  obtain ⟨hlen2, hlc2, hnil2, hmax2, hlv2, hcells2⟩ := w6
  obtain ⟨bs, hbl, hfl⟩ := bool_rows hlv
  obtain rfl : bs.length = len := by omega
  obtain ⟨rs, hrl, hfr, hrb⟩ := byte_rows hlv2
  obtain rfl : rs.length = len2 := by omega
  rw [hfl] at hcells
  rw [hfr] at hcells2
  refine calls_slice2 (pre := [.int .i64 a0, .int .i64 a1, .int .i64 a2]) (mid := []) (post := []) rfl rfl rfl (cs := bs.map .bool) (ds := rs.map (.int .u8)) ?_ ?_ hnil hcells t5 ?_ hnil2 hcells2 t6 ?_ ?_
  · intro v hv
    obtain ⟨b, _, rfl⟩ := List.mem_map.1 hv
    rfl
  · intro v hv
    obtain ⟨b, _, rfl⟩ := List.mem_map.1 hv
    rfl
  · intro h0
    have : bs = [] := List.eq_nil_of_length_eq_zero (by omega)
    subst this
    exact ⟨rfl, rfl⟩
  · intro h0
    have : rs = [] := List.eq_nil_of_length_eq_zero (by omega)
    subst this
    exact ⟨rfl, rfl⟩
  · intro A' B' ha hb
    refine (terms_c (h := ro2 (bs.map .bool) (rs.map (.int .u8))) (A := A') (bs := bs) (cap := cap) (R := B') (rs := rs) (cap2 := cap2) ?_ ?_ hrb).icall
    · intro hne
      rcases ha with ⟨_, h2, _⟩ | h
      · have : bs = [] := List.eq_nil_of_length_eq_zero (by omega)
        subst this
        exact absurd rfl hne
      · exact ⟨0, 0, true, 0, _, h, ro2_get0 _ _, fun j b hj => by simpa using hj⟩
    · intro hne
      rcases hb with ⟨_, h2, _⟩ | h
      · have : rs = [] := List.eq_nil_of_length_eq_zero (by omega)
        subst this
        exact absurd rfl hne
      · exact ⟨1, 0, true, 0, _, h, ro2_get1 _ _, fun j b hj => by simpa using hj⟩
end Go.Proofs.Ythaegngkkannjaa.Ideal
