import Derived.Test.YtnmbpehficchkaaP44zb
import Derived.Test.YtnmbpehficchkaaSlice1
import Derived.Test.YtnmbpehficchkaaSlice2
import Derived.Test.YtnmbpehficchkaaOpen
noncomputable section
open Go.Proofs
namespace Go.Proofs.Ytnmbpehficchkaa.Ideal
open Go.RowKit
set_option linter.unusedSimpArgs false
set_option linter.unusedVariables false
theorem wf_u8 {k : Int} (h : (Lit.int .u8 k).wf = true) : 0 ≤ k ∧ k < 256 := by
  simp [Lit.wf, IntKind.min, IntKind.max, IntKind.signed, IntKind.bits] at h
  omega
theorem u8_rows {W : World} : ∀ {rows : List (List Value)}, (∀ r ∈ rows, Leaves W [.int .u8] r) → ∃ bs : List Nat, bs.length = rows.length ∧ rows.flatten = u8s bs ∧ ∀ x ∈ bs, x < 256
  | [], _ => ⟨[], rfl, rfl, by simp⟩
  | r :: rows, h => by
    obtain ⟨bs, h1, h2, h3⟩ := u8_rows (rows := rows) fun r hr => h r (by simp [hr])
    obtain ⟨_, t1, rfl, ⟨a, rfl, hw⟩, l1⟩ := (h r (by simp)).cons_inv
    obtain rfl := List.eq_nil_of_length_eq_zero l1.1
    have hw := wf_u8 hw
    refine ⟨a.toNat :: bs, by simp [h1], ?_, fun x hx => ?_⟩
    · have : ((a.toNat : Nat) : Int) = a := by omega
      simp [h2, u8s, this]
    · rcases List.mem_cons.1 hx with rfl | hx
      · omega
      · exact h3 x hx
theorem walkBounds (a0 : Int) (A : Option Addr) (len cap : Nat) (rows : List (List Value)) (B : Option Addr) (len2 cap2 : Nat) (rows2 : List (List Value)) (W : World) (w0 : (Lit.int .i64 a0).wf = true)
    (w5 : rows.length = len ∧ len ≤ cap ∧ (A = none → len = 0 ∧ cap = 0) ∧ cap ≤ maxLen ∧ (∀ r ∈ rows, Leaves W [.int .u8] r) ∧ Cells W A rows.flatten) (t5 : ∀ x, A = some x → cap ≠ 0 → ∃ v, W.cell? x = some v)
    (w6 : rows2.length = len2 ∧ len2 ≤ cap2 ∧ (B = none → len2 = 0 ∧ cap2 = 0) ∧ cap2 ≤ maxLen ∧ (∀ r ∈ rows2, Leaves W [.int .u8] r) ∧ Cells W B rows2.flatten) (t6 : ∀ x, B = some x → cap2 ≠ 0 → ∃ v, W.cell? x = some v) :
    Calls Try.prog 4 #[.int .i64 a0, .slice A len cap, .slice B len2 cap2] W fun e W' => e = .returned (.bool true) ∧ Below W.heap.size W W' := by
  obtain ⟨hlen, hlc, hnil, hmax, hlv, hcells⟩ := w5
  obtain ⟨hlen2, hlc2, hnil2, hmax2, hlv2, hcells2⟩ := w6
  obtain ⟨bs, hbl, hfl, hbb⟩ := u8_rows hlv
  obtain rfl : bs.length = len := by omega
  obtain ⟨rs, hrl, hfr, hrb⟩ := u8_rows hlv2
  obtain rfl : rs.length = len2 := by omega
  rw [hfl] at hcells
  rw [hfr] at hcells2
  have mx : maxLen = 9223372036854775807 := by decide
  refine calls_slice2 (pre := [.int .i64 a0]) (mid := []) (post := []) rfl rfl rfl (cs := u8s bs) (ds := u8s rs) ?_ ?_ hnil hcells t5 ?_ hnil2 hcells2 t6 ?_ ?_
  · intro v hv
    obtain ⟨b, _, rfl⟩ := List.mem_map.1 hv
    rfl
  · intro v hv
    obtain ⟨b, _, rfl⟩ := List.mem_map.1 hv
    rfl
  · intro h0
    have : bs = [] := List.eq_nil_of_length_eq_zero (by omega)
    subst this
    exact ⟨rfl, rfl⟩
  · intro h0
    have : rs = [] := List.eq_nil_of_length_eq_zero (by omega)
    subst this
    exact ⟨rfl, rfl⟩
  · intro A' B' ha hb
    have key : ∀ {b : Nat} {A : Option Addr} {l : List Nat} {c : Nat} {h : IHeap}, SlArg b A l.length c → h.get b = some (.row true 0 (u8s l)) → ArgB h b A l := fun ha hg hne => by
      rcases ha with ⟨_, e, _⟩ | e
      · exact absurd (List.eq_nil_of_length_eq_zero e) hne
      · exact ⟨e, hg⟩
    obtain ⟨v, h', cc, hv⟩ := bounds_c (h := ro2 (u8s bs) (u8s rs)) (k := a0) (ca := cap) (cb := cap2) (key ha (ro2_get0 _ _)) (key hb (ro2_get1 _ _)) hbb hrb (by rw [ro2_size]; exact Nat.le_refl _) (by omega) (by omega)
    obtain rfl : v = .bool true := hv
    exact ⟨h', cc⟩
end Go.Proofs.Ytnmbpehficchkaa.Ideal
