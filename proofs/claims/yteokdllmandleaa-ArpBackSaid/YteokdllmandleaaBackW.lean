import Derived.Test.YteokdllmandleaaP34m
import Derived.Test.YteokdllmandleaaArgW
noncomputable section
open Go.Proofs
namespace Go.Proofs.Yteokdllmandleaa.Ideal
open Go.RowKit
set_option linter.unusedSimpArgs false
set_option linter.unusedVariables false
theorem leaves_bysB {W : World} : ∀ {n : Nat} {cs : List Value}, Leaves W (List.replicate n (.int .u8)) cs → ∃ l : List Nat, cs = bys l ∧ l.length = n ∧ ∀ b ∈ l, b < 256
  | 0, cs, h => ⟨[], List.eq_nil_of_length_eq_zero h.1, rfl, by simp⟩
  | n + 1, cs, h => by
    obtain ⟨_, t1, rfl, ⟨a, rfl, hw⟩, l1⟩ := Leaves.cons_inv h
    obtain ⟨l, rfl, hl, hb⟩ := leaves_bysB l1
    have hw := wf_u8 hw
    refine ⟨a.toNat :: l, ?_, by simp [hl], fun x hx => ?_⟩
    · have : ((a.toNat : Nat) : Int) = a := by omega
      simp [bys, this]
    · rcases List.mem_cons.1 hx with rfl | hx
      · omega
      · exact hb x hx
theorem sub_mem {l : List Nat} {o k b : Nat} (h : b ∈ sub l o k) : b ∈ l := List.mem_of_mem_drop (List.mem_of_mem_take h)
theorem leaves_arB {W : World} {cs : List Value} (h : Leaves W [.int .u16, .int .u8, .int .u8, .int .u8, .int .u8, .int .u8, .int .u8, .int .u8, .int .u8, .int .u8, .int .u8, .int .u8, .int .u8, .int .u8, .int .u8, .int .u8, .int .u8, .int .u8, .int .u8, .int .u8, .int .u8] cs) : ∃ a : AR, cs = a.row ∧ a.op < 65536 ∧ (okOp a = true → ∀ b ∈ a.wl, b < 256) := by
  obtain ⟨_, t1, rfl, ⟨x, rfl, hw⟩, l1⟩ := h.cons_inv
  obtain ⟨l, rfl, hl, hb⟩ := leaves_bysB (n := 20) l1
  have hw := wf_u16 hw
  refine ⟨⟨x.toNat, sub l 0 6, sub l 6 6, sub l 12 4, sub l 16 4, sub_len (by omega), sub_len (by omega), sub_len (by omega), sub_len (by omega)⟩, ?_, by show x.toNat < 65536; omega, fun hok b hb' => ?_⟩
  · have : ((x.toNat : Nat) : Int) = x := by omega
    simp only [AR.row, this, sub_join l hl]
  · have hor : x.toNat = 1 ∨ x.toNat = 2 := by simpa [okOp] using hok
    simp only [AR.wl, List.mem_append] at hb'
    rcases hb' with (((hb' | hb') | hb') | hb') | hb'
    · simp only [List.mem_cons, List.not_mem_nil, or_false] at hb'
      omega
    · exact hb b (sub_mem hb')
    · exact hb b (sub_mem hb')
    · exact hb b (sub_mem hb')
    · exact hb b (sub_mem hb')
theorem plain_agg (l : List Nat) : plainV (.agg (bys l).toArray) = true := by
  simp only [plainV, bys]
  simp [scal]
theorem walkBack (c0 c1 : List Value) (A : Option Addr) (len cap : Nat) (rows : List (List Value)) (W : World)
    (l0 : Leaves W [.int .u16, .int .u8, .int .u8, .int .u8, .int .u8, .int .u8, .int .u8, .int .u8, .int .u8, .int .u8, .int .u8, .int .u8, .int .u8, .int .u8, .int .u8, .int .u8, .int .u8, .int .u8, .int .u8, .int .u8, .int .u8] c0) (l1 : Leaves W [.int .u8, .int .u8, .int .u8, .int .u8, .int .u8, .int .u8] c1)
    (w5 : rows.length = len ∧ len ≤ cap ∧ (A = none → len = 0 ∧ cap = 0) ∧ cap ≤ maxLen ∧ (∀ r ∈ rows, Leaves W [.int .u8] r) ∧ Cells W A rows.flatten) (t5 : ∀ x, A = some x → cap ≠ 0 → ∃ v, W.cell? x = some v) :
    Calls Try.prog 5 #[.agg c0.toArray, .agg c1.toArray, .slice A len cap] W fun e W' => e = .returned (.bool true) ∧ Below W.heap.size W W' := by
  obtain ⟨hlen, hlc, hnil, hmax, hlv, hcells⟩ := w5
  obtain ⟨bs, hbl, hfl, hbb⟩ := byte_rows hlv
  obtain rfl : bs.length = len := by omega
  rw [hfl] at hcells
  obtain ⟨a, rfl, hop, hab⟩ := leaves_arB l0
  obtain ⟨own, rfl, ho, _⟩ := leaves_bysB (n := 6) l1
  have pa : [Value.agg a.row.toArray, .agg (bys own).toArray].all plainV = true := by
    rw [List.all_cons, List.all_cons, plain_ar, plain_agg]
    rfl
  refine calls_slice1b (pre := [.agg a.row.toArray, .agg (bys own).toArray]) (post := []) pa rfl (cs := bys bs) (plain_bys bs) hnil hcells t5 ?_ ?_
  · intro h0
    have : bs = [] := List.eq_nil_of_length_eq_zero (by omega)
    subst this
    exact ⟨rfl, rfl⟩
  · intro A' ha
    exact (back_c (h := ro2 (bys bs) []) a hop hab ho ha hbb (ro2_get0 _ _)).icall
end Go.Proofs.Yteokdllmandleaa.Ideal
