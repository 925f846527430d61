import Derived.Test.YtfgaggpfdckggaaP18d
noncomputable section
open Go.Proofs
namespace Go.Proofs.Ytfgaggpfdckggaa.Ideal
set_option linter.unusedSimpArgs false
set_option linter.unusedVariables false
set_option linter.unusedSectionVars false
set_option linter.unnecessarySimpa false
theorem prime_of {M : Nat} (h : sizeB M = true) : ∀ x, 2 ≤ x → x < M → M % x ≠ 0 := by
  have hg := size_ge h
  have h1 := Ytfgaggpfdckggaa.Prim.sizeZ_in M (by omega) (by omega)
  unfold sizeB at h
  rw [h1, decide_eq_true_eq] at h
  have h2 := (Ytfgaggpfdckggaa.Prim.mf_spec M (by omega)).2.2.2
  rw [h] at h2
  exact h2
theorem cop_of {M S : Nat} (hp : ∀ x, 2 ≤ x → x < M → M % x ≠ 0) (h1 : 0 < S) (h2 : S < M) : Nat.Coprime M S := by
  have hd := Nat.gcd_dvd_left M S
  have hl := Nat.gcd_le_right M h1
  have hpos := Nat.gcd_pos_of_pos_right M h1
  show Nat.gcd M S = 1
  generalize Nat.gcd M S = g at *
  by_cases hg : 2 ≤ g
  · exact absurd (Nat.mod_eq_zero_of_dvd hd) (hp g hg (by omega))
  · omega
theorem sq_lt {o s m : Int} (hm : mayB o s m = true) {j k : Nat} (hk : k < m.toNat) (h : sq o s m j = sq o s m k) (hlt : j < k) : False := by
  obtain ⟨m7, mm, o0, o1, s1, s2⟩ := may_ge hm
  obtain ⟨M, rfl⟩ : ∃ M : Nat, m = M := ⟨m.toNat, by omega⟩
  obtain ⟨S, rfl⟩ : ∃ S : Nat, s = S := ⟨s.toNat, by omega⟩
  have hsz : sizeB M = true := by
    unfold mayB at hm
    simp only [Bool.and_eq_true] at hm
    exact hm.1.1.1.1
  have hc := cop_of (prime_of hsz) (S := S) (by omega) (by omega)
  unfold sq at h
  have h3 : ((M : Int)) ∣ (o + k * S) - (o + j * S) := Int.dvd_of_emod_eq_zero (Int.emod_eq_emod_iff_emod_sub_eq_zero.1 h.symm)
  have h4 : (o + k * S) - (o + j * S) = (((k - j) * S : Nat) : Int) := by
    obtain ⟨d, rfl⟩ : ∃ d, k = j + d := ⟨k - j, by omega⟩
    rw [show j + d - j = d by omega]
    push_cast
    rw [Int.add_mul]; omega
  rw [h4] at h3
  have h5 : M ∣ (k - j) * S := Int.ofNat_dvd.1 h3
  have h6 := hc.dvd_of_dvd_mul_right h5
  have h7 := Nat.le_of_dvd (by omega) h6
  simp at hk
  omega
theorem sq_inj {o s m : Int} (hm : mayB o s m = true) {j k : Nat} (hj : j < m.toNat) (hk : k < m.toNat) (h : sq o s m j = sq o s m k) : j = k := by
  rcases Nat.lt_trichotomy j k with hl | hl | hl
  · exact (sq_lt hm hk h hl).elim
  · exact hl
  · exact (sq_lt hm hj h.symm hl).elim
end Go.Proofs.Ytfgaggpfdckggaa.Ideal
