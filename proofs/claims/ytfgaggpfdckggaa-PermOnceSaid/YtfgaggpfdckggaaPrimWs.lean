/- The walks of package prime: Least, Is and Size answer what the plain functions leastZ, isZ and sizeZ say; nothing in memory changes. -/
import Derived.Test.YtfgaggpfdckggaaBase
import Derived.Test.YtfgaggpfdckggaaPrimM
import Derived.Deep.LoopGhost
namespace Go.Proofs.Ytfgaggpfdckggaa.Prim
set_option linter.unusedVariables false
set_option linter.unusedSimpArgs false
open Go.RowKit

theorem wfi (n : Int) (h : -9223372036854775808 ≤ n ∧ n ≤ 9223372036854775807) : (Lit.int .i64 n).wf = true := by
  simp [Lit.wf, IntKind.min, IntKind.max, IntKind.signed, IntKind.bits]; omega

set_option maxHeartbeats 400000 in
theorem least_calls (n : Int) (w : World) :
    Calls Try.prog 24 #[.int .i64 n] w fun e w' => e = .returned (.int .i64 (leastZ n)) ∧ w = w' := by
  by_cases h1 : n < 2
  · have e := Hd.mk (leastZ_out n (.inl h1))
    have h1b : decide (n < 2) = true := decide_eq_true h1
    go_enter Try.func24, Try.ntmps24
    go_wp2
    go_ret
    exact ⟨ret_int e.out.symm, rfl⟩
  · by_cases h2 : 1048576 < n
    · have e := Hd.mk (leastZ_out n (.inr h2))
      have h1b : decide (n < 2) = false := decide_eq_false h1
      go_enter Try.func24, Try.ntmps24
      go_wp2
      go_ret
      exact ⟨ret_int e.out.symm, rfl⟩
    · obtain ⟨m, rfl⟩ := Int.eq_ofNat_of_zero_le (show 0 ≤ n by omega)
      have hm2 : 2 ≤ m := by omega
      have hm : m ≤ 1048576 := by omega
      have e := Hd.mk (leastZ_in m hm2 hm)
      have h1b : decide ((m : Int) < 2) = false := decide_eq_false h1
      have h2b : decide ((m : Int) > 1048576) = false := decide_eq_false h2
      clear h1 h2
      go_enter Try.func24, Try.ntmps24
      go_wp2
      go_loop [3] (fun d => ∃ k : Nat, 2 ≤ k ∧ k ≤ 1025 ∧ k ≤ m ∧ d = .int .i64 k ∧ Hd (∀ x, 2 ≤ x → x < k → m % x ≠ 0)) (fun d => 1026 - (intOf d).toNat)
      case atStart => exact ⟨2, by omega, by omega, by omega, rfl, ⟨fun x a b => by omega⟩⟩
      case round =>
        obtain ⟨k, hk2, hk, hkm, rfl, hx⟩ := hrel
        have hkk : (k : Int) * (k : Int) ≤ 1050625 := by have h3 := Nat.mul_le_mul hk hk; omega
        have hkk0 : 0 ≤ (k : Int) * (k : Int) := by exact_mod_cast Nat.zero_le (k * k)
        by_cases hlt : k * k ≤ m
        · have hltb : decide ((k : Int) * (k : Int) ≤ (m : Int)) = true := decide_eq_true (by exact_mod_cast hlt)
          go_wp2
          · have hz : m % k = 0 := by
              have h : ((m : Int) % (k : Int) == 0) = true := by assumption
              have h' := beq_iff_eq.mp h
              exact_mod_cast h'
            have hm' := mf_unique m k hm2 hk2 hz hx.out
            go_ret
            exact ⟨ret_int (by rw [e.out, hm']), rfl⟩
          · have hz : m % k ≠ 0 := by
              have h : ((m : Int) % (k : Int) == 0) = false := by assumption
              have h' := beq_eq_false_iff_ne.mp h
              exact_mod_cast h'
            have hk1 : k < 1025 := by
              refine Nat.lt_of_not_le (fun l => ?_)
              have := Nat.mul_le_mul l l
              omega
            have hkm1 : k < m := by
              refine Nat.lt_of_le_of_ne hkm (fun c => hz ?_)
              rw [c]; exact Nat.mod_self _
            refine ⟨⟨k + 1, by omega, by omega, by omega, by go_num, ⟨fun x a b => ?_⟩⟩, by simp [intOf]; omega⟩
            by_cases hxk : x = k
            · rw [hxk]; exact hz
            · exact hx.out x a (by omega)
        · have hltb : decide ((k : Int) * (k : Int) ≤ (m : Int)) = false := decide_eq_false (by intro c; exact hlt (by exact_mod_cast c))
          have hm' := mf_of_sq m k hm2 hx.out (by omega)
          have e' := Hd.mk hm'
          clear hm' hlt
          go_wp2
          go_ret
          exact ⟨ret_int (by rw [e.out, e'.out]), rfl⟩

theorem isZ_lt (n : Int) (h : n < 2) : isZ n = false := by
  unfold isZ; rw [decide_eq_false (by omega)]; rfl
theorem isZ_ge (n : Int) (h : 2 ≤ n) : isZ n = (leastZ n == n) := by
  unfold isZ; rw [decide_eq_true h]; rfl

set_option maxHeartbeats 400000 in
theorem is_calls (n : Int) (w : World) :
    Calls Try.prog 19 #[.int .i64 n] w fun e w' => e = .returned (.bool (isZ n)) ∧ w = w' := by
  by_cases h : 2 ≤ n
  · have e := Hd.mk (isZ_ge n h)
    have hb : decide (n ≥ 2) = true := decide_eq_true h
    have C := least_calls n w
    go_enter Try.func19, Try.ntmps19
    go_wp2_with fail
    refine C.mono ?_
    rintro e w' ⟨rfl, rfl⟩
    go_wp2
    go_ret
    exact ⟨ret_bool e.out.symm, rfl⟩
  · have e := Hd.mk (isZ_lt n (by omega))
    have hb : decide (n ≥ 2) = false := decide_eq_false h
    go_enter Try.func19, Try.ntmps19
    go_wp2_with fail
    go_ret
    exact ⟨ret_bool e.out.symm, rfl⟩

theorem sizeZ_out (n : Int) (h : n < 7 ∨ 65537 < n) : sizeZ n = false := by
  unfold sizeZ
  rcases h with h | h
  · rw [decide_eq_false (show ¬ 7 ≤ n by omega)]; rfl
  · rw [decide_eq_false (show ¬ n ≤ 65537 by omega), Bool.and_false]; rfl
theorem sizeZ_mid (n : Int) (h : 7 ≤ n) (h' : n ≤ 65537) : sizeZ n = isZ n := by
  unfold sizeZ; rw [decide_eq_true h, decide_eq_true h']; rfl

set_option maxHeartbeats 400000 in
theorem size_calls (n : Int) (w : World) :
    Calls Try.prog 14 #[.int .i64 n] w fun e w' => e = .returned (.bool (sizeZ n)) ∧ w = w' := by
  by_cases h : 7 ≤ n
  · have hb : decide (n ≥ 7) = true := decide_eq_true h
    by_cases h' : n ≤ 65537
    · have e := Hd.mk (sizeZ_mid n h h')
      have hb' : decide (n ≤ 65537) = true := decide_eq_true h'
      have C := is_calls n w
      go_enter Try.func14, Try.ntmps14
      go_wp2_with fail
      refine C.mono ?_
      rintro e w' ⟨rfl, rfl⟩
      go_wp2
      go_ret
      exact ⟨ret_bool e.out.symm, rfl⟩
    · have e := Hd.mk (sizeZ_out n (.inr (by omega)))
      have hb' : decide (n ≤ 65537) = false := decide_eq_false h'
      go_enter Try.func14, Try.ntmps14
      go_wp2_with fail
      go_ret
      exact ⟨ret_bool e.out.symm, rfl⟩
  · have e := Hd.mk (sizeZ_out n (.inl (by omega)))
    have hb : decide (n ≥ 7) = false := decide_eq_false h
    go_enter Try.func14, Try.ntmps14
    go_wp2_with fail
    go_ret
    exact ⟨ret_bool e.out.symm, rfl⟩

end Go.Proofs.Ytfgaggpfdckggaa.Prim
