/- The walks of the reference for primes (weighbridgeref17): Least and IsSize answer the same plain functions as package prime. -/
import Derived.Test.YtfgaggpfdckggaaPrimWs
namespace Go.Proofs.Ytfgaggpfdckggaa.Prim
set_option linter.unusedVariables false
set_option linter.unusedSimpArgs false
open Go.RowKit

set_option maxHeartbeats 400000 in
theorem rleast_calls (n : Int) (w : World) :
    Calls Try.prog 21 #[.int .i64 n] w fun e w' => e = .returned (.int .i64 (leastZ n)) ∧ w = w' := by
  by_cases h1 : n < 2
  · have e := Hd.mk (leastZ_out n (.inl h1))
    have h1b : decide (n < 2) = true := decide_eq_true h1
    go_enter Try.func21, Try.ntmps21
    go_wp2
    go_ret
    exact ⟨ret_int e.out.symm, rfl⟩
  · by_cases h2 : 1048576 < n
    · have e := Hd.mk (leastZ_out n (.inr h2))
      have h1b : decide (n < 2) = false := decide_eq_false h1
      go_enter Try.func21, Try.ntmps21
      go_wp2
      go_ret
      exact ⟨ret_int e.out.symm, rfl⟩
    · obtain ⟨m, rfl⟩ := Int.eq_ofNat_of_zero_le (show 0 ≤ n by omega)
      have hm2 : 2 ≤ m := by omega
      have hm : m ≤ 1048576 := by omega
      have e := Hd.mk (leastZ_in m hm2 hm)
      have h1b : decide ((m : Int) < 2) = false := decide_eq_false h1
      have h2b : decide ((m : Int) > 1048576) = false := decide_eq_false h2
      clear h1 h2
      go_enter Try.func21, Try.ntmps21
      go_wp2
      go_loop [3] (fun d => ∃ k : Nat, 2 ≤ k ∧ k ≤ m ∧ d = .int .i64 k ∧ Hd (∀ x, 2 ≤ x → x < k → m % x ≠ 0)) (fun d => 1048577 - (intOf d).toNat)
      case atStart => exact ⟨2, by omega, by omega, rfl, ⟨fun x a b => by omega⟩⟩
      case round =>
        obtain ⟨k, hk2, hkm, rfl, hx⟩ := hrel
        by_cases hz : m % k = 0
        · have hzb : ((m : Int) % (k : Int) != 0) = false := by
            have : (m : Int) % (k : Int) = 0 := by exact_mod_cast hz
            rw [this]; rfl
          have e' := Hd.mk (mf_unique m k hm2 hk2 hz hx.out)
          clear hz
          go_wp2
          go_ret
          exact ⟨ret_int (by rw [e.out, e'.out]), rfl⟩
        · have hzb : ((m : Int) % (k : Int) != 0) = true := by
            rw [bne_iff_ne]
            intro c; exact hz (by exact_mod_cast c)
          have hkm1 : k < m := by
            refine Nat.lt_of_le_of_ne hkm (fun c => hz ?_)
            rw [c]; exact Nat.mod_self _
          have hx' : Hd (∀ x, 2 ≤ x → x < k + 1 → m % x ≠ 0) := ⟨fun x a b => by
            by_cases hxk : x = k
            · rw [hxk]; exact hz
            · exact hx.out x a (by omega)⟩
          clear hz
          go_wp2
          refine ⟨⟨k + 1, by omega, by omega, by go_num, hx'⟩, by simp [intOf]; omega⟩

theorem sizeZ_least (n : Int) (h : 7 ≤ n) (h' : n ≤ 65537) : sizeZ n = (leastZ n == n) := by
  rw [sizeZ_mid n h h', isZ_ge n (by omega)]

set_option maxHeartbeats 400000 in
theorem rissize_calls (n : Int) (w : World) :
    Calls Try.prog 16 #[.int .i64 n] w fun e w' => e = .returned (.bool (sizeZ n)) ∧ w = w' := by
  by_cases h : 7 ≤ n
  · have hb : decide (n ≥ 7) = true := decide_eq_true h
    by_cases h' : n ≤ 65537
    · have e := Hd.mk (sizeZ_least n h h')
      have hb' : decide (n ≤ 65537) = true := decide_eq_true h'
      have C := rleast_calls n w
      go_enter Try.func16, Try.ntmps16
      go_wp2_with fail
      refine C.mono ?_
      rintro e w' ⟨rfl, rfl⟩
      go_wp2
      go_ret
      exact ⟨ret_bool e.out.symm, rfl⟩
    · have e := Hd.mk (sizeZ_out n (.inr (by omega)))
      have hb' : decide (n ≤ 65537) = false := decide_eq_false h'
      go_enter Try.func16, Try.ntmps16
      go_wp2_with fail
      go_ret
      exact ⟨ret_bool e.out.symm, rfl⟩
  · have e := Hd.mk (sizeZ_out n (.inl (by omega)))
    have hb : decide (n ≥ 7) = false := decide_eq_false h
    go_enter Try.func16, Try.ntmps16
    go_wp2_with fail
    go_ret
    exact ⟨ret_bool e.out.symm, rfl⟩

end Go.Proofs.Ytfgaggpfdckggaa.Prim
