/- The walks of the reference for primes (weighbridgeref17): Least, IsSize and Next answer the same plain functions as package prime. -/
import Derived.Test.YtcdnhodfnijnpaaPrimW
namespace Go.Proofs.Ytcdnhodfnijnpaa.Prim
open Go.RowKit

set_option maxHeartbeats 400000 in
theorem rleast_calls (n : Int) (w : World) :
    Calls Try.prog 8 #[.int .i64 n] w fun e w' => e = .returned (.int .i64 (leastZ n)) ∧ w = w' := by
  by_cases h1 : n < 2
  · have e := Hd.mk (leastZ_out n (.inl h1))
    have h1b : decide (n < 2) = true := decide_eq_true h1
    go_enter Try.func8, Try.ntmps8
    go_wp2
    go_ret
    exact ⟨ret_int e.out.symm, rfl⟩
  · by_cases h2 : 1048576 < n
    · have e := Hd.mk (leastZ_out n (.inr h2))
      have h1b : decide (n < 2) = false := decide_eq_false h1
      go_enter Try.func8, Try.ntmps8
      go_wp2
      go_ret
      exact ⟨ret_int e.out.symm, rfl⟩
    · obtain ⟨m, rfl⟩ := Int.eq_ofNat_of_zero_le (show 0 ≤ n by omega)
      have hm2 : 2 ≤ m := by omega
      have hm : m ≤ 1048576 := by omega
      have e := Hd.mk (leastZ_in m hm2 hm)
      have h1b : decide ((m : Int) < 2) = false := decide_eq_false h1
      have h2b : decide ((m : Int) > 1048576) = false := decide_eq_false h2
      clear h1 h2
      go_enter Try.func8, Try.ntmps8
      go_wp2
      go_loop [3] (fun d => ∃ k : Nat, 2 ≤ k ∧ k ≤ m ∧ d = .int .i64 k ∧ Hd (∀ x, 2 ≤ x → x < k → m % x ≠ 0)) (fun d => 1048577 - (intOf d).toNat)
      case atStart => exact ⟨2, by omega, by omega, rfl, ⟨fun x a b => by omega⟩⟩
      case round =>
        obtain ⟨k, hk2, hkm, rfl, hx⟩ := hrel
        by_cases hz : m % k = 0
        · have hzb : ((m : Int) % (k : Int) != 0) = false := by
            have : (m : Int) % (k : Int) = 0 := by exact_mod_cast hz
            rw [this]; rfl
          have e' := Hd.mk (mf_unique m k hm2 hk2 hz hx.out)
          clear hz
          go_wp2
          go_ret
          exact ⟨ret_int (by rw [e.out, e'.out]), rfl⟩
        · have hzb : ((m : Int) % (k : Int) != 0) = true := by
            rw [bne_iff_ne]
            intro c; exact hz (by exact_mod_cast c)
          have hkm1 : k < m := by
            refine Nat.lt_of_le_of_ne hkm (fun c => hz ?_)
            rw [c]; exact Nat.mod_self _
          have hx' : Hd (∀ x, 2 ≤ x → x < k + 1 → m % x ≠ 0) := ⟨fun x a b => by
            by_cases hxk : x = k
            · rw [hxk]; exact hz
            · exact hx.out x a (by omega)⟩
          clear hz
          go_wp2
          refine ⟨⟨k + 1, by omega, by omega, by go_num, hx'⟩, by simp [intOf]; omega⟩

theorem sizeZ_least (n : Int) (h : 7 ≤ n) (h' : n ≤ 65537) : sizeZ n = (leastZ n == n) := by
  rw [sizeZ_mid n h h', isZ_ge n (by omega)]

set_option maxHeartbeats 400000 in
theorem rissize_calls (n : Int) (w : World) :
    Calls Try.prog 11 #[.int .i64 n] w fun e w' => e = .returned (.bool (sizeZ n)) ∧ w = w' := by
  by_cases h : 7 ≤ n
  · have hb : decide (n ≥ 7) = true := decide_eq_true h
    by_cases h' : n ≤ 65537
    · have e := Hd.mk (sizeZ_least n h h')
      have hb' : decide (n ≤ 65537) = true := decide_eq_true h'
      have C := rleast_calls n w
      go_enter Try.func11, Try.ntmps11
      go_wp2_with fail
      refine C.mono ?_
      rintro e w' ⟨rfl, rfl⟩
      go_wp2
      go_ret
      exact ⟨ret_bool e.out.symm, rfl⟩
    · have e := Hd.mk (sizeZ_out n (.inr (by omega)))
      have hb' : decide (n ≤ 65537) = false := decide_eq_false h'
      go_enter Try.func11, Try.ntmps11
      go_wp2_with fail
      go_ret
      exact ⟨ret_bool e.out.symm, rfl⟩
  · have e := Hd.mk (sizeZ_out n (.inl (by omega)))
    have hb : decide (n ≥ 7) = false := decide_eq_false h
    go_enter Try.func11, Try.ntmps11
    go_wp2_with fail
    go_ret
    exact ⟨ret_bool e.out.symm, rfl⟩

set_option maxHeartbeats 400000 in
theorem rnext_calls (n : Int) (w : World) :
    Calls Try.prog 7 #[.int .i64 n] w fun e w' => w = w' ∧
      e = nextRet (nextZ n) := by
  obtain ⟨m, hm7, hlit, hnx0⟩ : ∃ m : Nat, 7 ≤ m ∧ ((n < 7 ∧ m = 7) ∨ (7 ≤ n ∧ n = m)) ∧ nextZ n = nx (65538 - m) m :=
    ⟨(max n 7).toNat, by omega, by omega, rfl⟩
  have hnx := Hd.mk hnx0
  clear hnx0
  generalize nextZ n = r at hnx
  rcases hlit with ⟨hn, rfl⟩ | ⟨hn, rfl⟩
  all_goals
    go_enter Try.func7, Try.ntmps7
    go_wp2
    go_loopg [0] 65538 (fun gq v4 w' => ∃ x : Nat, v4 = .int .i64 x ∧ 7 ≤ x ∧ (65538 - x) ≤ gq ∧ Hd (r = nx (65538 - x) x) ∧ w = w')
    case atStart => exact ⟨_, rfl, hm7, by omega, hnx, rfl⟩
    case round =>
      obtain ⟨x, rfl, hx7, hgq, hr, rfl⟩ := hrel
      clear hnx
      by_cases hx : x ≤ 65537
      · have hxb : decide ((x : Int) ≤ 65537) = true := decide_eq_true (by omega)
        obtain ⟨j, hj⟩ : ∃ j, 65538 - x = j + 1 := ⟨65537 - x, by omega⟩
        have hj' : 65538 - (x + 1) = j := by omega
        have hstep : Hd (r = if sizeZ (x : Int) = true then some x else nx (65538 - (x + 1)) (x + 1)) := ⟨by rw [hr.out, hj, hj']; rfl⟩
        clear hj hj' hr j
        have C := rissize_calls (x : Int) w
        by_cases hs : sizeZ (x : Int) = true
        · rw [hs] at C
          have hs' : Hd (r = some x) := ⟨by rw [hstep.out, if_pos hs]⟩
          clear hstep hs
          go_wp2_with fail
          refine C.mono ?_
          rintro e w' ⟨rfl, rfl⟩
          go_wp2
          go_ret2
          exact ⟨rfl, by rw [hs'.out]; rfl⟩
        · have hsf : sizeZ (x : Int) = false := by simpa using hs
          rw [hsf] at C
          have hs' : Hd (r = nx (65538 - (x + 1)) (x + 1)) := ⟨by rw [hstep.out, if_neg hs]⟩
          clear hstep hs hsf
          go_wp2_with fail
          refine C.mono ?_
          rintro e w' ⟨rfl, rfl⟩
          go_wp2
          go_roundg (65538 - (x + 1))
          case measure => omega
          case rel => exact ⟨x + 1, by go_num, by omega, by omega, hs', rfl⟩
      · have hxb : decide ((x : Int) ≤ 65537) = false := decide_eq_false (by omega)
        have hs : Hd (r = none) := ⟨by
          rw [hr.out, show 65538 - x = 0 by omega]; rfl⟩
        go_wp2
        go_ret2
        exact ⟨rfl, by rw [hs.out]; rfl⟩
end Go.Proofs.Ytcdnhodfnijnpaa.Prim
