/- The walks of package prime: Least, Is, Size and Next answer what the plain functions leastZ, isZ, sizeZ and nextZ say; nothing in memory changes. -/
import Derived.Test.YtcdnhodfnijnpaaBase
import Derived.Test.YtcdnhodfnijnpaaPrimM
import Derived.Deep.LoopGhost
namespace Go.Proofs.Ytcdnhodfnijnpaa.Prim
open Go.RowKit

theorem wfi (n : Int) (h : -9223372036854775808 ≤ n ∧ n ≤ 9223372036854775807) : (Lit.int .i64 n).wf = true := by
  simp [Lit.wf, IntKind.min, IntKind.max, IntKind.signed, IntKind.bits]; omega

set_option maxHeartbeats 400000 in
theorem least_calls (n : Int) (w : World) :
    Calls Try.prog 12 #[.int .i64 n] w fun e w' => e = .returned (.int .i64 (leastZ n)) ∧ w = w' := by
  by_cases h1 : n < 2
  · have e := Hd.mk (leastZ_out n (.inl h1))
    have h1b : decide (n < 2) = true := decide_eq_true h1
    go_enter Try.func12, Try.ntmps12
    go_wp2
    go_ret
    exact ⟨ret_int e.out.symm, rfl⟩
  · by_cases h2 : 1048576 < n
    · have e := Hd.mk (leastZ_out n (.inr h2))
      have h1b : decide (n < 2) = false := decide_eq_false h1
      go_enter Try.func12, Try.ntmps12
      go_wp2
      go_ret
      exact ⟨ret_int e.out.symm, rfl⟩
    · obtain ⟨m, rfl⟩ := Int.eq_ofNat_of_zero_le (show 0 ≤ n by omega)
      have hm2 : 2 ≤ m := by omega
      have hm : m ≤ 1048576 := by omega
      have e := Hd.mk (leastZ_in m hm2 hm)
      have h1b : decide ((m : Int) < 2) = false := decide_eq_false h1
      have h2b : decide ((m : Int) > 1048576) = false := decide_eq_false h2
      clear h1 h2
      go_enter Try.func12, Try.ntmps12
      go_wp2
      go_loop [3] (fun d => ∃ k : Nat, 2 ≤ k ∧ k ≤ 1025 ∧ k ≤ m ∧ d = .int .i64 k ∧ Hd (∀ x, 2 ≤ x → x < k → m % x ≠ 0)) (fun d => 1026 - (intOf d).toNat)
      case atStart => exact ⟨2, by omega, by omega, by omega, rfl, ⟨fun x a b => by omega⟩⟩
      case round =>
        obtain ⟨k, hk2, hk, hkm, rfl, hx⟩ := hrel
        have hkk : (k : Int) * (k : Int) ≤ 1050625 := by have h3 := Nat.mul_le_mul hk hk; omega
        have hkk0 : 0 ≤ (k : Int) * (k : Int) := by exact_mod_cast Nat.zero_le (k * k)
        by_cases hlt : k * k ≤ m
        · have hltb : decide ((k : Int) * (k : Int) ≤ (m : Int)) = true := decide_eq_true (by exact_mod_cast hlt)
          go_wp2
          · have hz : m % k = 0 := by
              have h : ((m : Int) % (k : Int) == 0) = true := by assumption
              have h' := beq_iff_eq.mp h
              exact_mod_cast h'
            have hm' := mf_unique m k hm2 hk2 hz hx.out
            go_ret
            exact ⟨ret_int (by rw [e.out, hm']), rfl⟩
          · have hz : m % k ≠ 0 := by
              have h : ((m : Int) % (k : Int) == 0) = false := by assumption
              have h' := beq_eq_false_iff_ne.mp h
              exact_mod_cast h'
            have hk1 : k < 1025 := by
              refine Nat.lt_of_not_le (fun l => ?_)
              have := Nat.mul_le_mul l l
              omega
            have hkm1 : k < m := by
              refine Nat.lt_of_le_of_ne hkm (fun c => hz ?_)
              rw [c]; exact Nat.mod_self _
            refine ⟨⟨k + 1, by omega, by omega, by omega, by go_num, ⟨fun x a b => ?_⟩⟩, by simp [intOf]; omega⟩
            by_cases hxk : x = k
            · rw [hxk]; exact hz
            · exact hx.out x a (by omega)
        · have hltb : decide ((k : Int) * (k : Int) ≤ (m : Int)) = false := decide_eq_false (by intro c; exact hlt (by exact_mod_cast c))
          have hm' := mf_of_sq m k hm2 hx.out (by omega)
          have e' := Hd.mk hm'
          clear hm' hlt
          go_wp2
          go_ret
          exact ⟨ret_int (by rw [e.out, e'.out]), rfl⟩

theorem isZ_lt (n : Int) (h : n < 2) : isZ n = false := by
  unfold isZ; rw [decide_eq_false (by omega)]; rfl
theorem isZ_ge (n : Int) (h : 2 ≤ n) : isZ n = (leastZ n == n) := by
  unfold isZ; rw [decide_eq_true h]; rfl

set_option maxHeartbeats 400000 in
theorem is_calls (n : Int) (w : World) :
    Calls Try.prog 9 #[.int .i64 n] w fun e w' => e = .returned (.bool (isZ n)) ∧ w = w' := by
  by_cases h : 2 ≤ n
  · have e := Hd.mk (isZ_ge n h)
    have hb : decide (n ≥ 2) = true := decide_eq_true h
    have C := least_calls n w
    go_enter Try.func9, Try.ntmps9
    go_wp2_with fail
    refine C.mono ?_
    rintro e w' ⟨rfl, rfl⟩
    go_wp2
    go_ret
    exact ⟨ret_bool e.out.symm, rfl⟩
  · have e := Hd.mk (isZ_lt n (by omega))
    have hb : decide (n ≥ 2) = false := decide_eq_false h
    go_enter Try.func9, Try.ntmps9
    go_wp2_with fail
    go_ret
    exact ⟨ret_bool e.out.symm, rfl⟩

theorem sizeZ_out (n : Int) (h : n < 7 ∨ 65537 < n) : sizeZ n = false := by
  unfold sizeZ
  rcases h with h | h
  · rw [decide_eq_false (show ¬ 7 ≤ n by omega)]; rfl
  · rw [decide_eq_false (show ¬ n ≤ 65537 by omega), Bool.and_false]; rfl
theorem sizeZ_mid (n : Int) (h : 7 ≤ n) (h' : n ≤ 65537) : sizeZ n = isZ n := by
  unfold sizeZ; rw [decide_eq_true h, decide_eq_true h']; rfl

set_option maxHeartbeats 400000 in
theorem size_calls (n : Int) (w : World) :
    Calls Try.prog 10 #[.int .i64 n] w fun e w' => e = .returned (.bool (sizeZ n)) ∧ w = w' := by
  by_cases h : 7 ≤ n
  · have hb : decide (n ≥ 7) = true := decide_eq_true h
    by_cases h' : n ≤ 65537
    · have e := Hd.mk (sizeZ_mid n h h')
      have hb' : decide (n ≤ 65537) = true := decide_eq_true h'
      have C := is_calls n w
      go_enter Try.func10, Try.ntmps10
      go_wp2_with fail
      refine C.mono ?_
      rintro e w' ⟨rfl, rfl⟩
      go_wp2
      go_ret
      exact ⟨ret_bool e.out.symm, rfl⟩
    · have e := Hd.mk (sizeZ_out n (.inr (by omega)))
      have hb' : decide (n ≤ 65537) = false := decide_eq_false h'
      go_enter Try.func10, Try.ntmps10
      go_wp2_with fail
      go_ret
      exact ⟨ret_bool e.out.symm, rfl⟩
  · have e := Hd.mk (sizeZ_out n (.inl (by omega)))
    have hb : decide (n ≥ 7) = false := decide_eq_false h
    go_enter Try.func10, Try.ntmps10
    go_wp2_with fail
    go_ret
    exact ⟨ret_bool e.out.symm, rfl⟩

/-- What prime.Next tells. -/
def nextRet : Option Nat → Ending
  | some x => .returned (.tuple #[.int .i64 (x : Int), .int .i64 0])
  | none => .returned (.tuple #[.int .i64 0, .int .i64 15])

set_option maxHeartbeats 400000 in
theorem next_calls (n : Int) (w : World) :
    Calls Try.prog 6 #[.int .i64 n] w fun e w' => w = w' ∧
      e = nextRet (nextZ n) := by
  obtain ⟨m, hm7, hlit, hnx0⟩ : ∃ m : Nat, 7 ≤ m ∧ ((n < 7 ∧ m = 7) ∨ (7 ≤ n ∧ n = m)) ∧ nextZ n = nx (65538 - m) m :=
    ⟨(max n 7).toNat, by omega, by omega, rfl⟩
  have hnx := Hd.mk hnx0
  clear hnx0
  generalize nextZ n = r at hnx
  rcases hlit with ⟨hn, rfl⟩ | ⟨hn, rfl⟩
  all_goals
    go_enter Try.func6, Try.ntmps6
    go_wp2
    go_step3
    go_wp2
    go_step3
    go_wp2
    go_loopg [4] 65538 (fun gq v4 w' => ∃ x : Nat, v4 = .int .i64 x ∧ 7 ≤ x ∧ (65538 - x) ≤ gq ∧ Hd (r = nx (65538 - x) x) ∧ w = w')
    case atStart => exact ⟨_, rfl, hm7, by omega, hnx, rfl⟩
    case round =>
      obtain ⟨x, rfl, hx7, hgq, hr, rfl⟩ := hrel
      clear hnx
      by_cases hx : x ≤ 65537
      · have hxb : decide ((x : Int) ≤ 65537) = true := decide_eq_true (by omega)
        have e1 := Hd.mk (sizeZ_in x hx7 hx)
        obtain ⟨j, hj⟩ : ∃ j, 65538 - x = j + 1 := ⟨65537 - x, by omega⟩
        have hj' : 65538 - (x + 1) = j := by omega
        have hstep : Hd (r = if sizeZ (x : Int) = true then some x else nx (65538 - (x + 1)) (x + 1)) := ⟨by rw [hr.out, hj, hj']; rfl⟩
        clear hj hj' hr j
        go_wp2
        go_loopg [5] 65538 (fun gd v5 w' => ∃ d : Nat, v5 = .int .i64 d ∧ 2 ≤ d ∧ d ≤ x ∧ d ≤ 257 ∧ x - d ≤ gd ∧ Hd (∀ y, 2 ≤ y → y < d → x % y ≠ 0) ∧ w = w')
        case atStart => exact ⟨2, rfl, by omega, by omega, by omega, by omega, ⟨fun y a b => by omega⟩, rfl⟩
        case round =>
          obtain ⟨d, rfl, hd2, hdx, hd, hgd, hy, rfl⟩ := hrel
          have hdd : (d : Int) * (d : Int) ≤ 66049 := by have h3 := Nat.mul_le_mul hd hd; omega
          have hdd0 : 0 ≤ (d : Int) * (d : Int) := by exact_mod_cast Nat.zero_le (d * d)
          by_cases hlt : d * d ≤ x
          · have hltb : decide ((d : Int) * (d : Int) ≤ (x : Int)) = true := decide_eq_true (by exact_mod_cast hlt)
            have hd1 : d < 257 := by
              refine Nat.lt_of_not_le (fun l => ?_)
              have := Nat.mul_le_mul l l
              omega
            by_cases hz : x % d = 0
            · have hzb : ((x : Int) % (d : Int) == 0) = true := beq_iff_eq.mpr (by exact_mod_cast hz)
              have hs : Hd (r = nx (65538 - (x + 1)) (x + 1)) := ⟨by
                rw [hstep.out, if_neg]
                rw [e1.out]
                have hmf := mf_unique x d (by omega) hd2 hz hy.out
                rw [hmf]
                simp
                intro c
                rw [c] at hlt
                have := Nat.mul_le_mul hx7 (Nat.le_refl x)
                omega⟩
              clear hz hlt hstep e1
              go_wp2
              go_roundg (65538 - (x + 1))
              case measure => omega
              case rel => exact ⟨x + 1, by go_num, by omega, by omega, hs, rfl⟩
            · have hzb : ((x : Int) % (d : Int) == 0) = false := beq_eq_false_iff_ne.mpr (by exact_mod_cast hz)
              have hdx1 : d < x := by
                refine Nat.lt_of_le_of_ne hdx (fun c => hz ?_)
                rw [c]; exact Nat.mod_self _
              have hy' : Hd (∀ y, 2 ≤ y → y < d + 1 → x % y ≠ 0) := ⟨fun y a b => by
                by_cases hyd : y = d
                · rw [hyd]; exact hz
                · exact hy.out y a (by omega)⟩
              clear hz hlt
              go_wp2
              go_roundg (x - (d + 1))
              case measure => omega
              case rel => exact ⟨d + 1, by go_num, by omega, by omega, by omega, by omega, hy', rfl⟩
          · have hltb : decide ((d : Int) * (d : Int) ≤ (x : Int)) = false := decide_eq_false (by intro c; exact hlt (by exact_mod_cast c))
            have hs : Hd (r = some x) := ⟨by
              have hmf := mf_of_sq x d (by omega) hy.out (by omega)
              rw [hstep.out, e1.out, hmf]; simp⟩
            clear hlt hstep e1
            go_wp2
            rw [Exit.noGoto_ret]
            go_ret2
            exact ⟨rfl, by rw [hs.out]; rfl⟩
      · have hxb : decide ((x : Int) ≤ 65537) = false := decide_eq_false (by omega)
        have hs : Hd (r = none) := ⟨by
          rw [hr.out, show 65538 - x = 0 by omega]; rfl⟩
        go_wp2
        try rw [Exit.noGoto_ret]
        go_ret2
        exact ⟨rfl, by rw [hs.out]; rfl⟩
end Go.Proofs.Ytcdnhodfnijnpaa.Prim
