/- The law PrimeDivides returns true for every whole number. -/
import Derived.Test.YtcdnhodfnijnpaaPrimKnown
import Derived.Deep.DeepCutAuto
import Derived.Deep.CutBlock
import Derived.Deep.LoopGhost
namespace Go.Proofs.Ytcdnhodfnijnpaa.Prim
open Go.RowKit

theorem mf_mf (m : Nat) (h : 2 ≤ m) : mf (mf m) = mf m := by
  obtain ⟨a, b, c, d⟩ := mf_spec m h
  refine (prime_of_mf _ a).mpr (fun x p q r => d x p q ?_)
  obtain ⟨u, hu⟩ := Nat.dvd_of_mod_eq_zero r
  obtain ⟨v, hv⟩ := Nat.dvd_of_mod_eq_zero c
  exact Nat.mod_eq_zero_of_dvd ⟨u * v, by rw [← Nat.mul_assoc, ← hu, ← hv]⟩

theorem next_none (n : Int) (h : nextZ n = none) : 65537 < n := by
  refine Int.not_le.mp (fun c => ?_)
  have hz := nx_none _ _ h 65537 (by omega) (by omega)
  have e : sizeZ ((65537 : Nat) : Int) = true := by rw [sizeZ_in 65537 (by omega) (by omega), mf65537]; decide
  rw [e] at hz
  exact absurd hz (by decide)

theorem next_some (n : Int) (x : Nat) (h : nextZ n = some x) : n ≤ x ∧ 7 ≤ x ∧ x ≤ 65537 ∧ sizeZ (x : Int) = true ∧ ∀ z : Int, max n 7 ≤ z → z < x → sizeZ z = false := by
  obtain ⟨a, b, c, d⟩ := nx_some _ _ _ h
  have hs := sizeZ_ge _ c
  refine ⟨by omega, by omega, by omega, c, fun z p q => ?_⟩
  obtain ⟨z, rfl⟩ := Int.eq_ofNat_of_zero_le (show 0 ≤ z by omega)
  exact d z (by omega) (by omega)

/-- What the law asks of the least divisor, in one word. -/
structure DivOk (n d : Int) (f : Bool) : Prop where
  out : (n < 2 ∨ 1048576 < n) → d = 0 ∧ f = false
  low : ¬ (n < 2 ∨ 1048576 < n) → 2 ≤ d ∧ d ≤ n ∧ n % d = 0 ∧ isZ d = true ∧ (d == n) = f ∧ ∀ x : Nat, 2 ≤ x → (x : Int) < d → n % (x : Int) ≠ 0

theorem divOk (n : Int) : DivOk n (leastZ n) (isZ n) where
  out := fun h => ⟨leastZ_out n h, by
    rcases h with h | h
    · exact isZ_lt n h
    · rw [isZ_ge n (by omega), leastZ_out n (.inr h), beq_eq_false_iff_ne]; omega⟩
  low := fun h => by
    obtain ⟨m, rfl⟩ := Int.eq_ofNat_of_zero_le (show 0 ≤ n by omega)
    have hm2 : 2 ≤ m := by omega
    have hm : m ≤ 1048576 := by omega
    obtain ⟨a, b, c, d⟩ := mf_spec m hm2
    rw [leastZ_in m hm2 hm, isZ_iff2 m hm2 hm]
    refine ⟨by omega, by omega, by exact_mod_cast c, (isZ_iff (mf m) a (by omega)).mpr (mf_mf m hm2), ?_, fun x p q r => d x p (by omega) (by exact_mod_cast r)⟩
    by_cases e : mf m = m
    · rw [e]; simp
    · rw [decide_eq_false e, beq_eq_false_iff_ne]; omega

set_option maxHeartbeats 4000000 in
theorem divides_calls (n : Int) (w : World) (hwf : -9223372036854775808 ≤ n ∧ n ≤ 9223372036854775807) : Calls Try.prog 5 #[.int .i64 n] w fun e w' => e = .returned (.bool true) ∧ w = w' := by
  have D := divOk n
  have C1 := least_calls n w
  have C2 := is_calls n w
  have C4 := next_calls n w
  have CK := known_calls w
  generalize isZ n = f at D C2
  generalize leastZ n = d at D C1
  obtain ⟨hn1, hn2⟩ := hwf
  by_cases hr : n < 2 ∨ 1048576 < n
  · obtain ⟨rfl, rfl⟩ := D.out hr
    have hor : Hd (n < 2 ∨ 1048576 < n) := ⟨hr⟩
    rcases hr with hr | hr
    all_goals
      clear D
      go_enter Try.func5, Try.ntmps5
      go_upto_block 0 with (first | (go_at_call 12; refine C1.mono ?_; rintro e w' ⟨rfl, rfl⟩) | (go_at_call 9; refine C2.mono ?_; rintro e w' ⟨rfl, rfl⟩))
      go_cut [4] (fun v4 wx => w = wx)
      case first =>
        go_wp2_with fail
        go_loopg [4] 0 (fun gq v4 w' => v4 = .int .i64 2 ∧ w = w')
        case atStart => exact ⟨rfl, rfl⟩
        case round =>
          obtain ⟨rfl, rfl⟩ := hrel
          go_wp2
          go_meet
          case rel => rfl

      case rest =>
        obtain rfl := hcut
        by_cases hlit : n < 7
        all_goals
          cases hx : nextZ _ with
          | none =>
            have hgt := next_none _ hx
            rw [hx] at C4
            unfold nextRet at C4
            clear hx
            first
            | (exfalso; omega)
            | (go_wp2_with (first | (go_at_call 6; refine C4.mono ?_; rintro e w' ⟨rfl, rfl⟩) | (go_at_call 13; refine CK.mono ?_; rintro e w' ⟨rfl, rfl⟩))
               go_ret
               exact ⟨rfl, rfl⟩)
          | some x =>
            obtain ⟨hnx, hx7, hxm, hs, hall⟩ := next_some _ x hx
            have hall := Hd.mk hall
            rw [hx] at C4
            unfold nextRet at C4
            clear hx
            go_upto_block 2 with (first | (go_at_call 6; refine C4.mono ?_; rintro e w' ⟨rfl, rfl⟩))
            go_cut [7] (fun v7 wx => w = wx)
            case first =>
              go_wp2_with fail
              go_loopg [7] 70000 (fun gq v7 w' => ∃ y : Int, v7 = .int .i64 y ∧ max n 7 ≤ y ∧ y ≤ x ∧ x - y ≤ (gq : Int) ∧ w = w')
              case atStart => exact ⟨_, rfl, by omega, by omega, by omega, rfl⟩
              case round =>
                obtain ⟨y, rfl, hyn, hyx, hgq, rfl⟩ := hrel
                by_cases hlt : y < x
                · have hltb : decide (y < (x : Int)) = true := decide_eq_true hlt
                  have CS := size_calls y w
                  rw [hall.out y hyn hlt] at CS
                  have hy7 : 7 ≤ y := by omega
                  have hyn' := Hd.mk hyn
                  clear hyn
                  go_wp2_with (go_at_call 10; refine CS.mono ?_; rintro e w' ⟨rfl, rfl⟩)
                  go_roundg ((x - (y + 1)).toNat)
                  case measure => omega
                  case rel => exact ⟨y + 1, by go_num, by have := hyn'.out; omega, by omega, by omega, rfl⟩
                · have hltb : decide (y < (x : Int)) = false := decide_eq_false hlt
                  go_wp2
                  go_meet
                  case rel => rfl
            case rest =>
              obtain rfl := hcut
              have CS := size_calls (x : Int) w
              rw [hs] at CS
              have hge : decide ((x : Int) ≥ n) = true := decide_eq_true (by omega)
              go_wp2_with (first | (go_at_call 10; refine CS.mono ?_; rintro e w' ⟨rfl, rfl⟩) | (go_at_call 13; refine CK.mono ?_; rintro e w' ⟨rfl, rfl⟩))
              go_ret
              exact ⟨rfl, rfl⟩

  · obtain ⟨d2, dn, dz, dp, dq, dx⟩ := D.low hr
    subst dq
    have dx := Hd.mk dx
    have CD := is_calls d w
    rw [dp] at CD
    have dzb : (n % d != 0) = false := by rw [dz]; rfl
    have hr1 : decide (n < 2) = false := decide_eq_false (by omega)
    have hr2 : decide (n > 1048576) = false := decide_eq_false (by omega)
    have hd1 : decide (d < 2) = false := decide_eq_false (by omega)
    have hn2' : 2 ≤ n := by omega
    have hn3 : n ≤ 1048576 := by omega
    clear D dp dz hr
    go_enter Try.func5, Try.ntmps5
    go_wp2_with fail
    refine C1.mono ?_
    rintro e w' ⟨rfl, rfl⟩
    go_wp2_with fail
    refine CD.mono ?_
    rintro e w' ⟨rfl, rfl⟩
    go_wp2_with fail
    refine C2.mono ?_
    rintro e w' ⟨rfl, rfl⟩
    go_upto_block 0 with fail
    go_cut [4] (fun v4 wx => w = wx)
    case first =>
      go_wp2_with fail
      go_loopg [4] 2000 (fun gq v4 w' => ∃ x : Nat, v4 = .int .i64 x ∧ 2 ≤ x ∧ x ≤ 1025 ∧ (x : Int) ≤ d ∧ 1025 - x ≤ gq ∧ w = w')
      case atStart => exact ⟨2, rfl, by omega, by omega, by omega, by omega, rfl⟩
      case round =>
        obtain ⟨x, rfl, hx2, hx, hxd, hgq, rfl⟩ := hrel
        have hkk : (x : Int) * (x : Int) ≤ 1050625 := by have h3 := Nat.mul_le_mul hx hx; omega
        have hkk0 : 0 ≤ (x : Int) * (x : Int) := by exact_mod_cast Nat.zero_le (x * x)
        by_cases h1 : (x : Int) < d
        · have h1b : decide ((x : Int) < d) = true := decide_eq_true h1
          by_cases h2 : (x : Int) * (x : Int) ≤ n
          · have h2b : decide ((x : Int) * (x : Int) ≤ n) = true := decide_eq_true h2
            have hx1 : x < 1025 := by
              refine Nat.lt_of_not_le (fun l => ?_)
              have := Nat.mul_le_mul l l
              omega
            have hzb : (n % (x : Int) == 0) = false := beq_eq_false_iff_ne.mpr (dx.out x hx2 h1)
            go_wp2
            go_roundg (1025 - (x + 1))
            case measure => omega
            case rel => exact ⟨x + 1, by go_num, by omega, by omega, by omega, by omega, rfl⟩
          · have h2b : decide ((x : Int) * (x : Int) ≤ n) = false := decide_eq_false h2
            go_wp2
            go_meet
            case rel => rfl
        · have h1b : decide ((x : Int) < d) = false := decide_eq_false h1
          go_wp2
          go_meet
          case rel => rfl
    case rest =>
      obtain rfl := hcut
      by_cases hlit : n < 7
      all_goals
        cases hx : nextZ _ with
        | none =>
          have hgt := next_none _ hx
          rw [hx] at C4
          unfold nextRet at C4
          clear hx
          first
          | (exfalso; omega)
          | (go_wp2_with (first | (go_at_call 6; refine C4.mono ?_; rintro e w' ⟨rfl, rfl⟩) | (go_at_call 13; refine CK.mono ?_; rintro e w' ⟨rfl, rfl⟩))
             go_ret
             exact ⟨rfl, rfl⟩)
        | some x =>
          obtain ⟨hnx, hx7, hxm, hs, hall⟩ := next_some _ x hx
          have hall := Hd.mk hall
          rw [hx] at C4
          unfold nextRet at C4
          clear hx
          go_upto_block 2 with (first | (go_at_call 6; refine C4.mono ?_; rintro e w' ⟨rfl, rfl⟩))
          go_cut [7] (fun v7 wx => w = wx)
          case first =>
            go_wp2_with fail
            go_loopg [7] 70000 (fun gq v7 w' => ∃ y : Int, v7 = .int .i64 y ∧ max n 7 ≤ y ∧ y ≤ x ∧ x - y ≤ (gq : Int) ∧ w = w')
            case atStart => exact ⟨_, rfl, by omega, by omega, by omega, rfl⟩
            case round =>
              obtain ⟨y, rfl, hyn, hyx, hgq, rfl⟩ := hrel
              by_cases hlt : y < x
              · have hltb : decide (y < (x : Int)) = true := decide_eq_true hlt
                have CS := size_calls y w
                rw [hall.out y hyn hlt] at CS
                have hy7 : 7 ≤ y := by omega
                have hyn' := Hd.mk hyn
                clear hyn
                go_wp2_with (go_at_call 10; refine CS.mono ?_; rintro e w' ⟨rfl, rfl⟩)
                go_roundg ((x - (y + 1)).toNat)
                case measure => omega
                case rel => exact ⟨y + 1, by go_num, by have := hyn'.out; omega, by omega, by omega, rfl⟩
              · have hltb : decide (y < (x : Int)) = false := decide_eq_false hlt
                go_wp2
                go_meet
                case rel => rfl
          case rest =>
            obtain rfl := hcut
            have CS := size_calls (x : Int) w
            rw [hs] at CS
            have hge : decide ((x : Int) ≥ n) = true := decide_eq_true (by omega)
            go_wp2_with (first | (go_at_call 10; refine CS.mono ?_; rintro e w' ⟨rfl, rfl⟩) | (go_at_call 13; refine CK.mono ?_; rintro e w' ⟨rfl, rfl⟩))
            go_ret
            exact ⟨rfl, rfl⟩



theorem divides_walk (n : Int) (w : World) (h : (Lit.int .i64 n).wf = true) :
    Calls Try.prog 5 #[.int .i64 n] w fun e w' => e = .returned (.bool true) ∧ Below w.heap.size w w' := by
  refine (divides_calls n w ?_).mono fun _ _ ⟨h, h'⟩ => ⟨h, h' ▸ Below.refl _ _⟩
  simp [Lit.wf, IntKind.min, IntKind.max, IntKind.signed, IntKind.bits] at h
  omega
end Go.Proofs.Ytcdnhodfnijnpaa.Prim
