/- The page's examples of layer 17 hold, and the law PrimeTells returns true for every whole number. -/
import Derived.Test.YtcdnhodfnijnpaaPrimRef
namespace Go.Proofs.Ytcdnhodfnijnpaa.Prim
open Go.RowKit

theorem mf_prime (n k : Nat) (h : 2 ≤ n) (hk : n < k * k) (hd : ∀ x, x < k → 2 ≤ x → n % x ≠ 0) : mf n = n :=
  mf_of_sq n k h (fun x a b => hd x b a) hk
theorem below3 (n x : Nat) (h : n % 2 ≠ 0) (a : 2 ≤ x) (b : x < 3) : n % x ≠ 0 := by
  have e : x = 2 := by omega
  subst e; exact h
theorem mf8 : mf 8 = 2 := mf_unique 8 2 (by omega) (by omega) (by decide) (fun x a b => by omega)
theorem mf9 : mf 9 = 3 := mf_unique 9 3 (by omega) (by omega) (by decide) (fun x a b => below3 _ x (by decide) a b)
theorem mf10 : mf 10 = 2 := mf_unique 10 2 (by omega) (by omega) (by decide) (fun x a b => by omega)
theorem mf11 : mf 11 = 11 := mf_prime 11 4 (by omega) (by decide) (by decide)
theorem mf91 : mf 91 = 7 := mf_unique 91 7 (by omega) (by omega) (by decide) (fun x a b => by
  have h : ∀ x, x < 7 → 2 ≤ x → 91 % x ≠ 0 := by decide
  exact h x b a)
set_option maxRecDepth 100000 in
theorem mf65537 : mf 65537 = 65537 := mf_prime 65537 257 (by omega) (by decide) (by decide +kernel)
theorem mf65535 : mf 65535 = 3 := mf_unique 65535 3 (by omega) (by omega) (by decide) (fun x a b => below3 _ x (by decide) a b)
theorem size_of (n : Nat) (h : 7 ≤ n) (h' : n ≤ 65537) : sizeZ (n : Int) = decide (mf n = n) := sizeZ_in n h h'
theorem next8 : nextZ 8 = some 11 := by
  have e : nextZ 8 = nx 65530 8 := rfl
  have s8 : sizeZ ((8 : Nat) : Int) = false := by rw [sizeZ_in 8 (by omega) (by omega), mf8]; decide
  have s9 : sizeZ ((9 : Nat) : Int) = false := by rw [sizeZ_in 9 (by omega) (by omega), mf9]; decide
  have s10 : sizeZ ((10 : Nat) : Int) = false := by rw [sizeZ_in 10 (by omega) (by omega), mf10]; decide
  have s11 : sizeZ ((11 : Nat) : Int) = true := by rw [sizeZ_in 11 (by omega) (by omega), mf11]; decide
  have st : ∀ k x, sizeZ ((x : Nat) : Int) = false → nx (k + 1) x = nx k (x + 1) := fun k x h => by
    show (if sizeZ (x : Int) = true then some x else nx k (x + 1)) = _
    rw [if_neg (by rw [h]; decide)]
  have fin : ∀ k x, sizeZ ((x : Nat) : Int) = true → nx (k + 1) x = some x := fun k x h => by
    show (if sizeZ (x : Int) = true then some x else nx k (x + 1)) = _
    rw [if_pos h]
  rw [e]
  exact (st 65529 8 s8).trans ((st 65528 9 s9).trans ((st 65527 10 s10).trans (fin 65526 11 s11)))
theorem next65538 : nextZ 65538 = none := rfl
theorem is65537 : isZ 65537 = true := (isZ_iff 65537 (by omega) (by omega)).mpr mf65537
theorem is65535 : isZ 65535 = false := by
  have h := isZ_iff2 65535 (by omega) (by omega)
  rw [mf65535] at h
  exact h.trans (by decide)
theorem is1 : isZ 1 = false := isZ_lt 1 (by omega)
theorem least91 : leastZ 91 = 7 := by
  have h := leastZ_in 91 (by omega) (by omega)
  rw [mf91] at h
  exact h

set_option maxHeartbeats 400000 in
theorem known_calls (w : World) : Calls Try.prog 13 #[] w fun e w' => e = .returned (.bool true) ∧ w = w' := by
  have C1 := next_calls 8 w
  rw [next8] at C1
  have C2 := next_calls 65538 w
  rw [next65538] at C2
  have C3 := is_calls 65537 w
  rw [is65537] at C3
  have C4 := is_calls 65535 w
  rw [is65535] at C4
  have C5 := is_calls 1 w
  rw [is1] at C5
  have C6 := least_calls 91 w
  rw [least91] at C6
  unfold nextRet at C1 C2
  go_enter Try.func13, Try.ntmps13
  go_wp2_with fail
  refine C1.mono ?_
  rintro e w' ⟨rfl, rfl⟩
  go_wp2_with fail
  refine C2.mono ?_
  rintro e w' ⟨rfl, rfl⟩
  go_wp2_with fail
  refine C3.mono ?_
  rintro e w' ⟨rfl, rfl⟩
  go_wp2_with fail
  refine C4.mono ?_
  rintro e w' ⟨rfl, rfl⟩
  go_wp2_with fail
  refine C5.mono ?_
  rintro e w' ⟨rfl, rfl⟩
  go_wp2_with fail
  refine C6.mono ?_
  rintro e w' ⟨rfl, rfl⟩
  go_wp2
  go_ret
  exact ⟨rfl, rfl⟩

theorem tells_eq (n : Int) (h : leastZ n > 0) : isZ n = (leastZ n == n) := by
  refine isZ_ge n ?_
  refine Int.not_lt.mp (fun c => ?_)
  rw [leastZ_out n (.inl c)] at h
  omega
theorem tells_eq0 (n : Int) (h : ¬ leastZ n > 0) : isZ n = false := by
  by_cases h2 : n < 2
  · exact isZ_lt n h2
  · rw [isZ_ge n (by omega), beq_eq_false_iff_ne]
    omega

set_option maxHeartbeats 1000000 in
theorem tells_calls (n : Int) (w : World) : Calls Try.prog 3 #[.int .i64 n] w fun e w' => e = .returned (.bool true) ∧ w = w' := by
  have C1 := next_calls n w
  have C2 := rnext_calls n w
  have C3 := rleast_calls n w
  have C4 := is_calls n w
  have C5 := size_calls n w
  have C6 := rissize_calls n w
  have C7 := least_calls n w
  have C8 := known_calls w
  obtain ⟨x, y, hxy⟩ : ∃ x y : Int, nextRet (nextZ n) = .returned (.tuple #[.int .i64 x, .int .i64 y]) := by
    cases nextZ n <;> exact ⟨_, _, rfl⟩
  rw [hxy] at C1 C2
  clear hxy
  generalize sizeZ n = s at C5 C6
  by_cases h : leastZ n > 0
  · have e1 : (isZ n == (leastZ n == n)) = true := by rw [tells_eq n h]; simp
    have hb : decide (leastZ n > 0) = true := decide_eq_true h
    generalize isZ n = b at C4 e1
    generalize leastZ n = L at C3 C7 e1 hb h
    clear h
    go_enter Try.func3, Try.ntmps3
    go_wp2_with fail
    refine C1.mono ?_
    rintro e w' ⟨rfl, rfl⟩
    go_wp2_with fail
    refine C2.mono ?_
    rintro e w' ⟨rfl, rfl⟩
    go_wp2_with fail
    refine C3.mono ?_
    rintro e w' ⟨rfl, rfl⟩
    go_wp2_with fail
    refine C4.mono ?_
    rintro e w' ⟨rfl, rfl⟩
    go_wp2_with fail
    refine C5.mono ?_
    rintro e w' ⟨rfl, rfl⟩
    go_wp2_with fail
    refine C6.mono ?_
    rintro e w' ⟨rfl, rfl⟩
    go_wp2_with fail
    refine C7.mono ?_
    rintro e w' ⟨rfl, rfl⟩
    go_wp2_with fail
    refine C8.mono ?_
    rintro e w' ⟨rfl, rfl⟩
    go_wp2
    go_ret
    exact ⟨rfl, rfl⟩
  · have e1 : (isZ n == false) = true := by rw [tells_eq0 n h]; rfl
    have hb : decide (leastZ n > 0) = false := decide_eq_false h
    rw [tells_eq0 n h] at C4 e1
    generalize leastZ n = L at C3 C7 hb h
    clear h
    go_enter Try.func3, Try.ntmps3
    go_wp2_with fail
    refine C1.mono ?_
    rintro e w' ⟨rfl, rfl⟩
    go_wp2_with fail
    refine C2.mono ?_
    rintro e w' ⟨rfl, rfl⟩
    go_wp2_with fail
    refine C3.mono ?_
    rintro e w' ⟨rfl, rfl⟩
    go_wp2_with fail
    refine C4.mono ?_
    rintro e w' ⟨rfl, rfl⟩
    go_wp2_with fail
    refine C5.mono ?_
    rintro e w' ⟨rfl, rfl⟩
    go_wp2_with fail
    refine C6.mono ?_
    rintro e w' ⟨rfl, rfl⟩
    go_wp2_with fail
    refine C7.mono ?_
    rintro e w' ⟨rfl, rfl⟩
    go_wp2_with fail
    refine C8.mono ?_
    rintro e w' ⟨rfl, rfl⟩
    go_wp2
    go_ret
    exact ⟨rfl, rfl⟩

theorem tells_walk (n : Int) (w : World) (_ : (Lit.int .i64 n).wf = true) :
    Calls Try.prog 3 #[.int .i64 n] w fun e w' => e = .returned (.bool true) ∧ Below w.heap.size w w' :=
  (tells_calls n w).mono fun _ _ ⟨h, h'⟩ => ⟨h, h' ▸ Below.refl _ _⟩
end Go.Proofs.Ytcdnhodfnijnpaa.Prim
