/- Plain facts on least divisors and primes, without Go and memory. -/
import Derived.RowKit
namespace Go.Proofs.Ytfgaggpfdckggaa.Prim
set_option linter.unusedVariables false
set_option linter.unusedSimpArgs false

/-- The least divisor from d on, k tries. -/
def lf (n : Nat) : Nat → Nat → Nat
  | 0, _ => n
  | k + 1, d => if n % d = 0 then d else lf n k (d + 1)
/-- The least divisor from 2 on. -/
def mf (n : Nat) : Nat := lf n n 2

theorem lf_spec (n : Nat) : ∀ k d, 2 ≤ d → d ≤ n → n ≤ d + k → (∀ x, 2 ≤ x → x < d → n % x ≠ 0) →
    2 ≤ lf n k d ∧ lf n k d ≤ n ∧ n % lf n k d = 0 ∧ ∀ x, 2 ≤ x → x < lf n k d → n % x ≠ 0
  | 0, d, h2, hd, hk, hx => by
    obtain rfl : d = n := by omega
    exact ⟨h2, Nat.le_refl _, Nat.mod_self _, hx⟩
  | k + 1, d, h2, hd, hk, hx => by
    unfold lf
    by_cases h : n % d = 0
    · rw [if_pos h]; exact ⟨h2, hd, h, hx⟩
    · rw [if_neg h]
      have hne : d ≠ n := fun e => h (by rw [e]; exact Nat.mod_self _)
      refine lf_spec n k (d + 1) (by omega) (by omega) (by omega) (fun x a b => ?_)
      by_cases e : x = d
      · rw [e]; exact h
      · exact hx x a (by omega)

theorem mf_spec (n : Nat) (h : 2 ≤ n) : 2 ≤ mf n ∧ mf n ≤ n ∧ n % mf n = 0 ∧ ∀ x, 2 ≤ x → x < mf n → n % x ≠ 0 :=
  lf_spec n n 2 (by omega) h (by omega) (fun x a b => by omega)

theorem mf_unique (n d : Nat) (h : 2 ≤ n) (h2 : 2 ≤ d) (hd : n % d = 0) (hx : ∀ x, 2 ≤ x → x < d → n % x ≠ 0) : mf n = d := by
  obtain ⟨a, b, c, e⟩ := mf_spec n h
  rcases Nat.lt_trichotomy (mf n) d with l | l | l
  · exact absurd c (hx _ a l)
  · exact l
  · exact absurd hd (e _ h2 l)

theorem mf_of_sq (n k : Nat) (h : 2 ≤ n) (hx : ∀ x, 2 ≤ x → x < k → n % x ≠ 0) (hk : n < k * k) : mf n = n := by
  refine mf_unique n n h h (Nat.mod_self n) (fun x a b c => ?_)
  have hq : n = x * (n / x) := by have := Nat.div_add_mod n x; omega
  have hxk : k ≤ x := Nat.le_of_not_lt (fun l => hx x a l c)
  generalize n / x = q at hq
  have hqk : q < k := by
    refine Nat.lt_of_not_le (fun l => ?_)
    have := Nat.mul_le_mul hxk l
    omega
  have hq2 : 2 ≤ q := by
    rcases q with _ | _ | q
    · omega
    · omega
    · omega
  refine hx q hq2 hqk ?_
  exact Nat.mod_eq_zero_of_dvd ⟨x, by rw [Nat.mul_comm]; exact hq⟩

theorem prime_of_mf (n : Nat) (h : 2 ≤ n) : mf n = n ↔ ∀ x, 2 ≤ x → x < n → n % x ≠ 0 := by
  constructor
  · intro e x a b
    have := (mf_spec n h).2.2.2 x a
    rw [e] at this
    exact this b
  · intro hx
    exact mf_unique n n h h (Nat.mod_self n) hx

/-- What prime.Least tells. -/
def leastZ (n : Int) : Int := if n < 2 ∨ 1048576 < n then 0 else (mf n.toNat : Int)
/-- What prime.Is tells. -/
def isZ (n : Int) : Bool := decide (2 ≤ n) && (leastZ n == n)
/-- What prime.Size tells. -/
def sizeZ (n : Int) : Bool := (decide (7 ≤ n) && decide (n ≤ 65537)) && isZ n

theorem leastZ_out (n : Int) (h : n < 2 ∨ 1048576 < n) : leastZ n = 0 := by unfold leastZ; rw [if_pos h]
theorem leastZ_in (n : Nat) (h : 2 ≤ n) (h' : n ≤ 1048576) : leastZ (n : Int) = (mf n : Int) := by
  unfold leastZ; rw [if_neg (by omega), Int.toNat_natCast]

/-- The first size from x on, k tries. -/
def nx : Nat → Nat → Option Nat
  | 0, _ => none
  | k + 1, x => if sizeZ x = true then some x else nx k (x + 1)
def nextZ (n : Int) : Option Nat := nx (65538 - (max n 7).toNat) (max n 7).toNat

theorem nx_some (k x y : Nat) (h : nx k x = some y) : x ≤ y ∧ y < x + k ∧ sizeZ y = true ∧ ∀ z, x ≤ z → z < y → sizeZ (z : Int) = false := by
  induction k generalizing x with
  | zero => simp [nx] at h
  | succ k ih =>
    unfold nx at h
    by_cases e : sizeZ (x : Int) = true
    · rw [if_pos e] at h
      obtain rfl := Option.some.inj h
      exact ⟨Nat.le_refl _, by omega, e, fun z a b => by omega⟩
    · rw [if_neg e] at h
      obtain ⟨a, b, c, d⟩ := ih (x + 1) h
      refine ⟨by omega, by omega, c, fun z p q => ?_⟩
      by_cases hz : z = x
      · subst hz; simpa using e
      · exact d z (by omega) q
theorem nx_none (k x : Nat) (h : nx k x = none) : ∀ z, x ≤ z → z < x + k → sizeZ (z : Int) = false := by
  induction k generalizing x with
  | zero => intro z a b; omega
  | succ k ih =>
    unfold nx at h
    by_cases e : sizeZ (x : Int) = true
    · rw [if_pos e] at h; exact absurd h (by simp)
    · rw [if_neg e] at h
      intro z p q
      by_cases hz : z = x
      · subst hz; simpa using e
      · exact ih (x + 1) h z (by omega) (by omega)
theorem sizeZ_ge (n : Int) (h : sizeZ n = true) : 7 ≤ n ∧ n ≤ 65537 := by
  unfold sizeZ at h
  simp at h
  exact ⟨h.1.1, h.1.2⟩
theorem isZ_iff (n : Nat) (h : 2 ≤ n) (h' : n ≤ 1048576) : isZ (n : Int) = true ↔ mf n = n := by
  unfold isZ
  rw [leastZ_in n h h']
  simp
  omega
theorem isZ_iff2 (n : Nat) (h : 2 ≤ n) (h' : n ≤ 1048576) : isZ (n : Int) = decide (mf n = n) := by
  rw [Bool.eq_iff_iff]
  simpa using isZ_iff n h h'
theorem sizeZ_in (n : Nat) (h : 7 ≤ n) (h' : n ≤ 65537) : sizeZ (n : Int) = decide (mf n = n) := by
  unfold sizeZ
  rw [isZ_iff2 n (by omega) (by omega), decide_eq_true (show (7 : Int) ≤ (n : Int) by omega), decide_eq_true (show (n : Int) ≤ 65537 by omega)]
  rfl
end Go.Proofs.Ytfgaggpfdckggaa.Prim
