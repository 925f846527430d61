/- Plain facts on hashing, without Go and memory. -/
import Derived.Test.YtfgaggpfdckggaaBase
namespace Go.Proofs.Ytfgaggpfdckggaa.Hash
set_option linter.unusedVariables false
set_option linter.unusedSimpArgs false
open Go.RowKit

theorem wrap_u64' (n : Int) : IntKind.u64.wrap n = n % 18446744073709551616 := by simp [IntKind.wrap, IntKind.bits, IntKind.signed]

theorem shr_lt (a s : Nat) (ha : a < 18446744073709551616) : a >>> s < 18446744073709551616 := by
  rw [Nat.shiftRight_eq_div_pow]
  exact Nat.lt_of_le_of_lt (Nat.div_le_self _ _) ha

theorem xor_lt (a b : Nat) (ha : a < 18446744073709551616) (hb : b < 18446744073709551616) : a ^^^ b < 18446744073709551616 := by
  have h := @Nat.xor_lt_two_pow a b 64 (by simpa using ha) (by simpa using hb)
  simpa using h

theorem xor64 (a b : Nat) (ha : a < 18446744073709551616) (hb : b < 18446744073709551616) : Go.bits .xor .u64 (a : Int) (b : Int) = ((a ^^^ b : Nat) : Int) := by
  have e : (2 : Nat) ^ IntKind.u64.bits = 18446744073709551616 := by decide
  have hx := xor_lt a b ha hb
  simp only [Go.bits, BitVec.ofInt_natCast, BitVec.toNat_xor, BitVec.toNat_ofNat, e, Nat.mod_eq_of_lt ha, Nat.mod_eq_of_lt hb]
  rw [wrap_u64']
  omega


theorem mul64 (a b : Nat) : IntKind.u64.wrap ((a : Int) * (b : Int)) = ((a * b % 18446744073709551616 : Nat) : Int) := by
  rw [wrap_u64']; simp

/-- A number whose xor with itself, shifted, is told back by three rounds. -/
theorem unxor (n s : Nat) (hn : n < 18446744073709551616) (hs : 16 ≤ s) :
    ((n ^^^ n >>> s) ^^^ ((n ^^^ n >>> s) ^^^ ((n ^^^ n >>> s) ^^^ (n ^^^ n >>> s) >>> s) >>> s) >>> s) = n := by
  have z : n >>> (s + (s + (s + s))) = 0 := by
    rw [Nat.shiftRight_eq_div_pow]
    refine Nat.div_eq_of_lt (Nat.lt_of_lt_of_le hn ?_)
    have e : (18446744073709551616 : Nat) = 2 ^ 64 := by decide
    rw [e]
    exact Nat.pow_le_pow_right (by decide) (by omega)
  have c : ∀ x y : Nat, x ^^^ (x ^^^ y) = y := fun x y => by rw [← Nat.xor_assoc, Nat.xor_self, Nat.zero_xor]
  have d : ∀ x y z : Nat, (x ^^^ y) ^^^ (y ^^^ z) = x ^^^ z := fun x y z => by rw [Nat.xor_assoc, c]
  have e : s + s + s + s = s + (s + (s + s)) := by omega
  simp only [Nat.shiftRight_xor_distrib, ← Nat.shiftRight_add, d]
  rw [e, z, Nat.xor_zero]

theorem mod_lt64 (n : Nat) : n % 18446744073709551616 < 18446744073709551616 := Nat.mod_lt _ (by decide)

/-- A step of the mixture. -/
def stepN (n s m : Nat) : Nat := (n ^^^ n >>> s) * m % 18446744073709551616
theorem stepN_lt (n s m : Nat) : stepN n s m < 18446744073709551616 := mod_lt64 _
theorem stepN_one (n s : Nat) (hn : n < 18446744073709551616) : stepN n s 1 = n ^^^ n >>> s := by
  unfold stepN
  rw [Nat.mul_one, Nat.mod_eq_of_lt (xor_lt _ _ hn (shr_lt _ _ hn))]
def mixN (n : Nat) : Nat := stepN (stepN (stepN n 30 13787848793156543929) 27 10723151780598845931) 31 1
theorem mixN_lt (n : Nat) : mixN n < 18446744073709551616 := stepN_lt _ _ _


theorem step_walk (n s m : Nat) (hn : n < 18446744073709551616) (hs : s ≤ 64) : IntKind.u64.wrap (Go.bits .xor .u64 (n : Int) ((n : Int) / 2 ^ min s 64) * (m : Int)) = (stepN n s m : Int) := by
  have e : (n : Int) / 2 ^ min s 64 = ((n >>> s : Nat) : Int) := by
    rw [Nat.min_eq_left hs, Nat.shiftRight_eq_div_pow]; simp
  rw [e, xor64 _ _ hn (shr_lt _ _ hn), mul64]
  unfold stepN
  exact congrArg Int.ofNat (Eq.refl _)
/-- Words that the walk's simp leaves whole. -/
def mulM (a b : Nat) : Nat := a * b % 18446744073709551616
def xorN (a b : Nat) : Nat := a ^^^ b
def shrN (a s : Nat) : Nat := a >>> s
theorem mulM_lt (a b : Nat) : mulM a b < 18446744073709551616 := mod_lt64 _
theorem xorN_lt (a b : Nat) (ha : a < 18446744073709551616) (hb : b < 18446744073709551616) : xorN a b < 18446744073709551616 := xor_lt a b ha hb
theorem shrN_lt (a s : Nat) (ha : a < 18446744073709551616) : shrN a s < 18446744073709551616 := shr_lt a s ha
theorem xorN_int (a b : Nat) (ha : a < 18446744073709551616) (hb : b < 18446744073709551616) : Go.bits .xor .u64 (a : Int) (b : Int) = (xorN a b : Int) := xor64 a b ha hb
theorem stepN_eq (n s m : Nat) : stepN n s m = mulM (xorN n (shrN n s)) m := by unfold stepN mulM xorN shrN; exact Eq.refl _
theorem last_step (s : Nat) (h : s < 18446744073709551616) : stepN s 31 1 = xorN s (shrN s 31) := stepN_one _ _ h
theorem mixN_open (n : Nat) : mixN n = stepN (stepN (stepN n 30 13787848793156543929) 27 10723151780598845931) 31 1 := by unfold mixN; exact Eq.refl _
theorem mixN_split (n : Nat) : mixN n = xorN (stepN (stepN n 30 13787848793156543929) 27 10723151780598845931) (shrN (stepN (stepN n 30 13787848793156543929) 27 10723151780598845931) 31) := (mixN_open n).trans (last_step _ (stepN_lt _ _ _))
theorem half64 (b : Nat) (hb : b < 18446744073709551616) : IntKind.u64.wrap ((b : Int) / 2) = ((b / 2 : Nat) : Int) := by rw [wrap_u64']; omega
/-- A step of FNV-1a, and the whole hash. -/
def fnvS (h : Nat) (x : UInt8) : Nat := mulM (xorN h x.toNat) 1099511628211
def fnvN (xs : List UInt8) : Nat := xs.foldl fnvS 14695981039346656037
theorem fnvS_lt (h : Nat) (x : UInt8) : fnvS h x < 18446744073709551616 := mulM_lt _ _
theorem foldl_lt (xs : List UInt8) (h : Nat) (hh : h < 18446744073709551616) : xs.foldl fnvS h < 18446744073709551616 := by
  induction xs generalizing h with
  | nil => exact hh
  | cons x xs ih => exact ih _ (fnvS_lt h x)
theorem fnvN_lt (xs : List UInt8) : fnvN xs < 18446744073709551616 := by
  unfold fnvN
  exact foldl_lt xs 14695981039346656037 (by omega)
theorem fnv_snoc (xs : List UInt8) (i : Nat) (h : i < xs.length) : fnvN (xs.take (i + 1)) = fnvS (fnvN (xs.take i)) xs[i] := by
  unfold fnvN
  rw [List.take_succ_eq_append_getElem h, List.foldl_append, List.foldl_cons, List.foldl_nil]
theorem wrap_byte (x : UInt8) : IntKind.u64.wrap (x.toNat : Int) = (x.toNat : Int) := by
  have hx : x.toNat < 256 := x.toNat_lt
  rw [wrap_u64']; omega
theorem fnv_int (h : Nat) (x : UInt8) (hh : h < 18446744073709551616) : IntKind.u64.wrap (Go.bits .xor .u64 (h : Int) (IntKind.u64.wrap (x.toNat : Int)) * 1099511628211) = (fnvS h x : Int) := by
  have hx : x.toNat < 18446744073709551616 := Nat.lt_of_lt_of_le x.toNat_lt (by decide)
  rw [wrap_byte, xorN_int _ _ hh hx]
  exact mul64 _ 1099511628211
/-- The seeded hash. -/
def seededN (seed : Nat) (xs : List UInt8) : Nat := mixN (xorN (fnvN xs) (mixN seed))
theorem seededN_lt (seed : Nat) (xs : List UInt8) : seededN seed xs < 18446744073709551616 := mixN_lt _
end Go.Proofs.Ytfgaggpfdckggaa.Hash
