/- The walks of the reference for hashing (weighbridgeref12), and of Name: the same plain functions as package hash. -/
import Derived.Test.YtfgaggpfdckggaaHashW
namespace Go.Proofs.Ytfgaggpfdckggaa.Hash
set_option linter.unusedVariables false
set_option linter.unusedSimpArgs false
open Go.RowKit

theorem times_step (a b o : Nat) : ((o + b % 2 * a) % 18446744073709551616 + (a + a) % 18446744073709551616 * (b / 2)) % 18446744073709551616 = (o + a * b) % 18446744073709551616 := by
  have hb : b = 2 * (b / 2) + b % 2 := by omega
  have h1 : o + a * b = (o + b % 2 * a) + (a + a) * (b / 2) := by
    generalize b / 2 = q at hb
    generalize b % 2 = r at hb
    subst hb
    rw [Nat.mul_add, Nat.add_mul, Nat.mul_comm a (2 * q), Nat.mul_assoc, Nat.mul_comm q a, Nat.two_mul, Nat.mul_comm r a]
    omega
  rw [h1, Nat.add_mod, Nat.mod_mod, Nat.mod_mul_mod]
  rw [← Nat.add_mod]

theorem add64 (a b : Nat) : IntKind.u64.wrap ((a : Int) + (b : Int)) = (((a + b) % 18446744073709551616 : Nat) : Int) := by
  rw [wrap_u64']; omega

set_option maxHeartbeats 400000 in
theorem times_calls (A B : Nat) (w : World) (hA : A < 18446744073709551616) (hB : B < 18446744073709551616) :
    Calls Try.prog 30 #[.int .u64 (A : Int), .int .u64 (B : Int)] w fun e w' => e = .returned (.int .u64 (mulM A B : Int)) ∧ w = w' := by
  replace hA := Hd.mk hA
  replace hB := Hd.mk hB
  go_enter Try.func30, Try.ntmps30
  go_wp2
  go_loopg [0, 1, 5] B (fun gq v0 v1 v5 w' => ∃ a b o : Nat, v0 = .int .u64 (a : Int) ∧ v1 = .int .u64 (b : Int) ∧ v5 = .int .u64 (o : Int) ∧ b ≤ gq ∧ Hd (b < 18446744073709551616 ∧ o < 18446744073709551616 ∧ (o + a * b) % 18446744073709551616 = A * B % 18446744073709551616) ∧ w = w')
  case atStart => exact ⟨A, B, 0, rfl, rfl, rfl, by omega, ⟨hB.out, by omega, by rw [Nat.zero_add]⟩, rfl⟩
  case round =>
    obtain ⟨a, b, o, rfl, rfl, rfl, hgq, hm, rfl⟩ := hrel
    by_cases hb0 : 0 < b
    · have hbb : decide ((b : Int) > 0) = true := decide_eq_true (by omega)
      have ha := Hd.mk (add64 a a)
      have hq := Hd.mk (half64 b hm.out.1)
      have ho := Hd.mk (add64 o a)
      have hst := Hd.mk (times_step a b o)
      by_cases hodd : b % 2 = 1
      · have hoddb : ((b : Int) % 2 == 1) = true := beq_iff_eq.mpr (by omega)
        go_wp2
        go_roundg (b / 2)
        case measure => omega
        case rel =>
          refine ⟨(a + a) % 18446744073709551616, b / 2, (o + a) % 18446744073709551616, by rw [ha.out], by rw [hq.out], by rw [ho.out], by omega, ⟨?_, mod_lt64 _, ?_⟩, rfl⟩
          · have := hm.out.1; omega
          · have e := hst.out
            rw [hodd, Nat.one_mul] at e
            rw [e]; exact hm.out.2.2
      · have hoddb : ((b : Int) % 2 == 1) = false := beq_eq_false_iff_ne.mpr (by omega)
        go_wp2
        go_roundg (b / 2)
        case measure => omega
        case rel =>
          refine ⟨(a + a) % 18446744073709551616, b / 2, o, by rw [ha.out], by rw [hq.out], rfl, by omega, ⟨?_, hm.out.2.1, ?_⟩, rfl⟩
          · have := hm.out.1; omega
          · have e := hst.out
            rw [show b % 2 = 0 by omega, Nat.zero_mul, Nat.add_zero, Nat.mod_eq_of_lt hm.out.2.1] at e
            rw [e]; exact hm.out.2.2
    · have hbb : decide ((b : Int) > 0) = false := decide_eq_false (by omega)
      have hz : b = 0 := by omega
      subst hz
      have e := hm.out.2.2
      rw [Nat.mul_zero, Nat.add_zero, Nat.mod_eq_of_lt hm.out.2.1] at e
      replace e := Hd.mk e
      go_wp2
      go_ret
      exact ⟨ret_int (by rw [e.out]; unfold mulM; exact Eq.refl _), rfl⟩

set_option maxHeartbeats 400000 in
theorem down_calls (n by_ : Nat) (w : World) (hn : n < 18446744073709551616) (hb : by_ ≤ 64) :
    Calls Try.prog 31 #[.int .u64 (n : Int), .int .i64 (by_ : Int)] w fun e w' => e = .returned (.int .u64 (shrN n by_ : Int)) ∧ w = w' := by
  replace hn := Hd.mk hn
  go_enter Try.func31, Try.ntmps31
  go_wp2
  go_loopg [0, 5] 65 (fun gq v0 v5 w' => ∃ i m : Nat, v5 = .int .i64 (i : Int) ∧ i ≤ by_ ∧ by_ - i ≤ gq ∧ v0 = .int .u64 (m : Int) ∧ Hd (m = shrN n i) ∧ w = w')
  case atStart => exact ⟨0, n, rfl, by omega, by omega, rfl, ⟨(Nat.shiftRight_zero).symm⟩, rfl⟩
  case round =>
    obtain ⟨i, m, rfl, hi, hgq, rfl, hm, rfl⟩ := hrel
    by_cases hlt : i < by_
    · have hltb : decide (i < by_) = true := decide_eq_true hlt
      have hltb2 : decide ((i : Int) < (by_ : Int)) = true := decide_eq_true (by omega)
      have hq := Hd.mk (half64 m (by rw [hm.out]; exact shrN_lt n i hn.out))
      go_wp2
      go_roundg (by_ - (i + 1))
      case measure => omega
      case rel => exact ⟨i + 1, m / 2, by go_num, by omega, by omega, by rw [hq.out], ⟨by rw [hm.out]; unfold shrN; rw [Nat.shiftRight_succ]⟩, rfl⟩
    · have hltb : decide (i < by_) = false := decide_eq_false hlt
      have hltb2 : decide ((i : Int) < (by_ : Int)) = false := decide_eq_false (by omega)
      have e : i = by_ := by omega
      subst e
      go_wp2
      go_ret
      exact ⟨ret_int (by rw [hm.out]), rfl⟩

set_option maxHeartbeats 400000 in
theorem rfnv_calls (A : Option Addr) (c : Nat) (xs : List UInt8) (w : World) (hc : Cells w A (encB xs)) (hx : xs.length ≤ 9223372036854775807) :
    Calls Try.prog 28 #[.slice A xs.length c] w fun e w' => e = .returned (.int .u64 (fnvN xs : Int)) ∧ w = w' := by
  replace hc := Hd.mk hc
  go_enter Try.func28, Try.ntmps28
  go_wp2
  go_loopg [3, 4] (xs.length + 1) (fun gq v3 v8 w' => ∃ i : Nat, v8 = .int .i64 i ∧ i ≤ xs.length ∧ xs.length - i ≤ gq ∧ v3 = .int .u64 (fnvN (xs.take i) : Int) ∧ w = w')
  case atStart => exact ⟨0, rfl, by omega, by omega, rfl, rfl⟩
  case round =>
    obtain ⟨i, rfl, hi, hgq, rfl, rfl⟩ := hrel
    by_cases hlt : i < xs.length
    · have hltb : decide (i < xs.length) = true := decide_eq_true hlt
      obtain ⟨b, o, rfl, hcell⟩ := hc.out.at i _ (encB_get xs i hlt)
      have hlt64 := fnvN_lt (xs.take i)
      have hs := Hd.mk (fnv_snoc xs i hlt)
      have hx256 : xs[i].toNat < 18446744073709551616 := Nat.lt_of_lt_of_le xs[i].toNat_lt (by decide)
      have hxo := Hd.mk (xorN_int _ _ hlt64 hx256)
      have hwb := Hd.mk (wrap_byte xs[i])
      have C := fun w => times_calls (xorN (fnvN (xs.take i)) xs[i].toNat) 1099511628211 w (xorN_lt _ _ hlt64 hx256) (by omega)
      have hfs := Hd.mk (show fnvS (fnvN (xs.take i)) xs[i] = mulM (xorN (fnvN (xs.take i)) xs[i].toNat) 1099511628211 from by unfold fnvS; exact Eq.refl _)
      generalize fnvN (xs.take i) = h at hs hxo C hfs
      clear hlt64 hx256
      go_wp2_with fail
      rw [hwb.out, hxo.out]
      refine (C _).mono ?_
      rintro e w' ⟨rfl, rfl⟩
      go_wp2
      go_roundg (xs.length - (i + 1))
      case measure => omega
      case rel => exact ⟨i + 1, by go_num, by omega, by omega, by rw [hs.out, hfs.out], rfl⟩
    · have hltb : decide (i < xs.length) = false := decide_eq_false hlt
      have e : xs.take i = xs := List.take_of_length_le (by omega)
      replace e := Hd.mk e
      go_wp2
      go_ret
      exact ⟨ret_int (by rw [e.out]), rfl⟩

set_option maxHeartbeats 400000 in
theorem rmix_calls (n : Nat) (w : World) (hn : n < 18446744073709551616) :
    Calls Try.prog 27 #[.int .u64 (n : Int)] w fun e w' => e = .returned (.int .u64 (mixN n : Int)) ∧ w = w' := by
  have hst : ∀ a s m, stepN a s m = mulM (xorN a (shrN a s)) m := stepN_eq
  have a1 := stepN_lt n 30 13787848793156543929
  have a2 := stepN_lt (stepN n 30 13787848793156543929) 27 10723151780598845931
  have x1 := Hd.mk (xorN_int _ _ hn (shrN_lt n 30 hn))
  have x2 := Hd.mk (xorN_int _ _ a1 (shrN_lt _ 27 a1))
  have x3 := Hd.mk (xorN_int _ _ a2 (shrN_lt _ 31 a2))
  have D1 := fun w => down_calls n 30 w hn (by omega)
  have D2 := fun w => down_calls (stepN n 30 13787848793156543929) 27 w a1 (by omega)
  have D3 := fun w => down_calls (stepN (stepN n 30 13787848793156543929) 27 10723151780598845931) 31 w a2 (by omega)
  have T1 := fun w => times_calls (xorN n (shrN n 30)) 13787848793156543929 w (xorN_lt _ _ hn (shrN_lt _ _ hn)) (by omega)
  have T2 := fun w => times_calls _ 10723151780598845931 w (xorN_lt _ _ a1 (shrN_lt _ 27 a1)) (by omega)
  have hfin := Hd.mk (mixN_split n)
  rw [← hst] at T1
  rw [← hst] at T2
  clear hst
  generalize stepN (stepN n 30 13787848793156543929) 27 10723151780598845931 = s2 at a2 x3 D3 T2 hfin
  generalize stepN n 30 13787848793156543929 = s1 at a1 x2 D2 T1 T2
  clear a1 a2
  replace hn := Hd.mk hn
  go_enter Try.func27, Try.ntmps27
  go_wp2_with fail
  refine (D1 _).mono ?_
  rintro e w' ⟨rfl, rfl⟩
  go_wp2_with fail
  rw [x1.out]
  refine (T1 _).mono ?_
  rintro e w' ⟨rfl, rfl⟩
  go_wp2_with fail
  refine (D2 _).mono ?_
  rintro e w' ⟨rfl, rfl⟩
  go_wp2_with fail
  rw [x2.out]
  refine (T2 _).mono ?_
  rintro e w' ⟨rfl, rfl⟩
  go_wp2_with fail
  refine (D3 _).mono ?_
  rintro e w' ⟨rfl, rfl⟩
  go_wp2_with fail
  go_ret
  exact ⟨ret_int (by rw [hfin.out, ← x3.out]), rfl⟩

set_option maxHeartbeats 400000 in
theorem rseeded_calls (A : Option Addr) (c seed : Nat) (xs : List UInt8) (w : World) (hs : seed < 18446744073709551616) (hc : Cells w A (encB xs)) (hx : xs.length ≤ 9223372036854775807) :
    Calls Try.prog 22 #[.int .u64 (seed : Int), .slice A xs.length c] w fun e w' => e = .returned (.int .u64 (seededN seed xs : Int)) ∧ w = w' := by
  have C1 := rfnv_calls A c xs w hc hx
  have C2 := fun w => rmix_calls seed w hs
  have hx := Hd.mk (xorN_int _ _ (fnvN_lt xs) (mixN_lt seed))
  have C3 := fun w => rmix_calls (xorN (fnvN xs) (mixN seed)) w (xorN_lt _ _ (fnvN_lt xs) (mixN_lt seed))
  have hr := Hd.mk (show seededN seed xs = mixN (xorN (fnvN xs) (mixN seed)) from by unfold seededN; exact Eq.refl _)
  replace hs := Hd.mk hs
  replace hc := Hd.mk hc
  go_enter Try.func22, Try.ntmps22
  go_wp2_with fail
  refine C1.mono ?_
  rintro e w' ⟨rfl, rfl⟩
  go_wp2_with fail
  refine (C2 _).mono ?_
  rintro e w' ⟨rfl, rfl⟩
  go_wp2_with fail
  rw [hx.out]
  refine (C3 _).mono ?_
  rintro e w2 ⟨rfl, rfl⟩
  go_wp2
  go_ret
  exact ⟨ret_int (by rw [hr.out]), rfl⟩

set_option maxHeartbeats 400000 in
theorem name_calls (seed : Nat) (s : ByteArray) (w : World) (hs : seed < 18446744073709551616) (hx : s.size ≤ 9223372036854775807) :
    Calls Try.prog 15 #[.int .u64 (seed : Int), .string s] w fun e w' => e = .returned (.int .u64 (seededN seed s.data.toList : Int)) ∧ Below w.heap.size w w' := by
  have C := seeded_calls (some ⟨w.heap.size, 0, none⟩) (grownCap w s.size 0 5) seed s.data.toList (Lib.bytesWorld w 5 s) hs (bytes_cells w _ s) (by rw [Array.length_toList]; exact hx)
  rw [Array.length_toList] at C
  have hk := fun (W : World) => Lib.run_convert_string_bytes (P := Try.prog) W 9 44 5 s Try.underlying9 Try.underlying44 Try.underlying5
  replace hs := Hd.mk hs
  go_enter Try.func15, Try.ntmps15
  go_wp2_with fail
  refine C.mono ?_
  rintro e w2 ⟨rfl, hb⟩
  go_wp2
  go_ret
  exact ⟨rfl, below_step (bytes_below w _ s) hb⟩

set_option maxHeartbeats 400000 in
theorem rname_calls (seed : Nat) (s : ByteArray) (w : World) (hs : seed < 18446744073709551616) (hx : s.size ≤ 9223372036854775807) :
    Calls Try.prog 17 #[.int .u64 (seed : Int), .string s] w fun e w' => e = .returned (.int .u64 (seededN seed s.data.toList : Int)) ∧ Below w.heap.size w w' := by
  have C := rseeded_calls (some ⟨w.heap.size, 0, none⟩) (grownCap w s.size 0 5) seed s.data.toList (Lib.bytesWorld w 5 s) hs (bytes_cells w _ s) (by rw [Array.length_toList]; exact hx)
  rw [Array.length_toList] at C
  have hk := fun (W : World) => Lib.run_convert_string_bytes (P := Try.prog) W 9 44 5 s Try.underlying9 Try.underlying44 Try.underlying5
  replace hs := Hd.mk hs
  go_enter Try.func17, Try.ntmps17
  go_wp2_with fail
  refine C.mono ?_
  rintro e w2 ⟨rfl, rfl⟩
  go_wp2
  go_ret
  exact ⟨rfl, bytes_below w _ s⟩
end Go.Proofs.Ytfgaggpfdckggaa.Hash
