/- The walks of package hash: Fnv, Mix and Seeded answer what the plain functions say. -/
import Derived.Test.YtfgaggpfdckggaaHashM
import Derived.Deep.LoopGhost
import Derived.Outline
namespace Go.Proofs.Ytfgaggpfdckggaa.Hash
set_option linter.unusedVariables false
set_option linter.unusedSimpArgs false
open Go.RowKit

set_option maxHeartbeats 400000 in
theorem fnv_calls (A : Option Addr) (c : Nat) (xs : List UInt8) (w : World) (hc : Cells w A (encB xs)) (hx : xs.length ≤ 9223372036854775807) :
    Calls Try.prog 26 #[.slice A xs.length c] w fun e w' => e = .returned (.int .u64 (fnvN xs : Int)) ∧ w = w' := by
  replace hc := Hd.mk hc
  go_enter Try.func26, Try.ntmps26
  go_wp2
  go_loopg [3, 8] (xs.length + 1) (fun gq v3 v8 w' => ∃ i : Nat, v8 = .int .i64 i ∧ i ≤ xs.length ∧ xs.length - i ≤ gq ∧ v3 = .int .u64 (fnvN (xs.take i) : Int) ∧ w = w')
  case atStart => exact ⟨0, rfl, by omega, by omega, rfl, rfl⟩
  case round =>
    obtain ⟨i, rfl, hi, hgq, rfl, rfl⟩ := hrel
    by_cases hlt : i < xs.length
    · have hltb : decide (i < xs.length) = true := decide_eq_true hlt
      obtain ⟨b, o, rfl, hcell⟩ := hc.out.at i _ (encB_get xs i hlt)
      have hlt64 := fnvN_lt (xs.take i)
      have hs := Hd.mk (fnv_snoc xs i hlt)
      have he := Hd.mk (fnv_int (fnvN (xs.take i)) xs[i] hlt64)
      generalize fnvN (xs.take i) = h at hs he
      clear hlt64
      go_wp2
      go_roundg (xs.length - (i + 1))
      case measure => omega
      case rel => exact ⟨i + 1, by go_num, by omega, by omega, by rw [hs.out, ← he.out], rfl⟩
    · have hltb : decide (i < xs.length) = false := decide_eq_false hlt
      have e : xs.take i = xs := List.take_of_length_le (by omega)
      replace e := Hd.mk e
      go_wp2
      go_ret
      exact ⟨ret_int (by rw [e.out]), rfl⟩

/-- A step of a mixture, in memory. -/
def encS (l : List (Nat × Nat)) : List Value := l.flatMap fun p => [.int .u64 (p.1 : Int), .int .u64 (p.2 : Int)]
theorem encS_get (l : List (Nat × Nat)) (i : Nat) (h : i < l.length) : (encS l)[i * 2]? = some (.int .u64 (l[i].1 : Int)) ∧ (encS l)[i * 2 + 1]? = some (.int .u64 (l[i].2 : Int)) := by
  induction l generalizing i with
  | nil => simp at h
  | cons p l ih =>
    cases i with
    | zero => exact ⟨rfl, rfl⟩
    | succ i =>
      have h' : i < l.length := by simpa using h
      have e : (i + 1) * 2 = i * 2 + 2 := by omega
      have := ih i h'
      rw [e]
      exact this
def mixL (n : Nat) (l : List (Nat × Nat)) : Nat := l.foldl (fun n p => stepN n p.1 p.2) n

set_option maxHeartbeats 400000 in
theorem mixed_calls (A : Option Addr) (c n : Nat) (l : List (Nat × Nat)) (w : World) (hc : Cells w A (encS l)) (hl : l.length ≤ 100) (hs : ∀ p ∈ l, p.1 ≤ 64 ∧ p.2 < 18446744073709551616) (hn : n < 18446744073709551616) :
    Calls Try.prog 29 #[.int .u64 (n : Int), .slice A l.length c] w fun e w' => e = .returned (.int .u64 (mixL n l : Int)) ∧ Below w.heap.size w w' := by
  replace hc := Hd.mk hc
  replace hs := Hd.mk hs
  have hB := Hd.mk (Below.refl w.heap.size w)
  replace hn := Hd.mk hn
  go_enter Try.func29, Try.ntmps29
  go_wp2
  go_loopg [0, 9] (l.length + 1) (fun gq v0 v9 w' => ∃ i n' : Nat, v9 = .int .i64 i ∧ i ≤ l.length ∧ l.length - i ≤ gq ∧ v0 = .int .u64 (n' : Int) ∧ Hd (n' < 18446744073709551616 ∧ mixL n l = mixL n' (l.drop i)) ∧ Hd (Below w.heap.size w w'))
  case atStart => exact ⟨0, n, rfl, by omega, by omega, rfl, ⟨hn.out, rfl⟩, hB⟩
  case round =>
    obtain ⟨i, n', rfl, hi, hgq, rfl, hm, hB'⟩ := hrel
    by_cases hlt : i < l.length
    · have hltb : decide (i < l.length) = true := decide_eq_true hlt
      have hcw := hc.out.below hB'.out
      obtain ⟨b, o, rfl, hcell⟩ := hcw.at (i * 2) _ (encS_get l i hlt).1
      obtain ⟨b', o', e', hcell2⟩ := hcw.at (i * 2 + 1) _ (encS_get l i hlt).2
      cases e'
      rw [← Nat.add_assoc] at hcell2
      clear hcw
      have hbd := Hd.mk (hs.out l[i] (List.getElem_mem hlt))
      generalize hp : l[i] = p at hcell hcell2 hbd
      obtain ⟨sh, by_⟩ := p
      replace hp := Hd.mk hp
      have hst := step_walk n' sh by_ hm.out.1 hbd.out.1
      replace hst := Hd.mk hst
      go_wp2
      go_roundg (l.length - (i + 1))
      case measure => omega
      case rel =>
        refine ⟨i + 1, stepN n' sh by_, by go_num, by omega, by omega, by rw [hst.out], ⟨stepN_lt _ _ _, ?_⟩, ⟨below_alloc hB'.out _⟩⟩
        rw [hm.out.2, List.drop_eq_getElem_cons hlt, hp.out]
        unfold mixL
        rw [List.foldl_cons]
    · have hltb : decide (i < l.length) = false := decide_eq_false hlt
      have e : l.drop i = [] := List.drop_eq_nil_of_le (by omega)
      replace e := Hd.mk e
      go_wp2
      go_ret
      exact ⟨ret_int (by rw [hm.out.2, e.out]; unfold mixL; rw [List.foldl_nil]), hB'.out⟩

def mixSteps : List (Nat × Nat) := [(30, 13787848793156543929), (27, 10723151780598845931), (31, 1)]
theorem mixL_steps (n : Nat) : mixL n mixSteps = mixN n := by
  unfold mixL mixSteps mixN
  rw [List.foldl_cons, List.foldl_cons, List.foldl_cons, List.foldl_nil]

set_option maxHeartbeats 400000 in
theorem mix_calls (n : Nat) (w : World) (hn : n < 18446744073709551616) :
    Calls Try.prog 25 #[.int .u64 (n : Int)] w fun e w' => e = .returned (.int .u64 (mixN n : Int)) ∧ Below w.heap.size w w' := by
  have C := fun (W : World) (h : Cells W (some ⟨w.heap.size, 0, none⟩) (encS mixSteps)) => mixed_calls (some ⟨w.heap.size, 0, none⟩) 3 n mixSteps W h (by decide) (by decide) hn
  have hne := Hd.mk (mixL_steps n)
  replace hn := Hd.mk hn
  go_enter Try.func25, Try.ntmps25
  go_wp2_with fail
  refine (C _ ?_).mono ?_
  · refine Cells.new w _ _ _ _ rfl _ ?_
    unfold encS mixSteps
    exact fun i v h => by simpa using h
  · rintro e w' ⟨rfl, hb⟩
    go_wp2
    go_ret
    exact ⟨ret_int (by rw [hne.out]), below_step (below_alloc (Below.refl _ _) _) hb⟩

set_option maxHeartbeats 400000 in
theorem seeded_calls (A : Option Addr) (c seed : Nat) (xs : List UInt8) (w : World) (hs : seed < 18446744073709551616) (hc : Cells w A (encB xs)) (hx : xs.length ≤ 9223372036854775807) :
    Calls Try.prog 20 #[.int .u64 (seed : Int), .slice A xs.length c] w fun e w' => e = .returned (.int .u64 (seededN seed xs : Int)) ∧ Below w.heap.size w w' := by
  have C1 := fnv_calls A c xs w hc hx
  have C2 := mix_calls seed
  have hx := Hd.mk (xorN_int _ _ (fnvN_lt xs) (mixN_lt seed))
  have C3 := mix_calls (xorN (fnvN xs) (mixN seed))
  have hl := Hd.mk (xorN_lt _ _ (fnvN_lt xs) (mixN_lt seed))
  have hr := Hd.mk (show seededN seed xs = mixN (xorN (fnvN xs) (mixN seed)) from by unfold seededN; exact Eq.refl _)
  replace hs := Hd.mk hs
  go_enter Try.func20, Try.ntmps20
  go_wp2_with fail
  refine C1.mono ?_
  rintro e w' ⟨rfl, rfl⟩
  go_wp2_with fail
  refine (C2 _ hs.out).mono ?_
  rintro e w1 ⟨rfl, hb1⟩
  go_wp2_with fail
  rw [hx.out]
  refine (C3 _ hl.out).mono ?_
  rintro e w2 ⟨rfl, hb2⟩
  go_wp2
  go_ret
  exact ⟨ret_int (by rw [hr.out]), below_step hb1 hb2⟩
end Go.Proofs.Ytfgaggpfdckggaa.Hash
