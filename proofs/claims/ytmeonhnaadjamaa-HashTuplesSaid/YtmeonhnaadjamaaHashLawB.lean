/- The laws HashBytes and (its beginning) known of layer 12. -/
import Derived.Test.YtmeonhnaadjamaaHashR
import Derived.Outline
namespace Go.Proofs.Ytmeonhnaadjamaa.Hash
set_option linter.unusedVariables false
set_option linter.unusedSimpArgs false
open Go.RowKit

theorem fnv_nil : fnvN [] = 14695981039346656037 := by unfold fnvN; rw [List.foldl_nil]
theorem fnv_a : fnvN [97] = 12638187200555641996 := by decide +kernel
theorem mix_0 : mixN 0 = 0 := by decide +kernel

theorem cell_one (w : World) (b : Nat) (x : Nat) (e : Nat) (fr : Nat × Nat) (hb : b = w.heap.size) (u : UInt8) (hu : u.toNat = x) : Cells (w.alloc (.cells #[.int .u8 (x : Int)] e fr)) (some ⟨b, 0, none⟩) (encB [u]) :=
  Cells.new w _ e fr b hb _ (fun i v h => by
    cases i with
    | zero => simp [encB, hu] at h ⊢; exact h
    | succ i => simp [encB] at h)

set_option maxHeartbeats 400000 in
theorem known_calls (w : World) : Calls Try.prog 8 #[] w fun e w' => e = .returned (.bool true) ∧ Below w.heap.size w w' := by
  have C1 := fnv_calls none 0 [] w (Cells.nil _ _) (by simp)
  rw [fnv_nil] at C1
  have C2 := fun W h => fnv_calls (some ⟨w.heap.size, 0, none⟩) 1 [97] W h (by simp)
  rw [fnv_a] at C2
  have C3 := fun W => mix_calls 0 W (by omega)
  rw [mix_0] at C3
  have kc := fun (W : World) (C : Array Value) (n c : Nat) => Lib.run_convert_bytes_const (P := Try.prog) W 26 5 C n c Try.underlying26 Try.underlying5
  go_enter Try.func8, Try.ntmps8
  go_wp2_with fail
  refine C1.mono ?_
  rintro e w' ⟨rfl, rfl⟩
  go_wp2_with fail
  refine (C2 _ (cell_one w _ 97 _ _ rfl 97 rfl)).mono ?_
  rintro e w' ⟨rfl, rfl⟩
  go_wp2_with fail
  refine (C3 _).mono ?_
  rintro e w' ⟨rfl, hb⟩
  go_wp2_with fail
  go_ret
  exact ⟨rfl, below_step (below_alloc (Below.refl _ _) _) hb⟩

theorem infoB : (Try.prog.info? 5).map (fun i => (i.zero, i.size, i.bytes)) = some (some (.int .u8 0), 1, 1) := by kernel_rfl

set_option maxHeartbeats 4000000 in
set_option maxRecDepth 100000 in
theorem bytes_calls (A : Option Addr) (c seed : Nat) (xs : List UInt8) (w : World) (hs : seed < 18446744073709551616) (hc : Cells w A (encB xs)) (hA : A = none → xs.length = 0 ∧ c = 0) (hx : xs.length ≤ 9223372036854775807) :
    Calls Try.prog 4 #[.int .u64 (seed : Int), .slice A xs.length c] w fun e w' => e = .returned (.bool true) ∧ Below w.heap.size w w' := by
  by_cases h : xs.length ≤ 1000
  · have hb : decide (xs.length > 1000) = false := decide_eq_false (by omega)
    have hb' : decide ((xs.length : Int) > 1000) = false := decide_eq_false (by omega)
    obtain ⟨i0, hi, hz0, hz1, hz2⟩ := info_parts infoB
    obtain ⟨v, w1, hr, hown, hg, _⟩ := run_append_cells (P := Try.prog) (w.alloc (.cells #[] 5)) w.heap.size 26 26 5 i0 (.int .u8 0) 1 1 Try.underlying26 hi hz0 hz1 hz2 rfl (by decide)
      _ _ _ (World.ownsRow_lit (base := w.heap.size) (e := 5) (size := 1) w #[] 0 (Nat.le_refl _) (by decide) rfl) A xs.length c (encB xs) (by simp [encB]) hA (hc.below (below_alloc (Below.refl _ _) _)) (encB_one xs)
      (by unfold maxLen; omega) (by omega) (by simp)
    have hB : Below w.heap.size w w1 := (below_alloc (Below.refl w.heap.size w) _).grown hg (by simp) (fun k e => by simp [Value.ownBlock] at e; omega)
    obtain ⟨A1, c1, rfl, hc1, _, hC1⟩ := owns_cells hown (by decide)
    rw [List.nil_append] at hC1
    rw [Nat.zero_add] at hr hc1
    have hcw := hc.below hB
    clear hown hg hi hz0 hz1 hz2 hc
    replace hcw := Hd.mk hcw
    replace hC1 := Hd.mk hC1
    replace hB := Hd.mk hB
    replace hs := Hd.mk hs
    replace hA := Hd.mk hA
    go_enter Try.func4, Try.ntmps4
    have HR := Hd.mk hr
    clear hr
    have K1 : ∀ W, Behind w1 W → Calls Try.prog 9 #[.slice A1 xs.length c1] W fun e w' => e = .returned (.int .u64 (fnvN xs : Int)) ∧ Behind w1 w' :=
      fun W h => (fnv_calls A1 c1 xs W (hC1.out.behind h) hx).mono fun _ _ ⟨a, b⟩ => ⟨a, b ▸ h⟩
    have K2 : ∀ W, Behind w1 W → Calls Try.prog 10 #[.slice A xs.length c] W fun e w' => e = .returned (.int .u64 (fnvN xs : Int)) ∧ Behind w1 w' :=
      fun W h => (rfnv_calls A c xs W (hcw.out.behind h) hx).mono fun _ _ ⟨a, b⟩ => ⟨a, b ▸ h⟩
    have K3 : ∀ W, Behind w1 W → Calls Try.prog 7 #[.int .u64 (seed : Int)] W fun e w' => e = .returned (.int .u64 (mixN seed : Int)) ∧ Behind w1 w' :=
      fun W h => (mix_calls seed W hs.out).mono fun _ _ ⟨a, b⟩ => ⟨a, h.step b⟩
    have K4 : ∀ W, Behind w1 W → Calls Try.prog 11 #[.int .u64 (seed : Int)] W fun e w' => e = .returned (.int .u64 (mixN seed : Int)) ∧ Behind w1 w' :=
      fun W h => (rmix_calls seed W hs.out).mono fun _ _ ⟨a, b⟩ => ⟨a, b ▸ h⟩
    have K5 : ∀ W, Behind w1 W → Calls Try.prog 12 #[.int .u64 (seed : Int), .slice A1 xs.length c1] W fun e w' => e = .returned (.int .u64 (seededN seed xs : Int)) ∧ Behind w1 w' :=
      fun W h => (seeded_calls A1 c1 seed xs W hs.out (hC1.out.behind h) hx).mono fun _ _ ⟨a, b⟩ => ⟨a, h.step b⟩
    have K6 : ∀ W, Behind w1 W → Calls Try.prog 13 #[.int .u64 (seed : Int), .slice A xs.length c] W fun e w' => e = .returned (.int .u64 (seededN seed xs : Int)) ∧ Behind w1 w' :=
      fun W h => (rseeded_calls A c seed xs W hs.out (hcw.out.behind h) hx).mono fun _ _ ⟨a, b⟩ => ⟨a, b ▸ h⟩
    obtain ⟨s, hs0⟩ : ∃ s : ByteArray, s = ⟨xs.toArray⟩ := ⟨_, rfl⟩
    have hsl : s.data.toList = xs := by rw [hs0]
    have hsz : s.size ≤ 9223372036854775807 := by
      have : s.size = xs.length := by rw [← hsl, Array.length_toList]; rfl
      omega
    have K7 : ∀ W, Behind w1 W → Calls Try.prog 14 #[.int .u64 (seed : Int), .string s] W fun e w' => e = .returned (.int .u64 (seededN seed xs : Int)) ∧ Behind w1 w' :=
      fun W h => (name_calls seed s W hs.out hsz).mono fun _ _ ⟨a, b⟩ => ⟨by rw [a, hsl], h.step b⟩
    have K8 : ∀ W, Behind w1 W → Calls Try.prog 15 #[.int .u64 (seed : Int), .string s] W fun e w' => e = .returned (.int .u64 (seededN seed xs : Int)) ∧ Behind w1 w' :=
      fun W h => (rname_calls seed s W hs.out hsz).mono fun _ _ ⟨a, b⟩ => ⟨by rw [a, hsl], h.step b⟩
    have K9 : ∀ W, Behind w1 W → Calls Try.prog 8 #[] W fun e w' => e = .returned (.bool true) ∧ Behind w1 w' :=
      fun W h => (known_calls W).mono fun _ _ ⟨a, b⟩ => ⟨a, h.step b⟩
    have V1 : ∀ W, Behind w1 W → (convert 26 9 (.slice A xs.length c)).run Try.prog W = .ok (.string s) W :=
      fun W h => by rw [hs0]; exact conv_str W _ _ _ Try.underlying26 Try.underlying5 Try.underlying9 A c xs (hcw.out.behind h)
    have V2 : ∀ W, Behind w1 W → (convert 26 9 (.slice A1 xs.length c1)).run Try.prog W = .ok (.string s) W :=
      fun W h => by rw [hs0]; exact conv_str W _ _ _ Try.underlying26 Try.underlying5 Try.underlying9 A1 c1 xs (hC1.out.behind h)
    have h0 : Behind w1 w1.drew := (Behind.refl w1).drew
    clear hs0 hsl hsz hcw hC1
    generalize fnvN xs = F at K1 K2
    generalize seededN seed xs = SD at K5 K6 K7 K8
    generalize mixN seed = M at K3 K4
    go_wp2_with (at_builtin; refine wpList_append_run rfl _ _ _ rfl _ _ _ rfl rfl HR.out ?_)
    clear HR
    go_region_held3 (fun W => Behind w1 W) (first | assumption | (dsimp only; assumption))
      (first
      | (go_at_call 9; refine (K1 _ (by assumption)).mono ?_; rintro e w' ⟨rfl, hS⟩)
      | (go_at_call 10; refine (K2 _ (by assumption)).mono ?_; rintro e w' ⟨rfl, hS⟩)
      | (go_at_call 7; refine (K3 _ (by assumption)).mono ?_; rintro e w' ⟨rfl, hS⟩)
      | (go_at_call 11; refine (K4 _ (by assumption)).mono ?_; rintro e w' ⟨rfl, hS⟩)
      | (go_at_call 12; refine (K5 _ (by assumption)).mono ?_; rintro e w' ⟨rfl, hS⟩)
      | (go_at_call 13; refine (K6 _ (by assumption)).mono ?_; rintro e w' ⟨rfl, hS⟩)
      | (go_at_call 14; refine (K7 _ (by assumption)).mono ?_; rintro e w' ⟨rfl, hS⟩)
      | (go_at_call 15; refine (K8 _ (by assumption)).mono ?_; rintro e w' ⟨rfl, hS⟩)
      | (go_at_call 8; refine (K9 _ (by assumption)).mono ?_; rintro e w' ⟨rfl, hS⟩))
    all_goals
      go_wp2
      go_ret
      exact ⟨rfl, below_step hB.out (Behind.out (by assumption))⟩
  · have hb : decide (xs.length > 1000) = true := decide_eq_true (by omega)
    have hb' : decide ((xs.length : Int) > 1000) = true := decide_eq_true (by omega)
    go_enter Try.func4, Try.ntmps4
    go_wp2_with fail
    refine (known_calls _).mono ?_
    rintro e w' ⟨rfl, hb⟩
    go_wp2
    go_ret
    exact ⟨rfl, hb⟩

theorem bytes_walk (seed : Int) (A : Option Addr) (len cap : Nat) (zs : List Int) (w : World) (hs : (Lit.int .u64 seed).wf = true)
    (hr : (A = none ∧ len = 0 ∧ cap = 0 ∧ zs = []) ∨ ∃ x, A = some x ∧ len ≤ cap ∧ cap ≤ maxLen ∧ zs.length = cap ∧ (∀ i, i < zs.length → w.cell? (x.add i) = some (.int .u8 (zs.getD i 0))) ∧ ∀ n ∈ zs, (Lit.int .u8 n).wf = true) :
    Calls Try.prog 4 #[.int .u64 seed, .slice A len cap] w fun e w' => e = .returned (.bool true) ∧ Below w.heap.size w w' := by
  simp [Lit.wf, IntKind.min, IntKind.max, IntKind.signed, IntKind.bits] at hs
  obtain ⟨n, rfl⟩ := Int.eq_ofNat_of_zero_le hs.1
  obtain ⟨xs, rfl, hc, hA, hx⟩ := row_bytes A len cap zs w hr
  exact bytes_calls A cap n xs w (by omega) hc hA hx
end Go.Proofs.Ytmeonhnaadjamaa.Hash
