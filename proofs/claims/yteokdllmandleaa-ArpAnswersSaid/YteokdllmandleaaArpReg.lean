/- The law ArpAnswers: what it asks beside. -/
import Derived.Test.YteokdllmandleaaArpK
import Derived.Test.YteokdllmandleaaInv
namespace Go.Proofs.Yteokdllmandleaa.Arp
set_option linter.unusedVariables false
set_option linter.unusedSimpArgs false
open Go.RowKit Go.Proofs.Yteokdllmandleaa

/-- What each operation of the region leaves. -/
def val5 (op : Int) (fr ip own : Nat → UInt8) (A : Option Addr) (c : Nat) (l : List (Nat → UInt8)) (p0 p1 : Nat) (w5 : World) (f : Nat → Bool) (j : Nat) (x : Value) (w : World) : Prop := match j with
  | 0 => x = .pointer (some ⟨p0, 1, none⟩)
  | 1 => x = .agg #[.int .u8 ((fr 0).toNat : Int), .int .u8 ((fr 1).toNat : Int), .int .u8 ((fr 2).toNat : Int), .int .u8 ((fr 3).toNat : Int), .int .u8 ((fr 4).toNat : Int), .int .u8 ((fr 5).toNat : Int)]
  | 2 => x = .pointer (some ⟨p0, 17, none⟩)
  | 3 => x = .agg #[.int .u8 ((ip 0).toNat : Int), .int .u8 ((ip 1).toNat : Int), .int .u8 ((ip 2).toNat : Int), .int .u8 ((ip 3).toNat : Int)]
  | 4 => x = .agg #[.int .u16 1, .int .u8 ((fr 0).toNat : Int), .int .u8 ((fr 1).toNat : Int), .int .u8 ((fr 2).toNat : Int), .int .u8 ((fr 3).toNat : Int), .int .u8 ((fr 4).toNat : Int), .int .u8 ((fr 5).toNat : Int), .int .u8 0, .int .u8 0, .int .u8 0, .int .u8 0, .int .u8 0, .int .u8 0, .int .u8 ((ip 0).toNat : Int), .int .u8 ((ip 1).toNat : Int), .int .u8 ((ip 2).toNat : Int), .int .u8 ((ip 3).toNat : Int), .int .u8 ((ip 0).toNat : Int), .int .u8 ((ip 1).toNat : Int), .int .u8 ((ip 2).toNat : Int), .int .u8 ((ip 3).toNat : Int)]
  | 5 => x = .agg #[.int .u8 ((own 0).toNat : Int), .int .u8 ((own 1).toNat : Int), .int .u8 ((own 2).toNat : Int), .int .u8 ((own 3).toNat : Int), .int .u8 ((own 4).toNat : Int), .int .u8 ((own 5).toNat : Int)]
  | 6 => f 8 = false → ∃ B, x = .slice (some ⟨B, 0, none⟩) 0 0 ∧ w5.heap.size ≤ B ∧ Blk w B #[] 24
  | 7 => x = .slice A l.length c
  | 8 => f 12 = false → w.ownsRow w5.heap.size 24 4 x l.length (encIPs l)
  | 9 => x = .pointer (some ⟨p0, 17, none⟩)
  | 10 => x = .agg #[.int .u8 ((ip 0).toNat : Int), .int .u8 ((ip 1).toNat : Int), .int .u8 ((ip 2).toNat : Int), .int .u8 ((ip 3).toNat : Int)]
  | 11 => f 12 = false → ∃ B, x = .slice (some ⟨B, 0, none⟩) 1 1 ∧ w5.heap.size ≤ B ∧ Blk w B #[.int .u8 ((ip 0).toNat : Int), .int .u8 ((ip 1).toNat : Int), .int .u8 ((ip 2).toNat : Int), .int .u8 ((ip 3).toNat : Int)] 24
  | 12 => f 8 = true ∧ (f 13 = false → ∃ A' c', x = .slice A' (l.length + 1) c' ∧ Cells w A' (encIPs (l ++ [ip])))
  | 13 => x = .tuple #[.agg #[.int .u16 0, .int .u8 0, .int .u8 0, .int .u8 0, .int .u8 0, .int .u8 0, .int .u8 0, .int .u8 0, .int .u8 0, .int .u8 0, .int .u8 0, .int .u8 0, .int .u8 0, .int .u8 0, .int .u8 0, .int .u8 0, .int .u8 0, .int .u8 0, .int .u8 0, .int .u8 0, .int .u8 0], .bool false]
  | 14 => x = .tuple #[.agg #[.int .u16 0, .int .u8 0, .int .u8 0, .int .u8 0, .int .u8 0, .int .u8 0, .int .u8 0, .int .u8 0, .int .u8 0, .int .u8 0, .int .u8 0, .int .u8 0, .int .u8 0, .int .u8 0, .int .u8 0, .int .u8 0, .int .u8 0, .int .u8 0, .int .u8 0, .int .u8 0, .int .u8 0], .bool false]
  | 15 => x = .agg #[.int .u16 0, .int .u8 0, .int .u8 0, .int .u8 0, .int .u8 0, .int .u8 0, .int .u8 0, .int .u8 0, .int .u8 0, .int .u8 0, .int .u8 0, .int .u8 0, .int .u8 0, .int .u8 0, .int .u8 0, .int .u8 0, .int .u8 0, .int .u8 0, .int .u8 0, .int .u8 0, .int .u8 0]
  | 16 => x = .bool false
  | 17 => f 18 = false → ∃ B, x = .pointer (some ⟨B, 0, none⟩) ∧ w5.heap.size ≤ B ∧ Blk w B #[.int .u16 0, .int .u8 0, .int .u8 0, .int .u8 0, .int .u8 0, .int .u8 0, .int .u8 0, .int .u8 0, .int .u8 0, .int .u8 0, .int .u8 0, .int .u8 0, .int .u8 0, .int .u8 0, .int .u8 0, .int .u8 0, .int .u8 0, .int .u8 0, .int .u8 0, .int .u8 0, .int .u8 0] 26
  | 18 => True
  | 19 => x = .bool false
  | _ => True

theorem val5_congr (op : Int) (fr ip own : Nat → UInt8) (A : Option Addr) (c : Nat) (l : List (Nat → UInt8)) (p0 p1 : Nat) (w5 : World) (f g : Nat → Bool) (j : Nat) (x : Value) (w : World) (h : ∀ i, i < 20 → f i = g i) : val5 op fr ip own A c l p0 p1 w5 f j x w → val5 op fr ip own A c l p0 p1 w5 g j x w := by
  unfold val5
  rw [h 8 (by omega), h 12 (by omega), h 13 (by omega), h 18 (by omega)]
  exact id
theorem val5_grow (op : Int) (fr ip own : Nat → UInt8) (A : Option Addr) (c : Nat) (l : List (Nat → UInt8)) (p0 p1 : Nat) (w5 : World) {f g : Nat → Bool} {w w' : World} (j : Nat) (x : Value) (hfg : ∀ i, f i = true → g i = true) (hb : Behind w w') (h : val5 op fr ip own A c l p0 p1 w5 f j x w) : val5 op fr ip own A c l p0 p1 w5 g j x w' := by
  have hn : ∀ i, g i = false → f i = false := fun i hi => by
    cases hf : f i with
    | false => rfl
    | true => rw [hfg i hf] at hi; cases hi
  unfold val5 at *
  split <;> first
    | exact h
    | trivial
    | (intro hi; obtain ⟨B, h1, h2, h3⟩ := h (hn _ hi); exact ⟨B, h1, h2, h3.behind hb⟩)
    | (intro hi; obtain ⟨B, h1, h2, h3⟩ := h (hn _ hi); exact ⟨B, h1, h2, h3⟩)
    | (refine ⟨hfg _ h.1, fun hi => ?_⟩; obtain ⟨A', c', h1, h2⟩ := h.2 (hn _ hi); exact ⟨A', c', h1, h2.behind hb⟩)
    | (intro hi; exact (h (hn _ hi)).kept (row := none) ⟨hb.out.os, hb.out.tape, hb.out.output, hb.out.size, fun k hk _ => hb.out.block k hk⟩ (Classical.em _))

theorem encIPs_one (l : List (Nat → UInt8)) : ∀ u ∈ encIPs l, u.oneCell' = true := by
  intro u hu
  obtain ⟨x, _, hx⟩ := List.mem_flatMap.mp hu
  simp at hx
  rcases hx with rfl | rfl | rfl | rfl <;> rfl
theorem encIPs_snoc (l : List (Nat → UInt8)) (ip : Nat → UInt8) : encIPs l ++ [.int .u8 ((ip 0).toNat : Int), .int .u8 ((ip 1).toNat : Int), .int .u8 ((ip 2).toNat : Int), .int .u8 ((ip 3).toNat : Int)] = encIPs (l ++ [ip]) := by
  simp [encIPs]
theorem announced (fi : Nat → UInt8) (l : List (Nat → UInt8)) : answers 1 fi fi l = false := by
  unfold answers
  simp only [Bool.and_eq_false_iff, List.any_eq_false]
  refine Or.inr fun x _ => ?_
  cases eqIP x fi <;> simp
theorem quiet_calls (fr ip own : Nat → UInt8) (A : Option Addr) (c : Nat) (l : List (Nat → UInt8)) (w : World) (hc : Cells w A (encIPs (l ++ [ip]))) (hl : l.length ≤ 900) :
    Calls Try.prog 7 #[.agg #[.int .u16 1, .int .u8 ((fr 0).toNat : Int), .int .u8 ((fr 1).toNat : Int), .int .u8 ((fr 2).toNat : Int), .int .u8 ((fr 3).toNat : Int), .int .u8 ((fr 4).toNat : Int), .int .u8 ((fr 5).toNat : Int), .int .u8 0, .int .u8 0, .int .u8 0, .int .u8 0, .int .u8 0, .int .u8 0, .int .u8 ((ip 0).toNat : Int), .int .u8 ((ip 1).toNat : Int), .int .u8 ((ip 2).toNat : Int), .int .u8 ((ip 3).toNat : Int), .int .u8 ((ip 0).toNat : Int), .int .u8 ((ip 1).toNat : Int), .int .u8 ((ip 2).toNat : Int), .int .u8 ((ip 3).toNat : Int)], .agg #[.int .u8 ((own 0).toNat : Int), .int .u8 ((own 1).toNat : Int), .int .u8 ((own 2).toNat : Int), .int .u8 ((own 3).toNat : Int), .int .u8 ((own 4).toNat : Int), .int .u8 ((own 5).toNat : Int)], .slice A (l.length + 1) c] w fun e w' => e = .returned (.tuple #[.agg #[.int .u16 0, .int .u8 0, .int .u8 0, .int .u8 0, .int .u8 0, .int .u8 0, .int .u8 0, .int .u8 0, .int .u8 0, .int .u8 0, .int .u8 0, .int .u8 0, .int .u8 0, .int .u8 0, .int .u8 0, .int .u8 0, .int .u8 0, .int .u8 0, .int .u8 0, .int .u8 0, .int .u8 0], .bool false]) ∧ Behind w w' := by
  have h := answer_calls 1 fr (vec [0, 0, 0, 0, 0, 0]) ip ip own A c (l ++ [ip]) w hc (by simp; omega)
  rw [announced] at h
  rw [List.length_append] at h
  refine Calls.mono h ?_
  rintro e w' ⟨h1, ⟨h2, rfl⟩ | ⟨h2, rfl⟩⟩
  · cases h2
  · exact ⟨rfl, h1⟩
/-- Where a block grew. -/
theorem val5_row (op : Int) (fr ip own : Nat → UInt8) (A : Option Addr) (c : Nat) (l : List (Nat → UInt8)) (p0 p1 : Nat) (w5 : World) {f g : Nat → Bool} {w w' : World} (g0 : Option Nat) (hg : w.grownBy w' g0) (hty : ∀ k, g0 = some k → ∃ C, w.heap[k]? = some (.cells C 24 (0, 0))) (h8 : g 8 = true) (h12 : g 12 = true) (j : Nat) (x : Value) (hj12 : j ≠ 12) (hfg : ∀ i, f i = true → g i = true) (h : val5 op fr ip own A c l p0 p1 w5 f j x w) : val5 op fr ip own A c l p0 p1 w5 g j x w' := by
  have hn : ∀ i, g i = false → f i = false := fun i hi => by
    cases hf : f i with
    | false => rfl
    | true => rw [hfg i hf] at hi; cases hi
  unfold val5 at *
  split <;> first
    | exact h
    | trivial
    | (intro hi; rw [h8] at hi; cases hi)
    | (intro hi; rw [h12] at hi; cases hi)
    | (exact absurd rfl hj12)
    | (intro hi
       obtain ⟨B, h1, h2, h3⟩ := h (hn _ hi)
       refine ⟨B, h1, h2, h3.grown hg ?_⟩
       intro hB
       obtain ⟨C, hC⟩ := hty B hB.symm
       rw [show w.heap[B]? = _ from h3] at hC
       exact absurd hC (by simp))
theorem val5_row8 (op : Int) (fr ip own : Nat → UInt8) (A : Option Addr) (c : Nat) (l : List (Nat → UInt8)) (p0 p1 : Nat) (w5 : World) {f g : Nat → Bool} {w w' : World} (B : Nat) (hg : w.grownBy w' (some B)) (hB : Blk w B #[] 24) (f8 : f 8 = false) (h8 : g 8 = true) (j : Nat) (x : Value) (hj : f j = true) (hfg : ∀ i, f i = true → g i = true) (h : val5 op fr ip own A c l p0 p1 w5 f j x w) : val5 op fr ip own A c l p0 p1 w5 g j x w' := by
  have hn : ∀ i, g i = false → f i = false := fun i hi => by
    cases hf : f i with
    | false => rfl
    | true => rw [hfg i hf] at hi; cases hi
  unfold val5 at *
  split <;> first
    | exact h
    | trivial
    | (intro hi; rw [h8] at hi; cases hi)
    | (rw [f8] at hj; cases hj)
    | (have h1 := h.1; rw [f8] at h1; cases h1)
    | (intro hi
       obtain ⟨B', h1, h2, h3⟩ := h (hn _ hi)
       refine ⟨B', h1, h2, h3.grown hg ?_⟩
       intro hBB
       cases hBB
       have h4 := hB.symm.trans h3
       exact absurd h4 (by simp))
theorem val5_done (op : Int) (fr ip own : Nat → UInt8) (A : Option Addr) (c : Nat) (l : List (Nat → UInt8)) (p0 p1 : Nat) (w5 : World) {f g : Nat → Bool} {w w' : World} (h8 : g 8 = true) (h12 : g 12 = true) (h13 : g 13 = true) (h18 : g 18 = true) (j : Nat) (x : Value) (h : val5 op fr ip own A c l p0 p1 w5 f j x w) : val5 op fr ip own A c l p0 p1 w5 g j x w' := by
  unfold val5 at *
  split <;> first
    | exact h
    | trivial
    | (intro hi; rw [h8] at hi; cases hi)
    | (intro hi; rw [h12] at hi; cases hi)
    | (exact ⟨h8, fun hi => by rw [h13] at hi; cases hi⟩)
    | (intro hi; rw [h18] at hi; cases hi)
theorem own_tag {w : World} {b e s n : Nat} {v : Value} {xs : List Value} (h : w.ownsRow b e s v n xs) : ∀ k, v.ownBlock = some k → ∃ C, w.heap[k]? = some (.cells C e (0, 0)) := by
  intro k hk
  rcases h.2 with ⟨rfl, _⟩ | ⟨g, cap, cur, rfl, _, h3, _⟩
  · cases hk
  · cases hk; exact ⟨cur, h3⟩
theorem infoIP : (Try.prog.info? 24).map (fun i => (i.zero, i.size, i.bytes)) = some (some (.agg #[.int .u8 0, .int .u8 0, .int .u8 0, .int .u8 0]), 4, 4) := by kernel_rfl
/-- All addresses behind an empty row. -/
theorem append_all (A : Option Addr) (c : Nat) (l : List (Nat → UInt8)) (hA : A = none → l.length = 0 ∧ c = 0) (hl : l.length ≤ 900) (b B : Nat) (w : World) (hb : b ≤ B) (hbw : b ≤ w.heap.size) (hB : Blk w B #[] 24) (hc : Cells w A (encIPs l)) :
    ∃ v' w', (Builtin.append_ #[27, 27] 27 #[.slice (some ⟨B, 0, none⟩) 0 0, .slice A l.length c]).run Try.prog w = .ok v' w' ∧ w'.ownsRow b 24 4 v' l.length (encIPs l) ∧ w.grownBy w' (some B) := by
  obtain ⟨i0, hi, hz0, hz1, hz2⟩ := info_parts infoIP
  obtain ⟨v', w', h1, h2, h3, _⟩ := run_append_cells (P := Try.prog) w b 27 27 24 i0 _ 4 4 Try.underlying27 hi hz0 hz1 hz2 rfl (by decide)
    (.slice (some ⟨B, 0, none⟩) 0 0) 0 [] ⟨by simp, .inr ⟨B, 0, #[], rfl, hb, hB, Nat.le_refl _, Nat.zero_le _, by simp, by simp⟩⟩ A l.length c (encIPs l) (encIPs_length l) hA hc (encIPs_one l) (by unfold maxLen; omega) (by omega) hbw
  rw [Nat.zero_add, List.nil_append] at h2
  exact ⟨v', w', h1, h2, h3⟩
/-- .. and one more. -/
theorem append_one (l : List (Nat → UInt8)) (ip : Nat → UInt8) (hl : l.length ≤ 900) (b B : Nat) (v : Value) (w : World) (hbw : b ≤ w.heap.size) (hv : w.ownsRow b 24 4 v l.length (encIPs l)) (hB : Blk w B #[.int .u8 ((ip 0).toNat : Int), .int .u8 ((ip 1).toNat : Int), .int .u8 ((ip 2).toNat : Int), .int .u8 ((ip 3).toNat : Int)] 24) :
    ∃ v' w', (Builtin.append_ #[27, 27] 27 #[v, .slice (some ⟨B, 0, none⟩) 1 1]).run Try.prog w = .ok v' w' ∧ (∃ A' c', v' = .slice A' (l.length + 1) c' ∧ Cells w' A' (encIPs (l ++ [ip]))) ∧ w.grownBy w' v.ownBlock := by
  obtain ⟨i0, hi, hz0, hz1, hz2⟩ := info_parts infoIP
  obtain ⟨v', w', h1, h2, h3, _⟩ := run_append_cells (P := Try.prog) w b 27 27 24 i0 _ 4 4 Try.underlying27 hi hz0 hz1 hz2 rfl (by decide)
    v l.length (encIPs l) hv (some ⟨B, 0, none⟩) 1 1 [.int .u8 ((ip 0).toNat : Int), .int .u8 ((ip 1).toNat : Int), .int .u8 ((ip 2).toNat : Int), .int .u8 ((ip 3).toNat : Int)] rfl (by simp) (by simpa using hB.cells) (by simp [Value.oneCell']) (by unfold maxLen; omega) (by omega) hbw
  obtain ⟨A', c', h4, _, _, h5⟩ := owns_cells h2 (by decide)
  rw [encIPs_snoc] at h5
  exact ⟨v', w', h1, ⟨A', c', h4, h5⟩, h3⟩

end Go.Proofs.Yteokdllmandleaa.Arp
