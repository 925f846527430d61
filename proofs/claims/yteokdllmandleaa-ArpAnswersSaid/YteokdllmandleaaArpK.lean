/- Announce, and the page's example. -/
import Derived.Test.YteokdllmandleaaArpW
namespace Go.Proofs.Yteokdllmandleaa.Arp
set_option linter.unusedVariables false
set_option linter.unusedSimpArgs false
open Go.RowKit

set_option maxHeartbeats 400000 in
theorem announce_calls (own ip : Nat → UInt8) (w : World) :
    Calls Try.prog 9 #[.agg #[.int .u8 ((own 0).toNat : Int), .int .u8 ((own 1).toNat : Int), .int .u8 ((own 2).toNat : Int), .int .u8 ((own 3).toNat : Int), .int .u8 ((own 4).toNat : Int), .int .u8 ((own 5).toNat : Int)], .agg #[.int .u8 ((ip 0).toNat : Int), .int .u8 ((ip 1).toNat : Int), .int .u8 ((ip 2).toNat : Int), .int .u8 ((ip 3).toNat : Int)]] w fun e w' => Behind w w' ∧ e = .returned (.agg #[.int .u16 1, .int .u8 ((own 0).toNat : Int), .int .u8 ((own 1).toNat : Int), .int .u8 ((own 2).toNat : Int), .int .u8 ((own 3).toNat : Int), .int .u8 ((own 4).toNat : Int), .int .u8 ((own 5).toNat : Int), .int .u8 0, .int .u8 0, .int .u8 0, .int .u8 0, .int .u8 0, .int .u8 0, .int .u8 ((ip 0).toNat : Int), .int .u8 ((ip 1).toNat : Int), .int .u8 ((ip 2).toNat : Int), .int .u8 ((ip 3).toNat : Int), .int .u8 ((ip 0).toNat : Int), .int .u8 ((ip 1).toNat : Int), .int .u8 ((ip 2).toNat : Int), .int .u8 ((ip 3).toNat : Int)]) := by
  have hB := Hd.mk ((((Behind.refl w).alloc (.cells #[.int .u8 ((own 0).toNat : Int), .int .u8 ((own 1).toNat : Int), .int .u8 ((own 2).toNat : Int), .int .u8 ((own 3).toNat : Int), .int .u8 ((own 4).toNat : Int), .int .u8 ((own 5).toNat : Int)] 23)).alloc (.cells #[.int .u8 ((ip 0).toNat : Int), .int .u8 ((ip 1).toNat : Int), .int .u8 ((ip 2).toNat : Int), .int .u8 ((ip 3).toNat : Int)] 24)).alloc (.cells #[.int .u16 0, .int .u8 0, .int .u8 0, .int .u8 0, .int .u8 0, .int .u8 0, .int .u8 0, .int .u8 0, .int .u8 0, .int .u8 0, .int .u8 0, .int .u8 0, .int .u8 0, .int .u8 0, .int .u8 0, .int .u8 0, .int .u8 0, .int .u8 0, .int .u8 0, .int .u8 0, .int .u8 0] 26))
  have hle : w.heap.size ≤ w.heap.size + 2 := by omega
  have hlt0 : w.heap.size < w.heap.size + 1 := by omega
  go_enter Try.func9, Try.ntmps9
  go_wp2_with ((with_reducible refine gate_store (ty := 26) rfl ?_); go_must (refine wpList_store_whole rfl _ _ _ rfl _ _ _ _ rfl rfl (Blk.newAt _ _ _ _ (by simp)) ?_ ?_ ?_ ?_; (rfl); (kernel_rfl); (simp [Value.oneCell']); intro w3 hb3 hg3; have hB3 := Hd.mk (hB.out.grown hg3 hle); clear hg3; replace hb3 := Hd.mk hb3))
  exact bodyPost_ret (v := .agg #[.int .u16 1, .int .u8 ((own 0).toNat : Int), .int .u8 ((own 1).toNat : Int), .int .u8 ((own 2).toNat : Int), .int .u8 ((own 3).toNat : Int), .int .u8 ((own 4).toNat : Int), .int .u8 ((own 5).toNat : Int), .int .u8 0, .int .u8 0, .int .u8 0, .int .u8 0, .int .u8 0, .int .u8 0, .int .u8 ((ip 0).toNat : Int), .int .u8 ((ip 1).toNat : Int), .int .u8 ((ip 2).toNat : Int), .int .u8 ((ip 3).toNat : Int), .int .u8 ((ip 0).toNat : Int), .int .u8 ((ip 1).toNat : Int), .int .u8 ((ip 2).toNat : Int), .int .u8 ((ip 3).toNat : Int)]) (results_row _ _ _ _ _ _ _ _ _ rfl rfl hb3.out rfl rfl rfl) rfl ⟨hB3.out, rfl⟩

/-- An array written out. -/
def vec (l : List UInt8) : Nat → UInt8 := fun i => l.getD i 0
theorem known_good (A : Option Addr) (c : Nat) (w : World) (hc : Cells w A [.int .u8 10, .int .u8 0, .int .u8 0, .int .u8 9]) :
    Calls Try.prog 7 #[.agg #[.int .u16 1, .int .u8 2, .int .u8 1, .int .u8 0, .int .u8 0, .int .u8 0, .int .u8 0, .int .u8 0, .int .u8 0, .int .u8 0, .int .u8 0, .int .u8 0, .int .u8 0, .int .u8 10, .int .u8 0, .int .u8 0, .int .u8 1, .int .u8 10, .int .u8 0, .int .u8 0, .int .u8 9], .agg #[.int .u8 2, .int .u8 9, .int .u8 0, .int .u8 0, .int .u8 0, .int .u8 0], .slice A 1 c] w fun e w' => Behind w w' ∧ e = .returned (.tuple #[.agg #[.int .u16 2, .int .u8 2, .int .u8 9, .int .u8 0, .int .u8 0, .int .u8 0, .int .u8 0, .int .u8 2, .int .u8 1, .int .u8 0, .int .u8 0, .int .u8 0, .int .u8 0, .int .u8 10, .int .u8 0, .int .u8 0, .int .u8 9, .int .u8 10, .int .u8 0, .int .u8 0, .int .u8 1], .bool true]) := by
  refine (answer_calls 1 (vec [2, 1, 0, 0, 0, 0]) (vec [0, 0, 0, 0, 0, 0]) (vec [10, 0, 0, 1]) (vec [10, 0, 0, 9]) (vec [2, 9, 0, 0, 0, 0]) A c [(vec [10, 0, 0, 9])] w hc (by decide)).mono ?_
  rintro e w' ⟨h1, h2 | h2⟩
  · exact ⟨h1, h2.2⟩
  · exact absurd h2.1 (by decide)
theorem known_bad (A : Option Addr) (c : Nat) (w : World) (hc : Cells w A [.int .u8 10, .int .u8 0, .int .u8 0, .int .u8 8]) :
    Calls Try.prog 7 #[.agg #[.int .u16 1, .int .u8 2, .int .u8 1, .int .u8 0, .int .u8 0, .int .u8 0, .int .u8 0, .int .u8 0, .int .u8 0, .int .u8 0, .int .u8 0, .int .u8 0, .int .u8 0, .int .u8 10, .int .u8 0, .int .u8 0, .int .u8 1, .int .u8 10, .int .u8 0, .int .u8 0, .int .u8 9], .agg #[.int .u8 2, .int .u8 9, .int .u8 0, .int .u8 0, .int .u8 0, .int .u8 0], .slice A 1 c] w fun e w' => Behind w w' ∧ e = .returned (.tuple #[.agg #[.int .u16 0, .int .u8 0, .int .u8 0, .int .u8 0, .int .u8 0, .int .u8 0, .int .u8 0, .int .u8 0, .int .u8 0, .int .u8 0, .int .u8 0, .int .u8 0, .int .u8 0, .int .u8 0, .int .u8 0, .int .u8 0, .int .u8 0, .int .u8 0, .int .u8 0, .int .u8 0, .int .u8 0], .bool false]) := by
  refine (answer_calls 1 (vec [2, 1, 0, 0, 0, 0]) (vec [0, 0, 0, 0, 0, 0]) (vec [10, 0, 0, 1]) (vec [10, 0, 0, 9]) (vec [2, 9, 0, 0, 0, 0]) A c [(vec [10, 0, 0, 8])] w hc (by decide)).mono ?_
  rintro e w' ⟨h1, h2 | h2⟩
  · exact absurd h2.1 (by decide)
  · exact ⟨h1, h2.2⟩

theorem arp_leaves : leaves Try.prog 3 26 = some (.int .u16 :: List.replicate 20 (.int .u8)) := by kernel_rfl
theorem arp_type : Try.prog.keyTypeAt 3 26 = true := by kernel_rfl
theorem rep_eq (w : World) : (Op.equalIn 10000 26 (.agg #[.int .u16 2, .int .u8 2, .int .u8 9, .int .u8 0, .int .u8 0, .int .u8 0, .int .u8 0, .int .u8 2, .int .u8 1, .int .u8 0, .int .u8 0, .int .u8 0, .int .u8 0, .int .u8 10, .int .u8 0, .int .u8 0, .int .u8 9, .int .u8 10, .int .u8 0, .int .u8 0, .int .u8 1]) (.agg #[.int .u16 2, .int .u8 2, .int .u8 9, .int .u8 0, .int .u8 0, .int .u8 0, .int .u8 0, .int .u8 2, .int .u8 1, .int .u8 0, .int .u8 0, .int .u8 0, .int .u8 0, .int .u8 10, .int .u8 0, .int .u8 0, .int .u8 9, .int .u8 10, .int .u8 0, .int .u8 0, .int .u8 1])).run Try.prog w = .ok true w := by
  refine eq_flat (w := w) 3 _ _ arp_leaves arp_type (by omega) _ _ (by kernel_rfl) (by kernel_rfl) (Leaves.cons ⟨2, rfl, by decide⟩ (leaves_bytes w [2,9,0,0,0,0,2,1,0,0,0,0,10,0,0,9,10,0,0,1])) (Leaves.cons ⟨2, rfl, by decide⟩ (leaves_bytes w [2,9,0,0,0,0,2,1,0,0,0,0,10,0,0,9,10,0,0,1])) _ (by simp) w

set_option maxHeartbeats 1000000 in
theorem known_calls (w : World) : Calls Try.prog 6 #[] w fun e w' => Behind w w' ∧ e = .returned (.bool true) := by
  go_enter Try.func6, Try.ntmps6
  go_wp2_with (first | ((with_reducible refine gate_store (ty := 26) rfl ?_); go_must (refine wpList_store_whole rfl _ _ _ rfl _ _ _ _ rfl rfl (Blk.newAt _ _ _ _ (by simp)) ?_ ?_ ?_ ?_; (rfl); (kernel_rfl); (simp [Value.oneCell']); intro w3 hb3 hg3; have hB3 := Hd.mk (((Behind.refl w).alloc _).grown hg3 (Nat.le_refl _)); clear hg3; replace hb3 := Hd.mk hb3)) | ((with_reducible refine gate_load (ty := 26) rfl ?_); go_must (refine wpList_load_whole rfl _ _ rfl _ rfl _ _ _ (hb3.out) rfl rfl (by kernel_rfl) ?_)))
  refine (known_good _ _ _ (fun _ => ⟨_, 0, rfl, fun i v hi => by rw [Nat.zero_add, cell_new]; simpa using hi⟩)).mono ?_
  rintro e w4 ⟨hb4, rfl⟩
  have hB4 := Hd.mk (show Behind w3 w4 from ((Behind.refl w3).alloc _).step hb4.out)
  have b4 := Hd.mk (hb3.out.behind hB4.out)
  have hB4' := Hd.mk (hB3.out.step hB4.out.out)
  clear hb4 hB3 hb3 hB4
  go_wp2_with (first | ((with_reducible refine gate_store (ty := 26) rfl ?_); go_must (refine wpList_store_whole rfl _ _ _ rfl _ _ _ _ rfl rfl (Blk.newAt _ _ _ _ (by simp)) ?_ ?_ ?_ ?_; (rfl); (kernel_rfl); (simp [Value.oneCell']); intro w5 hb5 hg5; have hB5 := Hd.mk (((Behind.refl w4).alloc _).grown hg5 (Nat.le_refl _)); clear hg5; replace hb5 := Hd.mk hb5; have b5 := Hd.mk (b4.out.behind hB5.out))) | ((with_reducible refine gate_load (ty := 26) rfl ?_); go_must (refine wpList_load_whole rfl _ _ rfl _ rfl _ _ _ (b5.out) rfl rfl (by kernel_rfl) ?_)))
  refine (known_bad _ _ _ (fun _ => ⟨_, 0, rfl, fun i v hi => by rw [Nat.zero_add, cell_new]; simpa using hi⟩)).mono ?_
  rintro e w6 ⟨hb6, rfl⟩
  have hB6 := Hd.mk (show Behind w5 w6 from ((Behind.refl w5).alloc _).step hb6.out)
  have b6 := Hd.mk (hb5.out.behind hB6.out)
  have hB6' := Hd.mk ((hB4'.out.step hB5.out.out).step hB6.out.out)
  clear hb6 hB5 hb5 hB6 b5 b4 hB4'
  have eR := rep_eq
  go_wp2_with (first | ((with_reducible refine gate_store (ty := 26) rfl ?_); go_must (refine wpList_store_whole rfl _ _ _ rfl _ _ _ _ rfl rfl (Blk.newAt _ _ _ _ (by simp)) ?_ ?_ ?_ ?_; (rfl); (kernel_rfl); (simp [Value.oneCell']); intro w7 hb7 hg7; have hB7 := Hd.mk (((Behind.refl w6).alloc _).grown hg7 (Nat.le_refl _)); clear hg7 hb7; have b7 := Hd.mk (b6.out.behind hB7.out))) | ((with_reducible refine gate_load (ty := 26) rfl ?_); go_must (refine wpList_load_wanted (by first | rfl | (simp [Region.wanted, yielded]; done)) _ _ rfl _ rfl _ _ _ (b7.out) rfl rfl (by kernel_rfl) ?_)))
  go_ret
  exact ⟨hB6'.out.step hB7.out.out, rfl⟩
end Go.Proofs.Yteokdllmandleaa.Arp
