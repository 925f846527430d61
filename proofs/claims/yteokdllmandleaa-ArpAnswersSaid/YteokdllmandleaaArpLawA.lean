/- The law ArpAnswers. -/
import Derived.Test.YteokdllmandleaaArpReg
namespace Go.Proofs.Yteokdllmandleaa.Arp
set_option linter.unusedVariables false
set_option linter.unusedSimpArgs false
open Go.RowKit Go.Proofs.Yteokdllmandleaa

/-- What is answered. -/
def reply (b : Bool) (fr fi ip own : Nat → UInt8) : Array Value := if b then #[.int .u16 2, .int .u8 ((own 0).toNat : Int), .int .u8 ((own 1).toNat : Int), .int .u8 ((own 2).toNat : Int), .int .u8 ((own 3).toNat : Int), .int .u8 ((own 4).toNat : Int), .int .u8 ((own 5).toNat : Int), .int .u8 ((fr 0).toNat : Int), .int .u8 ((fr 1).toNat : Int), .int .u8 ((fr 2).toNat : Int), .int .u8 ((fr 3).toNat : Int), .int .u8 ((fr 4).toNat : Int), .int .u8 ((fr 5).toNat : Int), .int .u8 ((ip 0).toNat : Int), .int .u8 ((ip 1).toNat : Int), .int .u8 ((ip 2).toNat : Int), .int .u8 ((ip 3).toNat : Int), .int .u8 ((fi 0).toNat : Int), .int .u8 ((fi 1).toNat : Int), .int .u8 ((fi 2).toNat : Int), .int .u8 ((fi 3).toNat : Int)] else #[.int .u16 0, .int .u8 0, .int .u8 0, .int .u8 0, .int .u8 0, .int .u8 0, .int .u8 0, .int .u8 0, .int .u8 0, .int .u8 0, .int .u8 0, .int .u8 0, .int .u8 0, .int .u8 0, .int .u8 0, .int .u8 0, .int .u8 0, .int .u8 0, .int .u8 0, .int .u8 0, .int .u8 0]
theorem answer_says (op : Int) (fr tm fi ip own : Nat → UInt8) (A : Option Addr) (c : Nat) (l : List (Nat → UInt8)) (w : World) (hc : Cells w A (encIPs l)) (hl : l.length ≤ 1000) :
    Calls Try.prog 7 #[.agg #[.int .u16 op, .int .u8 ((fr 0).toNat : Int), .int .u8 ((fr 1).toNat : Int), .int .u8 ((fr 2).toNat : Int), .int .u8 ((fr 3).toNat : Int), .int .u8 ((fr 4).toNat : Int), .int .u8 ((fr 5).toNat : Int), .int .u8 ((tm 0).toNat : Int), .int .u8 ((tm 1).toNat : Int), .int .u8 ((tm 2).toNat : Int), .int .u8 ((tm 3).toNat : Int), .int .u8 ((tm 4).toNat : Int), .int .u8 ((tm 5).toNat : Int), .int .u8 ((fi 0).toNat : Int), .int .u8 ((fi 1).toNat : Int), .int .u8 ((fi 2).toNat : Int), .int .u8 ((fi 3).toNat : Int), .int .u8 ((ip 0).toNat : Int), .int .u8 ((ip 1).toNat : Int), .int .u8 ((ip 2).toNat : Int), .int .u8 ((ip 3).toNat : Int)], .agg #[.int .u8 ((own 0).toNat : Int), .int .u8 ((own 1).toNat : Int), .int .u8 ((own 2).toNat : Int), .int .u8 ((own 3).toNat : Int), .int .u8 ((own 4).toNat : Int), .int .u8 ((own 5).toNat : Int)], .slice A l.length c] w fun e w' => e = .returned (.tuple #[.agg (reply (answers op fi ip l) fr fi ip own), .bool (answers op fi ip l)]) ∧ Behind w w' := by
  refine (answer_calls op fr tm fi ip own A c l w hc hl).mono ?_
  rintro e w' ⟨h1, ⟨h2, rfl⟩ | ⟨h2, rfl⟩⟩ <;> rw [h2] <;> exact ⟨rfl, h1⟩
theorem ref_says (op : Int) (fr tm fi ip own : Nat → UInt8) (A : Option Addr) (c : Nat) (l : List (Nat → UInt8)) (w : World) (hc : Cells w A (encIPs l)) (hl : l.length ≤ 1000) :
    Calls Try.prog 8 #[.agg #[.int .u16 op, .int .u8 ((fr 0).toNat : Int), .int .u8 ((fr 1).toNat : Int), .int .u8 ((fr 2).toNat : Int), .int .u8 ((fr 3).toNat : Int), .int .u8 ((fr 4).toNat : Int), .int .u8 ((fr 5).toNat : Int), .int .u8 ((tm 0).toNat : Int), .int .u8 ((tm 1).toNat : Int), .int .u8 ((tm 2).toNat : Int), .int .u8 ((tm 3).toNat : Int), .int .u8 ((tm 4).toNat : Int), .int .u8 ((tm 5).toNat : Int), .int .u8 ((fi 0).toNat : Int), .int .u8 ((fi 1).toNat : Int), .int .u8 ((fi 2).toNat : Int), .int .u8 ((fi 3).toNat : Int), .int .u8 ((ip 0).toNat : Int), .int .u8 ((ip 1).toNat : Int), .int .u8 ((ip 2).toNat : Int), .int .u8 ((ip 3).toNat : Int)], .agg #[.int .u8 ((own 0).toNat : Int), .int .u8 ((own 1).toNat : Int), .int .u8 ((own 2).toNat : Int), .int .u8 ((own 3).toNat : Int), .int .u8 ((own 4).toNat : Int), .int .u8 ((own 5).toNat : Int)], .slice A l.length c] w fun e w' => e = .returned (.tuple #[.agg (reply (answers op fi ip l) fr fi ip own), .bool (answers op fi ip l)]) ∧ Behind w w' := by
  refine (ref_answer_calls op fr tm fi ip own A c l w hc hl).mono ?_
  rintro e w' ⟨h1, ⟨h2, rfl⟩ | ⟨h2, rfl⟩⟩ <;> rw [h2] <;> exact ⟨rfl, h1⟩
theorem reply_size (b : Bool) (fr fi ip own : Nat → UInt8) : (reply b fr fi ip own).size = 21 := by cases b <;> rfl
theorem reply_one (b : Bool) (fr fi ip own : Nat → UInt8) : (reply b fr fi ip own).all (·.oneCell') = true := by cases b <;> simp [reply, Value.oneCell']
theorem reply_leaves (b : Bool) (fr fi ip own : Nat → UInt8) (w : World) : Leaves w (.int .u16 :: List.replicate 20 (.int .u8)) (reply b fr fi ip own).toList := by
  cases b with
  | true => exact Leaves.cons ⟨2, rfl, by decide⟩ (leaves_bytes w [own 0, own 1, own 2, own 3, own 4, own 5, fr 0, fr 1, fr 2, fr 3, fr 4, fr 5, ip 0, ip 1, ip 2, ip 3, fi 0, fi 1, fi 2, fi 3])
  | false => exact Leaves.cons ⟨0, rfl, by decide⟩ (leaves_bytes w [0, 0, 0, 0, 0, 0, 0, 0, 0, 0, 0, 0, 0, 0, 0, 0, 0, 0, 0, 0])
theorem reply_formed (b : Bool) (fr fi ip own : Nat → UInt8) : (Value.agg (reply b fr fi ip own)).formed Try.prog 26 = true := by cases b <;> kernel_rfl
theorem reply_eq (b : Bool) (fr fi ip own : Nat → UInt8) (w : World) : (Op.equalIn 10000 26 (.agg (reply b fr fi ip own)) (.agg (reply b fr fi ip own))).run Try.prog w = .ok true w :=
  eq_flat (w := w) 3 _ _ arp_leaves arp_type (by omega) _ _ (reply_formed b fr fi ip own) (reply_formed b fr fi ip own) (reply_leaves b fr fi ip own w) (reply_leaves b fr fi ip own w) _ (by simp) w
/-- What each operation of the second region leaves. -/
def val6 (RP : Array Value) (an : Bool) (ip own : Nat → UInt8) (p0 : Nat) (f : Nat → Bool) (j : Nat) (x : Value) (w : World) : Prop := match j with
  | 0 => x = .agg RP
  | 1 => x = .agg RP
  | 2 => x = .bool true
  | 3 => x = .bool true
  | 4 => x = .bool an
  | 5 => x = .bool an
  | 6 => x = .bool true
  | 7 => x = .bool true
  | 8 => x = .bool true
  | 9 => x = .bool false
  | 10 => x = .bool true
  | 11 => x = .bool true
  | 12 => x = .bool true
  | 13 => x = .agg #[.int .u8 ((own 0).toNat : Int), .int .u8 ((own 1).toNat : Int), .int .u8 ((own 2).toNat : Int), .int .u8 ((own 3).toNat : Int), .int .u8 ((own 4).toNat : Int), .int .u8 ((own 5).toNat : Int)]
  | 14 => x = .pointer (some ⟨p0, 17, none⟩)
  | 15 => x = .agg #[.int .u8 ((ip 0).toNat : Int), .int .u8 ((ip 1).toNat : Int), .int .u8 ((ip 2).toNat : Int), .int .u8 ((ip 3).toNat : Int)]
  | 16 => x = .agg #[.int .u16 1, .int .u8 ((own 0).toNat : Int), .int .u8 ((own 1).toNat : Int), .int .u8 ((own 2).toNat : Int), .int .u8 ((own 3).toNat : Int), .int .u8 ((own 4).toNat : Int), .int .u8 ((own 5).toNat : Int), .int .u8 0, .int .u8 0, .int .u8 0, .int .u8 0, .int .u8 0, .int .u8 0, .int .u8 ((ip 0).toNat : Int), .int .u8 ((ip 1).toNat : Int), .int .u8 ((ip 2).toNat : Int), .int .u8 ((ip 3).toNat : Int), .int .u8 ((ip 0).toNat : Int), .int .u8 ((ip 1).toNat : Int), .int .u8 ((ip 2).toNat : Int), .int .u8 ((ip 3).toNat : Int)]
  | 17 => x = .agg #[.int .u8 ((own 0).toNat : Int), .int .u8 ((own 1).toNat : Int), .int .u8 ((own 2).toNat : Int), .int .u8 ((own 3).toNat : Int), .int .u8 ((own 4).toNat : Int), .int .u8 ((own 5).toNat : Int)]
  | 18 => x = .pointer (some ⟨p0, 17, none⟩)
  | 19 => x = .agg #[.int .u8 ((ip 0).toNat : Int), .int .u8 ((ip 1).toNat : Int), .int .u8 ((ip 2).toNat : Int), .int .u8 ((ip 3).toNat : Int)]
  | 20 => x = .pointer (some ⟨p0, 17, none⟩)
  | 21 => x = .agg #[.int .u8 ((ip 0).toNat : Int), .int .u8 ((ip 1).toNat : Int), .int .u8 ((ip 2).toNat : Int), .int .u8 ((ip 3).toNat : Int)]
  | 22 => x = .agg #[.int .u16 1, .int .u8 ((own 0).toNat : Int), .int .u8 ((own 1).toNat : Int), .int .u8 ((own 2).toNat : Int), .int .u8 ((own 3).toNat : Int), .int .u8 ((own 4).toNat : Int), .int .u8 ((own 5).toNat : Int), .int .u8 0, .int .u8 0, .int .u8 0, .int .u8 0, .int .u8 0, .int .u8 0, .int .u8 ((ip 0).toNat : Int), .int .u8 ((ip 1).toNat : Int), .int .u8 ((ip 2).toNat : Int), .int .u8 ((ip 3).toNat : Int), .int .u8 ((ip 0).toNat : Int), .int .u8 ((ip 1).toNat : Int), .int .u8 ((ip 2).toNat : Int), .int .u8 ((ip 3).toNat : Int)]
  | 23 => x = .bool true
  | 24 => x = .bool true
  | 25 => x = .bool true
  | 26 => x = .bool true
  | 27 => x = .bool true
  | 28 => x = .bool true
  | _ => True
theorem ann_eq (own ip : Nat → UInt8) (w : World) : (Op.equalIn 10000 26 (.agg #[.int .u16 1, .int .u8 ((own 0).toNat : Int), .int .u8 ((own 1).toNat : Int), .int .u8 ((own 2).toNat : Int), .int .u8 ((own 3).toNat : Int), .int .u8 ((own 4).toNat : Int), .int .u8 ((own 5).toNat : Int), .int .u8 0, .int .u8 0, .int .u8 0, .int .u8 0, .int .u8 0, .int .u8 0, .int .u8 ((ip 0).toNat : Int), .int .u8 ((ip 1).toNat : Int), .int .u8 ((ip 2).toNat : Int), .int .u8 ((ip 3).toNat : Int), .int .u8 ((ip 0).toNat : Int), .int .u8 ((ip 1).toNat : Int), .int .u8 ((ip 2).toNat : Int), .int .u8 ((ip 3).toNat : Int)]) (.agg #[.int .u16 1, .int .u8 ((own 0).toNat : Int), .int .u8 ((own 1).toNat : Int), .int .u8 ((own 2).toNat : Int), .int .u8 ((own 3).toNat : Int), .int .u8 ((own 4).toNat : Int), .int .u8 ((own 5).toNat : Int), .int .u8 0, .int .u8 0, .int .u8 0, .int .u8 0, .int .u8 0, .int .u8 0, .int .u8 ((ip 0).toNat : Int), .int .u8 ((ip 1).toNat : Int), .int .u8 ((ip 2).toNat : Int), .int .u8 ((ip 3).toNat : Int), .int .u8 ((ip 0).toNat : Int), .int .u8 ((ip 1).toNat : Int), .int .u8 ((ip 2).toNat : Int), .int .u8 ((ip 3).toNat : Int)])).run Try.prog w = .ok true w :=
  eq_flat (w := w) 3 _ _ arp_leaves arp_type (by omega) _ _ (by kernel_rfl) (by kernel_rfl) (Leaves.cons ⟨1, rfl, by decide⟩ (leaves_bytes w [own 0, own 1, own 2, own 3, own 4, own 5, 0, 0, 0, 0, 0, 0, ip 0, ip 1, ip 2, ip 3, ip 0, ip 1, ip 2, ip 3])) (Leaves.cons ⟨1, rfl, by decide⟩ (leaves_bytes w [own 0, own 1, own 2, own 3, own 4, own 5, 0, 0, 0, 0, 0, 0, ip 0, ip 1, ip 2, ip 3, ip 0, ip 1, ip 2, ip 3])) _ (by simp) w

set_option maxHeartbeats 8000000 in
theorem law_answers (op : Int) (fr tm fi ip own : Nat → UInt8) (hop : (Lit.int .u16 op).wf = true) (A : Option Addr) (c : Nat) (l : List (Nat → UInt8)) (w : World) (hA : A = none → l.length = 0 ∧ c = 0) (hc : Cells w A (encIPs l)) (hl63 : l.length ≤ 9223372036854775807) :
    Calls Try.prog 3 #[.agg #[.int .u16 op, .int .u8 ((fr 0).toNat : Int), .int .u8 ((fr 1).toNat : Int), .int .u8 ((fr 2).toNat : Int), .int .u8 ((fr 3).toNat : Int), .int .u8 ((fr 4).toNat : Int), .int .u8 ((fr 5).toNat : Int), .int .u8 ((tm 0).toNat : Int), .int .u8 ((tm 1).toNat : Int), .int .u8 ((tm 2).toNat : Int), .int .u8 ((tm 3).toNat : Int), .int .u8 ((tm 4).toNat : Int), .int .u8 ((tm 5).toNat : Int), .int .u8 ((fi 0).toNat : Int), .int .u8 ((fi 1).toNat : Int), .int .u8 ((fi 2).toNat : Int), .int .u8 ((fi 3).toNat : Int), .int .u8 ((ip 0).toNat : Int), .int .u8 ((ip 1).toNat : Int), .int .u8 ((ip 2).toNat : Int), .int .u8 ((ip 3).toNat : Int)], .agg #[.int .u8 ((own 0).toNat : Int), .int .u8 ((own 1).toNat : Int), .int .u8 ((own 2).toNat : Int), .int .u8 ((own 3).toNat : Int), .int .u8 ((own 4).toNat : Int), .int .u8 ((own 5).toNat : Int)], .slice A l.length c] w fun e w' => e = .returned (.bool true) ∧ Below w.heap.size w w' := by
  have hB1 := ((Behind.refl w).alloc (.cells #[.int .u16 op, .int .u8 ((fr 0).toNat : Int), .int .u8 ((fr 1).toNat : Int), .int .u8 ((fr 2).toNat : Int), .int .u8 ((fr 3).toNat : Int), .int .u8 ((fr 4).toNat : Int), .int .u8 ((fr 5).toNat : Int), .int .u8 ((tm 0).toNat : Int), .int .u8 ((tm 1).toNat : Int), .int .u8 ((tm 2).toNat : Int), .int .u8 ((tm 3).toNat : Int), .int .u8 ((tm 4).toNat : Int), .int .u8 ((tm 5).toNat : Int), .int .u8 ((fi 0).toNat : Int), .int .u8 ((fi 1).toNat : Int), .int .u8 ((fi 2).toNat : Int), .int .u8 ((fi 3).toNat : Int), .int .u8 ((ip 0).toNat : Int), .int .u8 ((ip 1).toNat : Int), .int .u8 ((ip 2).toNat : Int), .int .u8 ((ip 3).toNat : Int)] 26)).alloc (.cells #[.int .u8 ((own 0).toNat : Int), .int .u8 ((own 1).toNat : Int), .int .u8 ((own 2).toNat : Int), .int .u8 ((own 3).toNat : Int), .int .u8 ((own 4).toNat : Int), .int .u8 ((own 5).toNat : Int)] 23)
  have b0 := ((Blk.new w #[.int .u16 op, .int .u8 ((fr 0).toNat : Int), .int .u8 ((fr 1).toNat : Int), .int .u8 ((fr 2).toNat : Int), .int .u8 ((fr 3).toNat : Int), .int .u8 ((fr 4).toNat : Int), .int .u8 ((fr 5).toNat : Int), .int .u8 ((tm 0).toNat : Int), .int .u8 ((tm 1).toNat : Int), .int .u8 ((tm 2).toNat : Int), .int .u8 ((tm 3).toNat : Int), .int .u8 ((tm 4).toNat : Int), .int .u8 ((tm 5).toNat : Int), .int .u8 ((fi 0).toNat : Int), .int .u8 ((fi 1).toNat : Int), .int .u8 ((fi 2).toNat : Int), .int .u8 ((fi 3).toNat : Int), .int .u8 ((ip 0).toNat : Int), .int .u8 ((ip 1).toNat : Int), .int .u8 ((ip 2).toNat : Int), .int .u8 ((ip 3).toNat : Int)] 26).alloc (.cells #[.int .u8 ((own 0).toNat : Int), .int .u8 ((own 1).toNat : Int), .int .u8 ((own 2).toNat : Int), .int .u8 ((own 3).toNat : Int), .int .u8 ((own 4).toNat : Int), .int .u8 ((own 5).toNat : Int)] 23))
  have b1 := (Blk.newAt (w.alloc (.cells #[.int .u16 op, .int .u8 ((fr 0).toNat : Int), .int .u8 ((fr 1).toNat : Int), .int .u8 ((fr 2).toNat : Int), .int .u8 ((fr 3).toNat : Int), .int .u8 ((fr 4).toNat : Int), .int .u8 ((fr 5).toNat : Int), .int .u8 ((tm 0).toNat : Int), .int .u8 ((tm 1).toNat : Int), .int .u8 ((tm 2).toNat : Int), .int .u8 ((tm 3).toNat : Int), .int .u8 ((tm 4).toNat : Int), .int .u8 ((tm 5).toNat : Int), .int .u8 ((fi 0).toNat : Int), .int .u8 ((fi 1).toNat : Int), .int .u8 ((fi 2).toNat : Int), .int .u8 ((fi 3).toNat : Int), .int .u8 ((ip 0).toNat : Int), .int .u8 ((ip 1).toNat : Int), .int .u8 ((ip 2).toNat : Int), .int .u8 ((ip 3).toNat : Int)] 26)) (w.heap.size + 1) #[.int .u8 ((own 0).toNat : Int), .int .u8 ((own 1).toNat : Int), .int .u8 ((own 2).toNat : Int), .int .u8 ((own 3).toNat : Int), .int .u8 ((own 4).toNat : Int), .int .u8 ((own 5).toNat : Int)] 23 (by simp))
  have hlt0 : w.heap.size < w.heap.size + 1 := by omega
  have hc1 := hc.behind hB1
  clear hc
  go_enter Try.func3, Try.ntmps3
  replace hc1 := Hd.mk hc1
  replace b0 := Hd.mk b0
  replace b1 := Hd.mk b1
  replace hB1 := Hd.mk hB1
  by_cases hl : l.length ≤ 40
  · have hlb : decide ((l.length : Int) > 40) = false := by simp; omega
    have hl' : l.length ≤ 1000 := by omega
    have hS := fun W h => Calls.mono (answer_says op fr tm fi ip own A c l W h hl') (fun _ _ h => h)
    have hR := fun W h => Calls.mono (ref_says op fr tm fi ip own A c l W h hl') (fun _ _ h => h)
    have rs := reply_size (answers op fi ip l) fr fi ip own
    have ro := reply_one (answers op fi ip l) fr fi ip own
    have re := reply_eq (answers op fi ip l) fr fi ip own
    generalize reply (answers op fi ip l) fr fi ip own = RP at hS hR rs ro re
    generalize answers op fi ip l = an at hS hR
    replace hS := Hd.mk hS
    replace hR := Hd.mk hR
    replace rs := Hd.mk rs
    replace ro := Hd.mk ro
    go_wp2_with (first | ((with_reducible refine gate_load (ty := 26) rfl ?_); go_must (refine wpList_load_whole rfl _ _ rfl _ rfl _ _ _ (b0.out) rfl rfl (by kernel_rfl) ?_)))
    refine (hS.out _ hc1.out).mono ?_
    rintro e w2 ⟨rfl, hb2⟩
    have b02 := Hd.mk (b0.out.behind hb2)
    have b12 := Hd.mk (b1.out.behind hb2)
    have hc2 := Hd.mk (hc1.out.behind hb2)
    have hB2 := Hd.mk (hB1.out.step hb2.out)
    clear hb2 b0 b1 hc1 hB1
    go_wp2_with (first | ((with_reducible refine gate_load (ty := 26) rfl ?_); go_must (refine wpList_load_whole rfl _ _ rfl _ rfl _ _ _ (b03.out) rfl rfl (by kernel_rfl) ?_)) | ((with_reducible refine gate_store (ty := 26) rfl ?_); go_must (refine wpList_store_whole rfl _ _ _ rfl _ _ _ _ rfl rfl (Blk.newAt _ _ _ _ (by simp)) ?_ ?_ ?_ ?_; (exact rs.out.symm); (rw [rs.out]; kernel_rfl); (exact ro.out); intro w3 hb3 hg3; have hB23 := Hd.mk (((Behind.refl w2).alloc _).grown hg3 (Nat.le_refl _)); replace hb3 := Hd.mk hb3; have b03 := Hd.mk (b02.out.behind hB23.out); have c13 := (b12.out.behind hB23.out).cell; clear hg3)))
    have b13 := Hd.mk (b12.out.behind hB23.out)
    have hc3 := Hd.mk (hc2.out.behind hB23.out)
    have hB3 := Hd.mk (hB2.out.step hB23.out.out)
    clear hB23 b02 b12 hc2 hB2 c13
    refine (hR.out _ hc3.out).mono ?_
    rintro e w4 ⟨rfl, hb4⟩
    have b04 := Hd.mk (b03.out.behind hb4)
    have b14 := Hd.mk (b13.out.behind hb4)
    have r14 := Hd.mk (hb3.out.behind hb4)
    have hc4 := Hd.mk (hc3.out.behind hb4)
    have hB4 := Hd.mk (hB3.out.step hb4.out)
    clear hb4 b03 b13 hc3 hB3 hb3
    go_wp2_with (first | ((with_reducible refine gate_store (ty := 26) rfl ?_); go_must (refine wpList_store_whole rfl _ _ _ rfl _ _ _ _ rfl rfl (Blk.newAt _ _ _ _ (by simp)) ?_ ?_ ?_ ?_; (exact rs.out.symm); (rw [rs.out]; kernel_rfl); (exact ro.out); intro w5 hb5 hg5; have hB45 := Hd.mk (((Behind.refl w4).alloc _).grown hg5 (Nat.le_refl _)); replace hb5 := Hd.mk hb5; clear hg5)))
    have b05 := Hd.mk (b04.out.behind hB45.out)
    have b15 := Hd.mk (b14.out.behind hB45.out)
    have r15 := Hd.mk (r14.out.behind hB45.out)
    have hc5 := Hd.mk (hc4.out.behind hB45.out)
    have hB5 := Hd.mk (hB4.out.step hB45.out.out)
    clear hB45 b04 b14 hc4 hB4 r14
    refine wp_region_vals (by kernel_rfl) (by kernel_rfl) (fun v => { tmps := #[.agg #[.int .u16 op, .int .u8 ((fr 0).toNat : Int), .int .u8 ((fr 1).toNat : Int), .int .u8 ((fr 2).toNat : Int), .int .u8 ((fr 3).toNat : Int), .int .u8 ((fr 4).toNat : Int), .int .u8 ((fr 5).toNat : Int), .int .u8 ((tm 0).toNat : Int), .int .u8 ((tm 1).toNat : Int), .int .u8 ((tm 2).toNat : Int), .int .u8 ((tm 3).toNat : Int), .int .u8 ((tm 4).toNat : Int), .int .u8 ((tm 5).toNat : Int), .int .u8 ((fi 0).toNat : Int), .int .u8 ((fi 1).toNat : Int), .int .u8 ((fi 2).toNat : Int), .int .u8 ((fi 3).toNat : Int), .int .u8 ((ip 0).toNat : Int), .int .u8 ((ip 1).toNat : Int), .int .u8 ((ip 2).toNat : Int), .int .u8 ((ip 3).toNat : Int)], .agg #[.int .u8 ((own 0).toNat : Int), .int .u8 ((own 1).toNat : Int), .int .u8 ((own 2).toNat : Int), .int .u8 ((own 3).toNat : Int), .int .u8 ((own 4).toNat : Int), .int .u8 ((own 5).toNat : Int)], .slice A l.length c, .pointer (some ⟨w.heap.size, 0, none⟩), .pointer (some ⟨w.heap.size + 1, 0, none⟩), undef, .bool false, .pointer (some ⟨w2.heap.size, 0, none⟩), .bool an, .pointer (some ⟨w4.heap.size, 0, none⟩), .bool an, v 17, v 19, .slice A l.length c, .int .i64 (l.length : Int), .bool false, undef, .tuple #[.agg RP, .bool an], .agg #[.int .u16 op, .int .u8 ((fr 0).toNat : Int), .int .u8 ((fr 1).toNat : Int), .int .u8 ((fr 2).toNat : Int), .int .u8 ((fr 3).toNat : Int), .int .u8 ((fr 4).toNat : Int), .int .u8 ((fr 5).toNat : Int), .int .u8 ((tm 0).toNat : Int), .int .u8 ((tm 1).toNat : Int), .int .u8 ((tm 2).toNat : Int), .int .u8 ((tm 3).toNat : Int), .int .u8 ((tm 4).toNat : Int), .int .u8 ((tm 5).toNat : Int), .int .u8 ((fi 0).toNat : Int), .int .u8 ((fi 1).toNat : Int), .int .u8 ((fi 2).toNat : Int), .int .u8 ((fi 3).toNat : Int), .int .u8 ((ip 0).toNat : Int), .int .u8 ((ip 1).toNat : Int), .int .u8 ((ip 2).toNat : Int), .int .u8 ((ip 3).toNat : Int)], .agg #[.int .u8 ((own 0).toNat : Int), .int .u8 ((own 1).toNat : Int), .int .u8 ((own 2).toNat : Int), .int .u8 ((own 3).toNat : Int), .int .u8 ((own 4).toNat : Int), .int .u8 ((own 5).toNat : Int)], .slice A l.length c, .tuple #[.agg RP, .bool an], .agg RP, .bool an, .tuple #[.agg RP, .bool an], .agg #[.int .u16 op, .int .u8 ((fr 0).toNat : Int), .int .u8 ((fr 1).toNat : Int), .int .u8 ((fr 2).toNat : Int), .int .u8 ((fr 3).toNat : Int), .int .u8 ((fr 4).toNat : Int), .int .u8 ((fr 5).toNat : Int), .int .u8 ((tm 0).toNat : Int), .int .u8 ((tm 1).toNat : Int), .int .u8 ((tm 2).toNat : Int), .int .u8 ((tm 3).toNat : Int), .int .u8 ((tm 4).toNat : Int), .int .u8 ((tm 5).toNat : Int), .int .u8 ((fi 0).toNat : Int), .int .u8 ((fi 1).toNat : Int), .int .u8 ((fi 2).toNat : Int), .int .u8 ((fi 3).toNat : Int), .int .u8 ((ip 0).toNat : Int), .int .u8 ((ip 1).toNat : Int), .int .u8 ((ip 2).toNat : Int), .int .u8 ((ip 3).toNat : Int)], .agg #[.int .u8 ((own 0).toNat : Int), .int .u8 ((own 1).toNat : Int), .int .u8 ((own 2).toNat : Int), .int .u8 ((own 3).toNat : Int), .int .u8 ((own 4).toNat : Int), .int .u8 ((own 5).toNat : Int)], .slice A l.length c, .tuple #[.agg RP, .bool an], .agg RP, .bool an, v 14, v 0, v 1, v 2, v 3, v 4, v 5, v 6, v 7, v 8, v 9, v 10, v 11, v 12, v 13, v 15, v 16, undef, undef, undef, undef, undef, undef, undef, undef, undef, undef, undef, undef, undef, undef, undef, undef, undef, undef, undef, undef, undef, undef, undef, undef, undef, undef, undef, undef], defers := [] }) (fun W => Behind w5 W) (val5 op fr ip own A c l w.heap.size (w.heap.size + 1) w5) (fun _ => undef) rfl (Behind.refl _).drew (val5_congr op fr ip own A c l w.heap.size (w.heap.size + 1) w5) ?_ ?_
    · intro i o ho
      have hi : i < 20 := (Array.getElem?_eq_some_iff.1 ho).1
      have hi' : i = 0 ∨ i = 1 ∨ i = 2 ∨ i = 3 ∨ i = 4 ∨ i = 5 ∨ i = 6 ∨ i = 7 ∨ i = 8 ∨ i = 9 ∨ i = 10 ∨ i = 11 ∨ i = 12 ∨ i = 13 ∨ i = 14 ∨ i = 15 ∨ i = 16 ∨ i = 17 ∨ i = 18 ∨ i = 19 := by omega
      rcases hi' with rfl | rfl | rfl | rfl | rfl | rfl | rfl | rfl | rfl | rfl | rfl | rfl | rfl | rfl | rfl | rfl | rfl | rfl | rfl | rfl
      · obtain rfl := Option.some.inj ho
        intro f v W hS hf hp
        clear hp
        have hW := Hd.mk hS
        have c0 := (b05.out.behind hS).cell
        have c1 := (b15.out.behind hS).cell
        go_wp2_with fail
        dsimp only [only]
        exact ⟨_, rfl, hW.out, rfl, fun j y hj h => val5_grow _ _ _ _ _ _ _ _ _ _ j y (fun _ h => by simp [h]) (Behind.refl _) h⟩
      · obtain rfl := Option.some.inj ho
        intro f v W hS hf hp
        have q0 := (hp ⟨0, .data⟩ (by simp) rfl).2
        replace q0 : v 0 = _ := q0
        clear hp
        have hW := Hd.mk hS
        have c0 := (b05.out.behind hS).cell
        have c1 := (b15.out.behind hS).cell
        go_wp2_with fail
        dsimp only [only]
        exact ⟨_, rfl, hW.out, rfl, fun j y hj h => val5_grow _ _ _ _ _ _ _ _ _ _ j y (fun _ h => by simp [h]) (Behind.refl _) h⟩
      · obtain rfl := Option.some.inj ho
        intro f v W hS hf hp
        clear hp
        have hW := Hd.mk hS
        have c0 := (b05.out.behind hS).cell
        have c1 := (b15.out.behind hS).cell
        go_wp2_with fail
        dsimp only [only]
        exact ⟨_, rfl, hW.out, rfl, fun j y hj h => val5_grow _ _ _ _ _ _ _ _ _ _ j y (fun _ h => by simp [h]) (Behind.refl _) h⟩
      · obtain rfl := Option.some.inj ho
        intro f v W hS hf hp
        have q2 := (hp ⟨2, .data⟩ (by simp) rfl).2
        replace q2 : v 2 = _ := q2
        clear hp
        have hW := Hd.mk hS
        have c0 := (b05.out.behind hS).cell
        have c1 := (b15.out.behind hS).cell
        go_wp2_with fail
        dsimp only [only]
        exact ⟨_, rfl, hW.out, rfl, fun j y hj h => val5_grow _ _ _ _ _ _ _ _ _ _ j y (fun _ h => by simp [h]) (Behind.refl _) h⟩
      · obtain rfl := Option.some.inj ho
        intro f v W hS hf hp
        have q1 := (hp ⟨1, .data⟩ (by simp) rfl).2
        replace q1 : v 1 = _ := q1
        have q3 := (hp ⟨3, .data⟩ (by simp) rfl).2
        replace q3 : v 3 = _ := q3
        clear hp
        have hW := Hd.mk hS
        have hsz := hW.out.out.size
        go_wp2_with fail
        refine (announce_calls fr ip W).mono ?_
        rintro e w' ⟨hb, rfl⟩
        go_wp2_with fail
        dsimp only [only]
        exact ⟨_, rfl, hW.out.step hb.out, rfl, fun j y hj h => val5_grow _ _ _ _ _ _ _ _ _ _ j y (fun _ h => by simp [h]) hb h⟩
      · obtain rfl := Option.some.inj ho
        intro f v W hS hf hp
        clear hp
        have hW := Hd.mk hS
        have c0 := (b05.out.behind hS).cell
        have c1 := (b15.out.behind hS).cell
        go_wp2_with fail
        dsimp only [only]
        exact ⟨_, rfl, hW.out, rfl, fun j y hj h => val5_grow _ _ _ _ _ _ _ _ _ _ j y (fun _ h => by simp [h]) (Behind.refl _) h⟩
      · obtain rfl := Option.some.inj ho
        intro f v W hS hf hp
        clear hp
        have hW := Hd.mk hS
        have hsz := hW.out.out.size
        go_wp2_with fail
        dsimp only [only]
        exact ⟨_, rfl, hW.out.alloc _, fun _ => ⟨_, rfl, hsz, Blk.new _ _ _⟩, fun j y hj h => val5_grow _ _ _ _ _ _ _ _ _ _ j y (fun _ h => by simp [h]) ((Behind.refl _).alloc _) h⟩
      · obtain rfl := Option.some.inj ho
        intro f v W hS hf hp
        clear hp
        have hW := Hd.mk hS
        have c0 := (b05.out.behind hS).cell
        have c1 := (b15.out.behind hS).cell
        go_wp2_with fail
        dsimp only [only]
        exact ⟨_, rfl, hW.out, rfl, fun j y hj h => val5_grow _ _ _ _ _ _ _ _ _ _ j y (fun _ h => by simp [h]) (Behind.refl _) h⟩
      · obtain rfl := Option.some.inj ho
        intro f v W hS hf hp
        have q6 := (hp ⟨6, .data⟩ (by simp) rfl).2
        have q7 := (hp ⟨7, .data⟩ (by simp) rfl).2
        replace q7 : v 7 = _ := q7
        clear hp
        have hW := Hd.mk hS
        have hsz := hW.out.out.size
        obtain ⟨B, e6, h6, b6⟩ := q6 hf
        obtain ⟨v', w', HR, hown, hg⟩ := append_all A c l hA (by omega) w5.heap.size B W h6 hsz b6 (hc5.out.behind hS)
        rw [← e6, ← q7] at HR
        replace HR := Hd.mk HR
        clear e6 q7
        have hS' := Hd.mk (hS.grown hg h6)
        have hfr : ∀ j y, f j = true → val5 op fr ip own A c l w.heap.size (w.heap.size + 1) w5 f j y W → val5 op fr ip own A c l w.heap.size (w.heap.size + 1) w5 (fun j => f j || j == 8) j y w' := by
          intro j y hj h
          exact val5_row8 _ _ _ _ _ _ _ _ _ _ B hg b6 hf (by simp) j y hj (fun _ h => by simp [h]) h
        refine wpList_append_run rfl _ _ _ rfl _ _ _ rfl rfl HR.out ?_
        go_wp2_with fail
        dsimp only [only]
        exact ⟨_, rfl, hS'.out, fun _ => hown, hfr⟩
      · obtain rfl := Option.some.inj ho
        intro f v W hS hf hp
        clear hp
        have hW := Hd.mk hS
        have c0 := (b05.out.behind hS).cell
        have c1 := (b15.out.behind hS).cell
        go_wp2_with fail
        dsimp only [only]
        exact ⟨_, rfl, hW.out, rfl, fun j y hj h => val5_grow _ _ _ _ _ _ _ _ _ _ j y (fun _ h => by simp [h]) (Behind.refl _) h⟩
      · obtain rfl := Option.some.inj ho
        intro f v W hS hf hp
        have q9 := (hp ⟨9, .data⟩ (by simp) rfl).2
        replace q9 : v 9 = _ := q9
        clear hp
        have hW := Hd.mk hS
        have c0 := (b05.out.behind hS).cell
        have c1 := (b15.out.behind hS).cell
        go_wp2_with fail
        dsimp only [only]
        exact ⟨_, rfl, hW.out, rfl, fun j y hj h => val5_grow _ _ _ _ _ _ _ _ _ _ j y (fun _ h => by simp [h]) (Behind.refl _) h⟩
      · obtain rfl := Option.some.inj ho
        intro f v W hS hf hp
        have q10 := (hp ⟨10, .data⟩ (by simp) rfl).2
        replace q10 : v 10 = _ := q10
        clear hp
        have hW := Hd.mk hS
        have hsz := hW.out.out.size
        go_wp2_with fail
        dsimp only [only]
        exact ⟨_, rfl, hW.out.alloc _, fun _ => ⟨_, rfl, hsz, Blk.new _ _ _⟩, fun j y hj h => val5_grow _ _ _ _ _ _ _ _ _ _ j y (fun _ h => by simp [h]) ((Behind.refl _).alloc _) h⟩
      · obtain rfl := Option.some.inj ho
        intro f v W hS hf hp
        have q8 := (hp ⟨8, .data⟩ (by simp) rfl).2
        have q11 := (hp ⟨11, .data⟩ (by simp) rfl).2
        have p8 := (hp ⟨8, .chain⟩ (by simp) rfl).1
        clear hp
        have hW := Hd.mk hS
        have hsz := hW.out.out.size
        have f8 : f 8 = true := p8
        obtain ⟨B, e11, h11, b11⟩ := q11 hf
        have own8 := q8 hf
        obtain ⟨v', w', HR, hres, hg⟩ := append_one l ip (by omega) w5.heap.size B (v 8) W hsz own8 b11
        rw [← e11] at HR
        replace HR := Hd.mk HR
        have hS' := Hd.mk (show Behind w5 w' from ⟨hS.out.grown hg hsz (fun k e => (own8.lt k e).1)⟩)
        have hfr : ∀ j y, f j = true → val5 op fr ip own A c l w.heap.size (w.heap.size + 1) w5 f j y W → val5 op fr ip own A c l w.heap.size (w.heap.size + 1) w5 (fun j => f j || j == 12) j y w' := by
          intro j y hj h
          exact val5_row _ _ _ _ _ _ _ _ _ _ _ hg (own_tag own8) (by simp [f8]) (by simp) j y (by rintro rfl; rw [hf] at hj; cases hj) (fun _ h => by simp [h]) h
        clear own8 hg e11
        refine wpList_append_run rfl _ _ _ rfl _ _ _ rfl rfl HR.out ?_
        go_wp2_with fail
        dsimp only [only]
        exact ⟨_, rfl, hS'.out, ⟨by simp [f8], fun _ => hres⟩, hfr⟩
      · obtain rfl := Option.some.inj ho
        intro f v W hS hf hp
        have q4 := (hp ⟨4, .data⟩ (by simp) rfl).2
        replace q4 : v 4 = _ := q4
        have q5 := (hp ⟨5, .data⟩ (by simp) rfl).2
        replace q5 : v 5 = _ := q5
        have q12 := (hp ⟨12, .data⟩ (by simp) rfl).2
        clear hp
        have hW := Hd.mk hS
        have hsz := hW.out.out.size
        obtain ⟨A', c', e12, h12⟩ := q12.2 hf
        have K := quiet_calls fr ip own A' c' l W h12 (by omega)
        clear h12
        go_wp2_with fail
        refine K.mono ?_
        rintro e w' ⟨rfl, hb⟩
        go_wp2_with fail
        dsimp only [only]
        exact ⟨_, rfl, hW.out.step hb.out, rfl, fun j y hj h => val5_grow _ _ _ _ _ _ _ _ _ _ j y (fun _ h => by simp [h]) hb h⟩
      · obtain rfl := Option.some.inj ho
        intro f v W hS hf hp
        have q13 := (hp ⟨13, .data⟩ (by simp) rfl).2
        replace q13 : v 13 = _ := q13
        clear hp
        have hW := Hd.mk hS
        have c0 := (b05.out.behind hS).cell
        have c1 := (b15.out.behind hS).cell
        go_wp2_with fail
        dsimp only [only]
        exact ⟨_, rfl, hW.out, rfl, fun j y hj h => val5_grow _ _ _ _ _ _ _ _ _ _ j y (fun _ h => by simp [h]) (Behind.refl _) h⟩
      · obtain rfl := Option.some.inj ho
        intro f v W hS hf hp
        have q14 := (hp ⟨14, .data⟩ (by simp) rfl).2
        replace q14 : v 14 = _ := q14
        clear hp
        have hW := Hd.mk hS
        have c0 := (b05.out.behind hS).cell
        have c1 := (b15.out.behind hS).cell
        go_wp2_with fail
        dsimp only [only]
        exact ⟨_, rfl, hW.out, rfl, fun j y hj h => val5_grow _ _ _ _ _ _ _ _ _ _ j y (fun _ h => by simp [h]) (Behind.refl _) h⟩
      · obtain rfl := Option.some.inj ho
        intro f v W hS hf hp
        have q14 := (hp ⟨14, .data⟩ (by simp) rfl).2
        replace q14 : v 14 = _ := q14
        clear hp
        have hW := Hd.mk hS
        have c0 := (b05.out.behind hS).cell
        have c1 := (b15.out.behind hS).cell
        go_wp2_with fail
        dsimp only [only]
        exact ⟨_, rfl, hW.out, rfl, fun j y hj h => val5_grow _ _ _ _ _ _ _ _ _ _ j y (fun _ h => by simp [h]) (Behind.refl _) h⟩
      · obtain rfl := Option.some.inj ho
        intro f v W hS hf hp
        clear hp
        have hW := Hd.mk hS
        have hsz := hW.out.out.size
        go_wp2_with fail
        dsimp only [only]
        exact ⟨_, rfl, hW.out.alloc _, fun _ => ⟨_, rfl, hsz, Blk.new _ _ _⟩, fun j y hj h => val5_grow _ _ _ _ _ _ _ _ _ _ j y (fun _ h => by simp [h]) ((Behind.refl _).alloc _) h⟩
      · obtain rfl := Option.some.inj ho
        intro f v W hS hf hp
        have q17 := (hp ⟨17, .data⟩ (by simp) rfl).2
        have q15 := (hp ⟨15, .data⟩ (by simp) rfl).2
        replace q15 : v 15 = _ := q15
        have p8 := (hp ⟨8, .phase⟩ (by simp) rfl).1
        have p12 := (hp ⟨12, .phase⟩ (by simp) rfl).1
        have p13 := (hp ⟨13, .phase⟩ (by simp) rfl).1
        clear hp
        have hW := Hd.mk hS
        have hsz := hW.out.out.size
        obtain ⟨B, e17, h17, b17⟩ := q17 hf
        go_wp2_with ((with_reducible refine gate_store (ty := 26) rfl ?_); go_must (refine wpList_store_whole rfl _ _ _ rfl B _ _ _ e17 q15 b17 ?_ ?_ ?_ ?_; (rfl); (kernel_rfl); (simp [Value.oneCell']); intro w3 hb3 hg3; have hS3 := Hd.mk (show Behind w5 w3 from hW.out.grown hg3 h17); clear hg3 hb3))
        dsimp only [only]
        first | exact ⟨undef, rfl, hS3.out, trivial, fun j y hj h => val5_done _ _ _ _ _ _ _ _ _ _ (by simp [p8]) (by simp [p12]) (by simp [p13]) (by simp) j y h⟩ | exact ⟨rfl, hS3.out, ⟨undef, trivial⟩, fun j y hj h => val5_done _ _ _ _ _ _ _ _ _ _ (by simp [p8]) (by simp [p12]) (by simp [p13]) (by simp) j y h⟩
--X val5_done _ _ _ _ _ _ _ _ _ _ (by simp [p8]) (by simp [p12]) (by simp [p13]) (by simp) j y h⟩
      · obtain rfl := Option.some.inj ho
        intro f v W hS hf hp
        have q16 := (hp ⟨16, .data⟩ (by simp) rfl).2
        replace q16 : v 16 = _ := q16
        clear hp
        have hW := Hd.mk hS
        have c0 := (b05.out.behind hS).cell
        have c1 := (b15.out.behind hS).cell
        go_wp2_with fail
        dsimp only [only]
        exact ⟨_, rfl, hW.out, rfl, fun j y hj h => val5_grow _ _ _ _ _ _ _ _ _ _ j y (fun _ h => by simp [h]) (Behind.refl _) h⟩
    · intro v W hS hV
      have e19 : v 19 = .bool false := hV 19 (by decide)
      clear hV
      replace e19 := Hd.mk e19
      have b06 := Hd.mk (b05.out.behind hS)
      have b16 := Hd.mk (b15.out.behind hS)
      have r16 := Hd.mk (r15.out.behind hS)
      have h16 := Hd.mk (hb5.out.behind hS)
      have hB6 := Hd.mk (hB5.out.step hS.out)
      have ea := ann_eq own ip
      clear b05 b15 r15 hb5 hB5 hS hc5
      go_wp2_with fail
      refine wp_region_vals (by kernel_rfl) (by kernel_rfl) (fun x => { tmps := #[.agg #[.int .u16 op, .int .u8 ((fr 0).toNat : Int), .int .u8 ((fr 1).toNat : Int), .int .u8 ((fr 2).toNat : Int), .int .u8 ((fr 3).toNat : Int), .int .u8 ((fr 4).toNat : Int), .int .u8 ((fr 5).toNat : Int), .int .u8 ((tm 0).toNat : Int), .int .u8 ((tm 1).toNat : Int), .int .u8 ((tm 2).toNat : Int), .int .u8 ((tm 3).toNat : Int), .int .u8 ((tm 4).toNat : Int), .int .u8 ((tm 5).toNat : Int), .int .u8 ((fi 0).toNat : Int), .int .u8 ((fi 1).toNat : Int), .int .u8 ((fi 2).toNat : Int), .int .u8 ((fi 3).toNat : Int), .int .u8 ((ip 0).toNat : Int), .int .u8 ((ip 1).toNat : Int), .int .u8 ((ip 2).toNat : Int), .int .u8 ((ip 3).toNat : Int)], .agg #[.int .u8 ((own 0).toNat : Int), .int .u8 ((own 1).toNat : Int), .int .u8 ((own 2).toNat : Int), .int .u8 ((own 3).toNat : Int), .int .u8 ((own 4).toNat : Int), .int .u8 ((own 5).toNat : Int)], .slice A l.length c, .pointer (some ⟨w.heap.size, 0, none⟩), .pointer (some ⟨w.heap.size + 1, 0, none⟩), undef, x 28, .pointer (some ⟨w2.heap.size, 0, none⟩), .bool an, .pointer (some ⟨w4.heap.size, 0, none⟩), .bool an, v 17, v 19, .slice A l.length c, .int .i64 (l.length : Int), .bool false, undef, .tuple #[.agg RP, .bool an], .agg #[.int .u16 op, .int .u8 ((fr 0).toNat : Int), .int .u8 ((fr 1).toNat : Int), .int .u8 ((fr 2).toNat : Int), .int .u8 ((fr 3).toNat : Int), .int .u8 ((fr 4).toNat : Int), .int .u8 ((fr 5).toNat : Int), .int .u8 ((tm 0).toNat : Int), .int .u8 ((tm 1).toNat : Int), .int .u8 ((tm 2).toNat : Int), .int .u8 ((tm 3).toNat : Int), .int .u8 ((tm 4).toNat : Int), .int .u8 ((tm 5).toNat : Int), .int .u8 ((fi 0).toNat : Int), .int .u8 ((fi 1).toNat : Int), .int .u8 ((fi 2).toNat : Int), .int .u8 ((fi 3).toNat : Int), .int .u8 ((ip 0).toNat : Int), .int .u8 ((ip 1).toNat : Int), .int .u8 ((ip 2).toNat : Int), .int .u8 ((ip 3).toNat : Int)], .agg #[.int .u8 ((own 0).toNat : Int), .int .u8 ((own 1).toNat : Int), .int .u8 ((own 2).toNat : Int), .int .u8 ((own 3).toNat : Int), .int .u8 ((own 4).toNat : Int), .int .u8 ((own 5).toNat : Int)], .slice A l.length c, .tuple #[.agg RP, .bool an], .agg RP, .bool an, .tuple #[.agg RP, .bool an], .agg #[.int .u16 op, .int .u8 ((fr 0).toNat : Int), .int .u8 ((fr 1).toNat : Int), .int .u8 ((fr 2).toNat : Int), .int .u8 ((fr 3).toNat : Int), .int .u8 ((fr 4).toNat : Int), .int .u8 ((fr 5).toNat : Int), .int .u8 ((tm 0).toNat : Int), .int .u8 ((tm 1).toNat : Int), .int .u8 ((tm 2).toNat : Int), .int .u8 ((tm 3).toNat : Int), .int .u8 ((tm 4).toNat : Int), .int .u8 ((tm 5).toNat : Int), .int .u8 ((fi 0).toNat : Int), .int .u8 ((fi 1).toNat : Int), .int .u8 ((fi 2).toNat : Int), .int .u8 ((fi 3).toNat : Int), .int .u8 ((ip 0).toNat : Int), .int .u8 ((ip 1).toNat : Int), .int .u8 ((ip 2).toNat : Int), .int .u8 ((ip 3).toNat : Int)], .agg #[.int .u8 ((own 0).toNat : Int), .int .u8 ((own 1).toNat : Int), .int .u8 ((own 2).toNat : Int), .int .u8 ((own 3).toNat : Int), .int .u8 ((own 4).toNat : Int), .int .u8 ((own 5).toNat : Int)], .slice A l.length c, .tuple #[.agg RP, .bool an], .agg RP, .bool an, v 14, v 0, v 1, v 2, v 3, v 4, v 5, v 6, v 7, v 8, v 9, v 10, v 11, v 12, v 13, v 15, v 16, x 0, x 1, x 2, x 3, x 4, x 5, x 6, x 7, x 8, x 9, x 10, x 11, x 12, x 13, x 14, x 15, x 16, x 17, x 18, x 19, x 20, x 21, x 22, x 23, x 24, x 25, x 26, x 27], defers := [] }) (fun W' => Behind W W') (val6 RP an ip own w.heap.size) (fun k => if k = 28 then .bool false else undef) rfl (Behind.refl _).drew (fun f g j x w _ h => h) ?_ ?_
      · intro i o ho
        have hi : i < 29 := (Array.getElem?_eq_some_iff.1 ho).1
        have hi' : i = 0 ∨ i = 1 ∨ i = 2 ∨ i = 3 ∨ i = 4 ∨ i = 5 ∨ i = 6 ∨ i = 7 ∨ i = 8 ∨ i = 9 ∨ i = 10 ∨ i = 11 ∨ i = 12 ∨ i = 13 ∨ i = 14 ∨ i = 15 ∨ i = 16 ∨ i = 17 ∨ i = 18 ∨ i = 19 ∨ i = 20 ∨ i = 21 ∨ i = 22 ∨ i = 23 ∨ i = 24 ∨ i = 25 ∨ i = 26 ∨ i = 27 ∨ i = 28 := by omega
        rcases hi' with rfl | rfl | rfl | rfl | rfl | rfl | rfl | rfl | rfl | rfl | rfl | rfl | rfl | rfl | rfl | rfl | rfl | rfl | rfl | rfl | rfl | rfl | rfl | rfl | rfl | rfl | rfl | rfl | rfl
        · obtain rfl := Option.some.inj ho
          intro f x W hS hf hp
          clear hp
          have hW := Hd.mk hS
          refine wpList_load_whole rfl _ _ rfl _ rfl _ _ _ (r16.out.behind hS) rfl rfl (by rw [rs.out]; kernel_rfl) ?_
          go_wp2_with fail
          dsimp only [only]
          exact ⟨_, rfl, hW.out, rfl, fun j y hj h => h⟩
        · obtain rfl := Option.some.inj ho
          intro f x W hS hf hp
          clear hp
          have hW := Hd.mk hS
          refine wpList_load_whole rfl _ _ rfl _ rfl _ _ _ (h16.out.behind hS) rfl rfl (by rw [rs.out]; kernel_rfl) ?_
          go_wp2_with fail
          dsimp only [only]
          exact ⟨_, rfl, hW.out, rfl, fun j y hj h => h⟩
        · obtain rfl := Option.some.inj ho
          intro f x W hS hf hp
          have q0 : x 0 = .agg RP := (hp ⟨0, .data⟩ (by simp) rfl).2
          have q1 : x 1 = .agg RP := (hp ⟨1, .data⟩ (by simp) rfl).2
          clear hp
          have hW := Hd.mk hS
          have c0 := (b06.out.behind hS).cell
          have c1 := (b16.out.behind hS).cell
          go_wp2_with fail
          dsimp only [only]
          exact ⟨_, rfl, hW.out, rfl, fun j y hj h => h⟩
        · obtain rfl := Option.some.inj ho
          intro f x W hS hf hp
          have q2 : x 2 = .bool true := (hp ⟨2, .data⟩ (by simp) rfl).2
          clear hp
          have hW := Hd.mk hS
          have c0 := (b06.out.behind hS).cell
          have c1 := (b16.out.behind hS).cell
          go_wp2_with fail
          dsimp only [only]
          exact ⟨_, rfl, hW.out, rfl, fun j y hj h => h⟩
        · obtain rfl := Option.some.inj ho
          intro f x W hS hf hp
          have q3 : x 3 = .bool true := (hp ⟨3, .guard⟩ (by simp) rfl).2
          clear hp
          have hW := Hd.mk hS
          have c0 := (b06.out.behind hS).cell
          have c1 := (b16.out.behind hS).cell
          go_wp2_with fail
          dsimp only [only]
          exact ⟨_, rfl, hW.out, rfl, fun j y hj h => h⟩
        · obtain rfl := Option.some.inj ho
          intro f x W hS hf hp
          have q3 : x 3 = .bool true := (hp ⟨3, .guard⟩ (by simp) rfl).2
          clear hp
          have hW := Hd.mk hS
          have c0 := (b06.out.behind hS).cell
          have c1 := (b16.out.behind hS).cell
          go_wp2_with fail
          dsimp only [only]
          exact ⟨_, rfl, hW.out, rfl, fun j y hj h => h⟩
        · obtain rfl := Option.some.inj ho
          intro f x W hS hf hp
          have q4 : x 4 = .bool an := (hp ⟨4, .data⟩ (by simp) rfl).2
          have q5 : x 5 = .bool an := (hp ⟨5, .data⟩ (by simp) rfl).2
          have q3 : x 3 = .bool true := (hp ⟨3, .guard⟩ (by simp) rfl).2
          clear hp
          have hW := Hd.mk hS
          have c0 := (b06.out.behind hS).cell
          have c1 := (b16.out.behind hS).cell
          go_wp2_with fail
          dsimp only [only]
          exact ⟨_, rfl, hW.out, rfl, fun j y hj h => h⟩
        · obtain rfl := Option.some.inj ho
          intro f x W hS hf hp
          have q3 : x 3 = .bool true := (hp ⟨3, .data⟩ (by simp) rfl).2
          have q6 : x 6 = .bool true := (hp ⟨6, .data⟩ (by simp) rfl).2
          clear hp
          have hW := Hd.mk hS
          have c0 := (b06.out.behind hS).cell
          have c1 := (b16.out.behind hS).cell
          go_wp2_with fail
          dsimp only [only]
          exact ⟨_, rfl, hW.out, rfl, fun j y hj h => h⟩
        · obtain rfl := Option.some.inj ho
          intro f x W hS hf hp
          have q7 : x 7 = .bool true := (hp ⟨7, .data⟩ (by simp) rfl).2
          clear hp
          have hW := Hd.mk hS
          have c0 := (b06.out.behind hS).cell
          have c1 := (b16.out.behind hS).cell
          go_wp2_with fail
          dsimp only [only]
          exact ⟨_, rfl, hW.out, rfl, fun j y hj h => h⟩
        · obtain rfl := Option.some.inj ho
          intro f x W hS hf hp
          have q8 : x 8 = .bool true := (hp ⟨8, .guard⟩ (by simp) rfl).2
          clear hp
          have hW := Hd.mk hS
          have c0 := (b06.out.behind hS).cell
          have c1 := (b16.out.behind hS).cell
          go_wp2_with fail
          dsimp only [only]
          exact ⟨_, rfl, hW.out, e19.out, fun j y hj h => h⟩
        · obtain rfl := Option.some.inj ho
          intro f x W hS hf hp
          have q9 : x 9 = .bool false := (hp ⟨9, .data⟩ (by simp) rfl).2
          have q8 : x 8 = .bool true := (hp ⟨8, .guard⟩ (by simp) rfl).2
          clear hp
          have hW := Hd.mk hS
          have c0 := (b06.out.behind hS).cell
          have c1 := (b16.out.behind hS).cell
          go_wp2_with fail
          dsimp only [only]
          exact ⟨_, rfl, hW.out, rfl, fun j y hj h => h⟩
        · obtain rfl := Option.some.inj ho
          intro f x W hS hf hp
          have q8 : x 8 = .bool true := (hp ⟨8, .data⟩ (by simp) rfl).2
          have q10 : x 10 = .bool true := (hp ⟨10, .data⟩ (by simp) rfl).2
          clear hp
          have hW := Hd.mk hS
          have c0 := (b06.out.behind hS).cell
          have c1 := (b16.out.behind hS).cell
          go_wp2_with fail
          dsimp only [only]
          exact ⟨_, rfl, hW.out, rfl, fun j y hj h => h⟩
        · obtain rfl := Option.some.inj ho
          intro f x W hS hf hp
          have q11 : x 11 = .bool true := (hp ⟨11, .data⟩ (by simp) rfl).2
          clear hp
          have hW := Hd.mk hS
          have c0 := (b06.out.behind hS).cell
          have c1 := (b16.out.behind hS).cell
          go_wp2_with fail
          dsimp only [only]
          exact ⟨_, rfl, hW.out, rfl, fun j y hj h => h⟩
        · obtain rfl := Option.some.inj ho
          intro f x W hS hf hp
          have q12 : x 12 = .bool true := (hp ⟨12, .guard⟩ (by simp) rfl).2
          clear hp
          have hW := Hd.mk hS
          have c0 := (b06.out.behind hS).cell
          have c1 := (b16.out.behind hS).cell
          go_wp2_with fail
          dsimp only [only]
          exact ⟨_, rfl, hW.out, rfl, fun j y hj h => h⟩
        · obtain rfl := Option.some.inj ho
          intro f x W hS hf hp
          have q12 : x 12 = .bool true := (hp ⟨12, .guard⟩ (by simp) rfl).2
          clear hp
          have hW := Hd.mk hS
          have c0 := (b06.out.behind hS).cell
          have c1 := (b16.out.behind hS).cell
          go_wp2_with fail
          dsimp only [only]
          exact ⟨_, rfl, hW.out, rfl, fun j y hj h => h⟩
        · obtain rfl := Option.some.inj ho
          intro f x W hS hf hp
          have q14 : x 14 = .pointer (some ⟨w.heap.size, 17, none⟩) := (hp ⟨14, .data⟩ (by simp) rfl).2
          have q12 : x 12 = .bool true := (hp ⟨12, .guard⟩ (by simp) rfl).2
          clear hp
          have hW := Hd.mk hS
          have c0 := (b06.out.behind hS).cell
          have c1 := (b16.out.behind hS).cell
          go_wp2_with fail
          dsimp only [only]
          exact ⟨_, rfl, hW.out, rfl, fun j y hj h => h⟩
        · obtain rfl := Option.some.inj ho
          intro f x W hS hf hp
          have q13 : x 13 = .agg #[.int .u8 ((own 0).toNat : Int), .int .u8 ((own 1).toNat : Int), .int .u8 ((own 2).toNat : Int), .int .u8 ((own 3).toNat : Int), .int .u8 ((own 4).toNat : Int), .int .u8 ((own 5).toNat : Int)] := (hp ⟨13, .data⟩ (by simp) rfl).2
          have q15 : x 15 = .agg #[.int .u8 ((ip 0).toNat : Int), .int .u8 ((ip 1).toNat : Int), .int .u8 ((ip 2).toNat : Int), .int .u8 ((ip 3).toNat : Int)] := (hp ⟨15, .data⟩ (by simp) rfl).2
          have q12 : x 12 = .bool true := (hp ⟨12, .guard⟩ (by simp) rfl).2
          clear hp
          have hW := Hd.mk hS
          go_wp2_with fail
          refine (announce_calls own ip W).mono ?_
          rintro e w' ⟨hb, rfl⟩
          replace hW := Hd.mk (hW.out.step hb.out)
          go_wp2_with fail
          dsimp only [only]
          exact ⟨_, rfl, hW.out, rfl, fun j y hj h => h⟩
        · obtain rfl := Option.some.inj ho
          intro f x W hS hf hp
          have q12 : x 12 = .bool true := (hp ⟨12, .guard⟩ (by simp) rfl).2
          clear hp
          have hW := Hd.mk hS
          have c0 := (b06.out.behind hS).cell
          have c1 := (b16.out.behind hS).cell
          go_wp2_with fail
          dsimp only [only]
          exact ⟨_, rfl, hW.out, rfl, fun j y hj h => h⟩
        · obtain rfl := Option.some.inj ho
          intro f x W hS hf hp
          have q12 : x 12 = .bool true := (hp ⟨12, .guard⟩ (by simp) rfl).2
          clear hp
          have hW := Hd.mk hS
          have c0 := (b06.out.behind hS).cell
          have c1 := (b16.out.behind hS).cell
          go_wp2_with fail
          dsimp only [only]
          exact ⟨_, rfl, hW.out, rfl, fun j y hj h => h⟩
        · obtain rfl := Option.some.inj ho
          intro f x W hS hf hp
          have q18 : x 18 = .pointer (some ⟨w.heap.size, 17, none⟩) := (hp ⟨18, .data⟩ (by simp) rfl).2
          have q12 : x 12 = .bool true := (hp ⟨12, .guard⟩ (by simp) rfl).2
          clear hp
          have hW := Hd.mk hS
          have c0 := (b06.out.behind hS).cell
          have c1 := (b16.out.behind hS).cell
          go_wp2_with fail
          dsimp only [only]
          exact ⟨_, rfl, hW.out, rfl, fun j y hj h => h⟩
        · obtain rfl := Option.some.inj ho
          intro f x W hS hf hp
          have q12 : x 12 = .bool true := (hp ⟨12, .guard⟩ (by simp) rfl).2
          clear hp
          have hW := Hd.mk hS
          have c0 := (b06.out.behind hS).cell
          have c1 := (b16.out.behind hS).cell
          go_wp2_with fail
          dsimp only [only]
          exact ⟨_, rfl, hW.out, rfl, fun j y hj h => h⟩
        · obtain rfl := Option.some.inj ho
          intro f x W hS hf hp
          have q20 : x 20 = .pointer (some ⟨w.heap.size, 17, none⟩) := (hp ⟨20, .data⟩ (by simp) rfl).2
          have q12 : x 12 = .bool true := (hp ⟨12, .guard⟩ (by simp) rfl).2
          clear hp
          have hW := Hd.mk hS
          have c0 := (b06.out.behind hS).cell
          have c1 := (b16.out.behind hS).cell
          go_wp2_with fail
          dsimp only [only]
          exact ⟨_, rfl, hW.out, rfl, fun j y hj h => h⟩
        · obtain rfl := Option.some.inj ho
          intro f x W hS hf hp
          have q17 : x 17 = .agg #[.int .u8 ((own 0).toNat : Int), .int .u8 ((own 1).toNat : Int), .int .u8 ((own 2).toNat : Int), .int .u8 ((own 3).toNat : Int), .int .u8 ((own 4).toNat : Int), .int .u8 ((own 5).toNat : Int)] := (hp ⟨17, .data⟩ (by simp) rfl).2
          have q19 : x 19 = .agg #[.int .u8 ((ip 0).toNat : Int), .int .u8 ((ip 1).toNat : Int), .int .u8 ((ip 2).toNat : Int), .int .u8 ((ip 3).toNat : Int)] := (hp ⟨19, .data⟩ (by simp) rfl).2
          have q21 : x 21 = .agg #[.int .u8 ((ip 0).toNat : Int), .int .u8 ((ip 1).toNat : Int), .int .u8 ((ip 2).toNat : Int), .int .u8 ((ip 3).toNat : Int)] := (hp ⟨21, .data⟩ (by simp) rfl).2
          have q12 : x 12 = .bool true := (hp ⟨12, .guard⟩ (by simp) rfl).2
          clear hp
          have hW := Hd.mk hS
          have c0 := (b06.out.behind hS).cell
          have c1 := (b16.out.behind hS).cell
          go_wp2_with fail
          dsimp only [only]
          exact ⟨_, rfl, hW.out, rfl, fun j y hj h => h⟩
        · obtain rfl := Option.some.inj ho
          intro f x W hS hf hp
          have q16 : x 16 = .agg #[.int .u16 1, .int .u8 ((own 0).toNat : Int), .int .u8 ((own 1).toNat : Int), .int .u8 ((own 2).toNat : Int), .int .u8 ((own 3).toNat : Int), .int .u8 ((own 4).toNat : Int), .int .u8 ((own 5).toNat : Int), .int .u8 0, .int .u8 0, .int .u8 0, .int .u8 0, .int .u8 0, .int .u8 0, .int .u8 ((ip 0).toNat : Int), .int .u8 ((ip 1).toNat : Int), .int .u8 ((ip 2).toNat : Int), .int .u8 ((ip 3).toNat : Int), .int .u8 ((ip 0).toNat : Int), .int .u8 ((ip 1).toNat : Int), .int .u8 ((ip 2).toNat : Int), .int .u8 ((ip 3).toNat : Int)] := (hp ⟨16, .data⟩ (by simp) rfl).2
          have q22 : x 22 = .agg #[.int .u16 1, .int .u8 ((own 0).toNat : Int), .int .u8 ((own 1).toNat : Int), .int .u8 ((own 2).toNat : Int), .int .u8 ((own 3).toNat : Int), .int .u8 ((own 4).toNat : Int), .int .u8 ((own 5).toNat : Int), .int .u8 0, .int .u8 0, .int .u8 0, .int .u8 0, .int .u8 0, .int .u8 0, .int .u8 ((ip 0).toNat : Int), .int .u8 ((ip 1).toNat : Int), .int .u8 ((ip 2).toNat : Int), .int .u8 ((ip 3).toNat : Int), .int .u8 ((ip 0).toNat : Int), .int .u8 ((ip 1).toNat : Int), .int .u8 ((ip 2).toNat : Int), .int .u8 ((ip 3).toNat : Int)] := (hp ⟨22, .data⟩ (by simp) rfl).2
          have q12 : x 12 = .bool true := (hp ⟨12, .guard⟩ (by simp) rfl).2
          clear hp
          have hW := Hd.mk hS
          have c0 := (b06.out.behind hS).cell
          have c1 := (b16.out.behind hS).cell
          go_wp2_with fail
          dsimp only [only]
          exact ⟨_, rfl, hW.out, rfl, fun j y hj h => h⟩
        · obtain rfl := Option.some.inj ho
          intro f x W hS hf hp
          have q12 : x 12 = .bool true := (hp ⟨12, .data⟩ (by simp) rfl).2
          have q23 : x 23 = .bool true := (hp ⟨23, .data⟩ (by simp) rfl).2
          clear hp
          have hW := Hd.mk hS
          have c0 := (b06.out.behind hS).cell
          have c1 := (b16.out.behind hS).cell
          go_wp2_with fail
          dsimp only [only]
          exact ⟨_, rfl, hW.out, rfl, fun j y hj h => h⟩
        · obtain rfl := Option.some.inj ho
          intro f x W hS hf hp
          have q24 : x 24 = .bool true := (hp ⟨24, .data⟩ (by simp) rfl).2
          clear hp
          have hW := Hd.mk hS
          have c0 := (b06.out.behind hS).cell
          have c1 := (b16.out.behind hS).cell
          go_wp2_with fail
          dsimp only [only]
          exact ⟨_, rfl, hW.out, rfl, fun j y hj h => h⟩
        · obtain rfl := Option.some.inj ho
          intro f x W hS hf hp
          have q25 : x 25 = .bool true := (hp ⟨25, .guard⟩ (by simp) rfl).2
          clear hp
          have hW := Hd.mk hS
          go_wp2_with fail
          refine (known_calls W).mono ?_
          rintro e w' ⟨hb, rfl⟩
          replace hW := Hd.mk (hW.out.step hb.out)
          go_wp2_with fail
          dsimp only [only]
          exact ⟨_, rfl, hW.out, rfl, fun j y hj h => h⟩
        · obtain rfl := Option.some.inj ho
          intro f x W hS hf hp
          have q25 : x 25 = .bool true := (hp ⟨25, .data⟩ (by simp) rfl).2
          have q26 : x 26 = .bool true := (hp ⟨26, .data⟩ (by simp) rfl).2
          clear hp
          have hW := Hd.mk hS
          have c0 := (b06.out.behind hS).cell
          have c1 := (b16.out.behind hS).cell
          go_wp2_with fail
          dsimp only [only]
          exact ⟨_, rfl, hW.out, rfl, fun j y hj h => h⟩
        · obtain rfl := Option.some.inj ho
          intro f x W hS hf hp
          have q27 : x 27 = .bool true := (hp ⟨27, .data⟩ (by simp) rfl).2
          clear hp
          have hW := Hd.mk hS
          have c0 := (b06.out.behind hS).cell
          have c1 := (b16.out.behind hS).cell
          go_wp2_with fail
          dsimp only [only]
          exact ⟨_, rfl, hW.out, rfl, fun j y hj h => h⟩
      · intro x W' hS hV
        have e28 : x 28 = .bool true := hV 28 (by decide)
        clear hV
        go_wp2_with fail
        go_ret
        exact ⟨e28 ▸ rfl, (hB6.out.step hS.out).out⟩
  · have hlb : decide ((l.length : Int) > 40) = true := by simp; omega
    go_wp2_with fail
    refine (known_calls _).mono ?_
    rintro e w2 ⟨hb2, rfl⟩
    go_wp2_with fail
    go_ret
    exact ⟨rfl, (hB1.out.step hb2.out).out⟩
end Go.Proofs.Yteokdllmandleaa.Arp
