/- The walks of package arp: Answer and Announce, and what the library does for them. -/
import Derived.Test.YteokdllmandleaaOpen
import Derived.Outline
import Derived.Deep.DeepMust
namespace Go.Proofs.Yteokdllmandleaa.Arp
set_option linter.unusedVariables false
set_option linter.unusedSimpArgs false
open Go.RowKit

theorem wf_byte (u : UInt8) : (Lit.int .u8 (u.toNat : Int)).wf = true := by
  have := u.toNat_lt
  simp [Lit.wf, IntKind.min, IntKind.max, IntKind.signed, IntKind.bits]; omega
theorem leaf_byte (w : World) (u : UInt8) : Leaf.ok w (.int .u8) (.int .u8 (u.toNat : Int)) := ⟨_, rfl, wf_byte u⟩
theorem Leaves.cons {w : World} {l : Leaf} {ls : List Leaf} {v : Value} {vs : List Value} (h : l.ok w v) (hs : Leaves w ls vs) : Leaves w (l :: ls) (v :: vs) := (Leaves.one h).append hs
theorem leaves_bytes (w : World) : ∀ (us : List UInt8), Leaves w (List.replicate us.length (.int .u8)) (us.map fun u => .int .u8 (u.toNat : Int))
  | [] => Leaves.nil w
  | u :: us => Leaves.cons (leaf_byte w u) (leaves_bytes w us)
/-- Two addresses of four bytes are the same. -/
def eqIP (x y : Nat → UInt8) : Bool := decide (x 0 = y 0 ∧ x 1 = y 1 ∧ x 2 = y 2 ∧ x 3 = y 3)
theorem ip_leaves : leaves Try.prog 3 24 = some (List.replicate 4 (.int .u8)) := by kernel_rfl
theorem ip_type : Try.prog.keyTypeAt 3 24 = true := by kernel_rfl
theorem ip_formed (x : Nat → UInt8) : (Value.agg #[.int .u8 ((x 0).toNat : Int), .int .u8 ((x 1).toNat : Int), .int .u8 ((x 2).toNat : Int), .int .u8 ((x 3).toNat : Int)]).formed Try.prog 24 = true := by kernel_rfl
theorem toNat_eq (a b : UInt8) : ((a.toNat : Int) = (b.toNat : Int)) ↔ a = b := by
  constructor
  · intro h; exact UInt8.toNat_inj.mp (by omega)
  · rintro rfl; rfl
theorem ip_eq (x y : Nat → UInt8) (w : World) : (Op.equalIn 10000 24 (.agg #[.int .u8 ((x 0).toNat : Int), .int .u8 ((x 1).toNat : Int), .int .u8 ((x 2).toNat : Int), .int .u8 ((x 3).toNat : Int)]) (.agg #[.int .u8 ((y 0).toNat : Int), .int .u8 ((y 1).toNat : Int), .int .u8 ((y 2).toNat : Int), .int .u8 ((y 3).toNat : Int)])).run Try.prog w = .ok (eqIP x y) w := by
  refine eq_flat (w := w) 3 _ _ ip_leaves ip_type (by omega) _ _ (ip_formed x) (ip_formed y) (leaves_bytes w [x 0, x 1, x 2, x 3]) (leaves_bytes w [y 0, y 1, y 2, y 3]) _ ?_ w
  unfold eqIP
  simp [litOf, toNat_eq]

set_option maxHeartbeats 400000 in
theorem pred_calls (op : Int) (fr tm fi ip x : Nat → UInt8) (b : Nat) (w : World) (hb : Blk w b #[.int .u16 op, .int .u8 ((fr 0).toNat : Int), .int .u8 ((fr 1).toNat : Int), .int .u8 ((fr 2).toNat : Int), .int .u8 ((fr 3).toNat : Int), .int .u8 ((fr 4).toNat : Int), .int .u8 ((fr 5).toNat : Int), .int .u8 ((tm 0).toNat : Int), .int .u8 ((tm 1).toNat : Int), .int .u8 ((tm 2).toNat : Int), .int .u8 ((tm 3).toNat : Int), .int .u8 ((tm 4).toNat : Int), .int .u8 ((tm 5).toNat : Int), .int .u8 ((fi 0).toNat : Int), .int .u8 ((fi 1).toNat : Int), .int .u8 ((fi 2).toNat : Int), .int .u8 ((fi 3).toNat : Int), .int .u8 ((ip 0).toNat : Int), .int .u8 ((ip 1).toNat : Int), .int .u8 ((ip 2).toNat : Int), .int .u8 ((ip 3).toNat : Int)] 26) :
    Calls Try.prog 18 #[.agg #[.int .u8 ((x 0).toNat : Int), .int .u8 ((x 1).toNat : Int), .int .u8 ((x 2).toNat : Int), .int .u8 ((x 3).toNat : Int)], .pointer (some ⟨b, 0, none⟩)] w fun e w' => e = .returned (.bool (eqIP x ip && !eqIP x fi)) ∧ Behind w w' := by
  have hc := hb.cell
  have hlt := hb.lt
  have e1 := ip_eq x ip
  have e2 := ip_eq x fi
  generalize eqIP x ip = r1 at e1
  generalize eqIP x fi = r2 at e2
  clear hb
  cases r1
  all_goals
    go_enter Try.func18, Try.ntmps18
    go_wp2
    go_ret
    exact ⟨by first | rfl | exact ret_bool (by simp), (Behind.refl w).alloc _⟩

/-- Addresses in a row. -/
def encIPs (l : List (Nat → UInt8)) : List Value := l.flatMap fun x => [.int .u8 ((x 0).toNat : Int), .int .u8 ((x 1).toNat : Int), .int .u8 ((x 2).toNat : Int), .int .u8 ((x 3).toNat : Int)]
theorem encIPs_get (l : List (Nat → UInt8)) (i : Nat) (h : i < l.length) : (encIPs l)[i * 4]? = some (.int .u8 ((l[i] 0).toNat : Int)) ∧ (encIPs l)[i * 4 + 1]? = some (.int .u8 ((l[i] 1).toNat : Int)) ∧
    (encIPs l)[i * 4 + 2]? = some (.int .u8 ((l[i] 2).toNat : Int)) ∧ (encIPs l)[i * 4 + 3]? = some (.int .u8 ((l[i] 3).toNat : Int)) := by
  induction l generalizing i with
  | nil => simp at h
  | cons p l ih =>
    cases i with
    | zero => exact ⟨rfl, rfl, rfl, rfl⟩
    | succ i =>
      have h' : i < l.length := by simpa using h
      have := ih i h'
      rw [show (i + 1) * 4 = i * 4 + 4 by omega]
      exact this
theorem encIPs_length (l : List (Nat → UInt8)) : (encIPs l).length = l.length * 4 := by
  induction l with
  | nil => rfl
  | cons p l ih =>
    show (_ ++ encIPs l).length = _
    rw [List.length_append, ih]
    simp
    omega
theorem row4 {w : World} {A : Option Addr} {l : List (Nat → UInt8)} (hc : Cells w A (encIPs l)) (i : Nat) (h : i < l.length) : ∃ b o, A = some ⟨b, o, none⟩ ∧ w.cell? ⟨b, o + i * 4, none⟩ = some (.int .u8 ((l[i] 0).toNat : Int)) ∧
    w.cell? ⟨b, o + i * 4 + 1, none⟩ = some (.int .u8 ((l[i] 1).toNat : Int)) ∧ w.cell? ⟨b, o + i * 4 + 2, none⟩ = some (.int .u8 ((l[i] 2).toNat : Int)) ∧ w.cell? ⟨b, o + i * 4 + 3, none⟩ = some (.int .u8 ((l[i] 3).toNat : Int)) := by
  obtain ⟨h0, h1, h2, h3⟩ := encIPs_get l i h
  obtain ⟨b, o, e, hv⟩ := hc (by rw [encIPs_length]; omega)
  exact ⟨b, o, e, hv _ _ h0, by rw [Nat.add_assoc]; exact hv _ _ h1, by rw [Nat.add_assoc]; exact hv _ _ h2, by rw [Nat.add_assoc]; exact hv _ _ h3⟩

set_option maxHeartbeats 400000 in
theorem contains_calls (B : Nat) (p : (Nat → UInt8) → Bool) (A : Option Addr) (c : Nat) (l : List (Nat → UInt8)) (w w0 : World) (hw : Behind w0 w) (hc : Cells w A (encIPs l)) (hl : l.length ≤ 1000)
    (K : ∀ (x : Nat → UInt8) (W : World), Behind w0 W → Calls Try.prog 18 #[.agg #[.int .u8 ((x 0).toNat : Int), .int .u8 ((x 1).toNat : Int), .int .u8 ((x 2).toNat : Int), .int .u8 ((x 3).toNat : Int)], .pointer (some ⟨B, 0, none⟩)] W fun e w' => e = .returned (.bool (p x)) ∧ Behind W w') :
    Calls Try.prog 27 #[.slice A l.length c, .func (.func 18) #[] #[.pointer (some ⟨B, 0, none⟩)]] w fun e w' => ∃ j : Int, e = .returned (.int .i64 j) ∧ (0 ≤ j ↔ l.any p = true) ∧ Behind w w' := by
  replace hc := Hd.mk hc
  replace hw := Hd.mk hw
  have hB := Hd.mk (Behind.refl w)
  go_enter Try.func27, Try.ntmps27
  go_wp2
  go_loopg [8] (l.length + 1) (fun gq v8 w' => ∃ i : Nat, v8 = .int .i64 i ∧ i ≤ l.length ∧ l.length - i ≤ gq ∧ Hd ((l.take i).any p = false) ∧ Hd (Behind w w'))
  case atStart => exact ⟨0, rfl, by omega, by omega, ⟨rfl⟩, hB⟩
  case round =>
    obtain ⟨i, rfl, hi, hgq, hno, hB'⟩ := hrel
    by_cases hlt : i < l.length
    · have hltb : decide (i < l.length) = true := decide_eq_true hlt
      obtain ⟨b, o, rfl, h0, h1, h2, h3⟩ := row4 (hc.out.behind hB'.out) i hlt
      have K' := K l[i] wr (hw.out.step hB'.out.out)
      have hs := Hd.mk (show (l.take (i + 1)).any p = ((l.take i).any p || p l[i]) from by
        rw [List.take_succ_eq_append_getElem hlt, List.any_append]; simp)
      have hany := Hd.mk (show p l[i] = true → l.any p = true from fun h => List.any_eq_true.mpr ⟨l[i], List.getElem_mem hlt, h⟩)
      generalize l[i] = x at h0 h1 h2 h3 K' hs hany
      generalize hpx : p x = r at K' hs hany
      clear hpx
      go_wp2_with fail
      refine K'.mono ?_
      rintro e w2 ⟨rfl, hb2⟩
      have hB2 := Hd.mk (hB'.out.step hb2.out)
      clear hb2 h0 h1 h2 h3 K'
      cases r with
      | true =>
        go_wp2_with fail
        go_ret
        exact ⟨_, rfl, ⟨fun _ => hany.out trivial, fun _ => by omega⟩, hB2.out⟩
      | false =>
        go_wp2_with fail
        go_roundg (l.length - (i + 1))
        case measure => omega
        case rel => exact ⟨i + 1, by go_num, by omega, by omega, ⟨by rw [hs.out, hno.out]; rfl⟩, hB2⟩
    · have hltb : decide (i < l.length) = false := decide_eq_false hlt
      have hno' := Hd.mk (show l.any p = false from by
        have := hno.out
        rw [List.take_of_length_le (by omega)] at this
        exact this)
      go_wp2_with fail
      go_ret
      exact ⟨_, rfl, ⟨fun h => absurd h (by decide), fun h => absurd h (by rw [hno'.out]; decide)⟩, hB'.out⟩

set_option maxHeartbeats 400000 in
theorem containsf_calls (B : Nat) (p : (Nat → UInt8) → Bool) (A : Option Addr) (c : Nat) (l : List (Nat → UInt8)) (w w0 : World) (hw : Behind w0 w) (hc : Cells w A (encIPs l)) (hl : l.length ≤ 1000)
    (K : ∀ (x : Nat → UInt8) (W : World), Behind w0 W → Calls Try.prog 18 #[.agg #[.int .u8 ((x 0).toNat : Int), .int .u8 ((x 1).toNat : Int), .int .u8 ((x 2).toNat : Int), .int .u8 ((x 3).toNat : Int)], .pointer (some ⟨B, 0, none⟩)] W fun e w' => e = .returned (.bool (p x)) ∧ Behind W w') :
    Calls Try.prog 17 #[.slice A l.length c, .func (.func 18) #[] #[.pointer (some ⟨B, 0, none⟩)]] w fun e w' => e = .returned (.bool (l.any p)) ∧ Behind w w' := by
  have C := contains_calls B p A c l w w0 hw hc hl K
  clear K hc
  go_enter Try.func17, Try.ntmps17
  go_wp2_with fail
  refine C.mono ?_
  rintro e w2 ⟨j, rfl, hj, hb2⟩
  have e1 := Hd.mk (show decide (j ≥ 0) = l.any p from by rw [Bool.eq_iff_iff]; simpa using hj)
  clear hj
  go_wp2_with fail
  go_ret
  exact ⟨ret_bool e1.out, hb2⟩

/-- Whether a message is answered. -/
def answers (op : Int) (fi ip : Nat → UInt8) (mine : List (Nat → UInt8)) : Bool := op == 1 && mine.any (fun x => eqIP x ip && !eqIP x fi)

set_option maxHeartbeats 1000000 in
theorem answer_calls (op : Int) (fr tm fi ip own : Nat → UInt8) (A : Option Addr) (c : Nat) (l : List (Nat → UInt8)) (w : World) (hc : Cells w A (encIPs l)) (hl : l.length ≤ 1000) :
    Calls Try.prog 7 #[.agg #[.int .u16 op, .int .u8 ((fr 0).toNat : Int), .int .u8 ((fr 1).toNat : Int), .int .u8 ((fr 2).toNat : Int), .int .u8 ((fr 3).toNat : Int), .int .u8 ((fr 4).toNat : Int), .int .u8 ((fr 5).toNat : Int), .int .u8 ((tm 0).toNat : Int), .int .u8 ((tm 1).toNat : Int), .int .u8 ((tm 2).toNat : Int), .int .u8 ((tm 3).toNat : Int), .int .u8 ((tm 4).toNat : Int), .int .u8 ((tm 5).toNat : Int), .int .u8 ((fi 0).toNat : Int), .int .u8 ((fi 1).toNat : Int), .int .u8 ((fi 2).toNat : Int), .int .u8 ((fi 3).toNat : Int), .int .u8 ((ip 0).toNat : Int), .int .u8 ((ip 1).toNat : Int), .int .u8 ((ip 2).toNat : Int), .int .u8 ((ip 3).toNat : Int)], .agg #[.int .u8 ((own 0).toNat : Int), .int .u8 ((own 1).toNat : Int), .int .u8 ((own 2).toNat : Int), .int .u8 ((own 3).toNat : Int), .int .u8 ((own 4).toNat : Int), .int .u8 ((own 5).toNat : Int)], .slice A l.length c] w fun e w' => Behind w w' ∧
      ((answers op fi ip l = true ∧ e = .returned (.tuple #[.agg #[.int .u16 2, .int .u8 ((own 0).toNat : Int), .int .u8 ((own 1).toNat : Int), .int .u8 ((own 2).toNat : Int), .int .u8 ((own 3).toNat : Int), .int .u8 ((own 4).toNat : Int), .int .u8 ((own 5).toNat : Int), .int .u8 ((fr 0).toNat : Int), .int .u8 ((fr 1).toNat : Int), .int .u8 ((fr 2).toNat : Int), .int .u8 ((fr 3).toNat : Int), .int .u8 ((fr 4).toNat : Int), .int .u8 ((fr 5).toNat : Int), .int .u8 ((ip 0).toNat : Int), .int .u8 ((ip 1).toNat : Int), .int .u8 ((ip 2).toNat : Int), .int .u8 ((ip 3).toNat : Int), .int .u8 ((fi 0).toNat : Int), .int .u8 ((fi 1).toNat : Int), .int .u8 ((fi 2).toNat : Int), .int .u8 ((fi 3).toNat : Int)], .bool true])) ∨ (answers op fi ip l = false ∧ e = .returned (.tuple #[.agg #[.int .u16 0, .int .u8 0, .int .u8 0, .int .u8 0, .int .u8 0, .int .u8 0, .int .u8 0, .int .u8 0, .int .u8 0, .int .u8 0, .int .u8 0, .int .u8 0, .int .u8 0, .int .u8 0, .int .u8 0, .int .u8 0, .int .u8 0, .int .u8 0, .int .u8 0, .int .u8 0, .int .u8 0], .bool false]))) := by
  have hans := Hd.mk (show answers op fi ip l = (op == 1 && l.any (fun x => eqIP x ip && !eqIP x fi)) from rfl)
  generalize answers op fi ip l = an at hans
  have C := fun W (hW : Behind w W) (hb : Blk W w.heap.size #[.int .u16 op, .int .u8 ((fr 0).toNat : Int), .int .u8 ((fr 1).toNat : Int), .int .u8 ((fr 2).toNat : Int), .int .u8 ((fr 3).toNat : Int), .int .u8 ((fr 4).toNat : Int), .int .u8 ((fr 5).toNat : Int), .int .u8 ((tm 0).toNat : Int), .int .u8 ((tm 1).toNat : Int), .int .u8 ((tm 2).toNat : Int), .int .u8 ((tm 3).toNat : Int), .int .u8 ((tm 4).toNat : Int), .int .u8 ((tm 5).toNat : Int), .int .u8 ((fi 0).toNat : Int), .int .u8 ((fi 1).toNat : Int), .int .u8 ((fi 2).toNat : Int), .int .u8 ((fi 3).toNat : Int), .int .u8 ((ip 0).toNat : Int), .int .u8 ((ip 1).toNat : Int), .int .u8 ((ip 2).toNat : Int), .int .u8 ((ip 3).toNat : Int)] 26) => containsf_calls w.heap.size (fun x => eqIP x ip && !eqIP x fi) A c l W W (Behind.refl W) (hc.behind hW) hl
    (fun x W' hW' => pred_calls op fr tm fi ip x w.heap.size W' (hb.behind hW'))
  generalize (l.any fun x => eqIP x ip && !eqIP x fi) = r at C hans
  replace hc := Hd.mk hc
  have hb0 := Hd.mk (Blk.new w #[.int .u16 op, .int .u8 ((fr 0).toNat : Int), .int .u8 ((fr 1).toNat : Int), .int .u8 ((fr 2).toNat : Int), .int .u8 ((fr 3).toNat : Int), .int .u8 ((fr 4).toNat : Int), .int .u8 ((fr 5).toNat : Int), .int .u8 ((tm 0).toNat : Int), .int .u8 ((tm 1).toNat : Int), .int .u8 ((tm 2).toNat : Int), .int .u8 ((tm 3).toNat : Int), .int .u8 ((tm 4).toNat : Int), .int .u8 ((tm 5).toNat : Int), .int .u8 ((fi 0).toNat : Int), .int .u8 ((fi 1).toNat : Int), .int .u8 ((fi 2).toNat : Int), .int .u8 ((fi 3).toNat : Int), .int .u8 ((ip 0).toNat : Int), .int .u8 ((ip 1).toNat : Int), .int .u8 ((ip 2).toNat : Int), .int .u8 ((ip 3).toNat : Int)] 26)
  have hlt0 : w.heap.size < w.heap.size + 1 := by omega
  go_enter Try.func7, Try.ntmps7
  go_wp2_with fail
  refine (C _ ((((Behind.refl w).alloc _).alloc _).alloc _) ((hb0.out.alloc _).alloc _)).mono ?_
  rintro e w2 ⟨rfl, hb2⟩
  have b0 : Blk w2 w.heap.size #[.int .u16 op, .int .u8 ((fr 0).toNat : Int), .int .u8 ((fr 1).toNat : Int), .int .u8 ((fr 2).toNat : Int), .int .u8 ((fr 3).toNat : Int), .int .u8 ((fr 4).toNat : Int), .int .u8 ((fr 5).toNat : Int), .int .u8 ((tm 0).toNat : Int), .int .u8 ((tm 1).toNat : Int), .int .u8 ((tm 2).toNat : Int), .int .u8 ((tm 3).toNat : Int), .int .u8 ((tm 4).toNat : Int), .int .u8 ((tm 5).toNat : Int), .int .u8 ((fi 0).toNat : Int), .int .u8 ((fi 1).toNat : Int), .int .u8 ((fi 2).toNat : Int), .int .u8 ((fi 3).toNat : Int), .int .u8 ((ip 0).toNat : Int), .int .u8 ((ip 1).toNat : Int), .int .u8 ((ip 2).toNat : Int), .int .u8 ((ip 3).toNat : Int)] 26 := ((hb0.out.alloc _).alloc _).behind hb2
  have b1 : Blk w2 (w.heap.size + 1) #[.int .u8 ((own 0).toNat : Int), .int .u8 ((own 1).toNat : Int), .int .u8 ((own 2).toNat : Int), .int .u8 ((own 3).toNat : Int), .int .u8 ((own 4).toNat : Int), .int .u8 ((own 5).toNat : Int)] 23 := ((Blk.newAt _ _ _ _ (by simp)).alloc _).behind hb2
  have b2 : Blk w2 (w.heap.size + 2) #[.int .u16 0, .int .u8 0, .int .u8 0, .int .u8 0, .int .u8 0, .int .u8 0, .int .u8 0, .int .u8 0, .int .u8 0, .int .u8 0, .int .u8 0, .int .u8 0, .int .u8 0, .int .u8 0, .int .u8 0, .int .u8 0, .int .u8 0, .int .u8 0, .int .u8 0, .int .u8 0, .int .u8 0] 26 := (Blk.newAt _ _ _ _ (by simp)).behind hb2
  have hB := Hd.mk ((((((Behind.refl w).alloc _).alloc _).alloc _).step hb2.out : Behind w w2))
  have c0 := b0.cell
  have c1 := b1.cell
  have s2 := b2.lt
  have hle : w.heap.size ≤ w.heap.size + 2 := by omega
  replace b2 := Hd.mk b2
  clear b0 b1 hb2 C hb0
  cases r with
  | true =>
    by_cases h1 : op = 1
    · have h1b : (op != 1) = false := by rw [h1]; rfl
      have h1c : (op == 1) = true := by rw [h1]; rfl
      rw [h1c] at hans
      clear h1 h1c
      go_wp2_with ((with_reducible refine gate_store (ty := 26) rfl ?_); go_must (refine wpList_store_whole rfl _ _ _ rfl (w.heap.size + 2) #[.int .u16 0, .int .u8 0, .int .u8 0, .int .u8 0, .int .u8 0, .int .u8 0, .int .u8 0, .int .u8 0, .int .u8 0, .int .u8 0, .int .u8 0, .int .u8 0, .int .u8 0, .int .u8 0, .int .u8 0, .int .u8 0, .int .u8 0, .int .u8 0, .int .u8 0, .int .u8 0, .int .u8 0] _ _ rfl rfl b2.out ?_ ?_ ?_ ?_; (rfl); (kernel_rfl); (simp [Value.oneCell']); intro w3 hb3 hg3; have hB3 := Hd.mk (hB.out.grown hg3 hle); clear hg3; replace hb3 := Hd.mk hb3))
      exact bodyPost_ret (v := .tuple #[.agg #[.int .u16 2, .int .u8 ((own 0).toNat : Int), .int .u8 ((own 1).toNat : Int), .int .u8 ((own 2).toNat : Int), .int .u8 ((own 3).toNat : Int), .int .u8 ((own 4).toNat : Int), .int .u8 ((own 5).toNat : Int), .int .u8 ((fr 0).toNat : Int), .int .u8 ((fr 1).toNat : Int), .int .u8 ((fr 2).toNat : Int), .int .u8 ((fr 3).toNat : Int), .int .u8 ((fr 4).toNat : Int), .int .u8 ((fr 5).toNat : Int), .int .u8 ((ip 0).toNat : Int), .int .u8 ((ip 1).toNat : Int), .int .u8 ((ip 2).toNat : Int), .int .u8 ((ip 3).toNat : Int), .int .u8 ((fi 0).toNat : Int), .int .u8 ((fi 1).toNat : Int), .int .u8 ((fi 2).toNat : Int), .int .u8 ((fi 3).toNat : Int)], .bool true]) (results_row_slot _ _ _ _ _ _ _ _ _ _ _ rfl rfl rfl hb3.out rfl rfl rfl) rfl ⟨hB3.out, .inl ⟨hans.out.trans rfl, rfl⟩⟩
    · have h1b : (op != 1) = true := by simpa using h1
      have h1c : (op == 1) = false := by simpa using h1
      rw [h1c] at hans
      clear h1 h1c
      go_wp2_with ((with_reducible refine gate_store (ty := 26) rfl ?_); go_must (refine wpList_store_whole rfl _ _ _ rfl (w.heap.size + 2) #[.int .u16 0, .int .u8 0, .int .u8 0, .int .u8 0, .int .u8 0, .int .u8 0, .int .u8 0, .int .u8 0, .int .u8 0, .int .u8 0, .int .u8 0, .int .u8 0, .int .u8 0, .int .u8 0, .int .u8 0, .int .u8 0, .int .u8 0, .int .u8 0, .int .u8 0, .int .u8 0, .int .u8 0] _ _ rfl rfl b2.out ?_ ?_ ?_ ?_; (rfl); (kernel_rfl); (simp [Value.oneCell']); intro w3 hb3 hg3; have hB3 := Hd.mk (hB.out.grown hg3 hle); clear hg3; replace hb3 := Hd.mk hb3))
      exact bodyPost_ret (v := .tuple #[.agg #[.int .u16 0, .int .u8 0, .int .u8 0, .int .u8 0, .int .u8 0, .int .u8 0, .int .u8 0, .int .u8 0, .int .u8 0, .int .u8 0, .int .u8 0, .int .u8 0, .int .u8 0, .int .u8 0, .int .u8 0, .int .u8 0, .int .u8 0, .int .u8 0, .int .u8 0, .int .u8 0, .int .u8 0], .bool false]) (results_row_slot _ _ _ _ _ _ _ _ _ _ _ rfl rfl rfl hb3.out rfl rfl rfl) rfl ⟨hB3.out, .inr ⟨hans.out.trans rfl, rfl⟩⟩
  | false =>
    rw [Bool.and_false] at hans
    go_wp2_with ((with_reducible refine gate_store (ty := 26) rfl ?_); go_must (refine wpList_store_whole rfl _ _ _ rfl (w.heap.size + 2) #[.int .u16 0, .int .u8 0, .int .u8 0, .int .u8 0, .int .u8 0, .int .u8 0, .int .u8 0, .int .u8 0, .int .u8 0, .int .u8 0, .int .u8 0, .int .u8 0, .int .u8 0, .int .u8 0, .int .u8 0, .int .u8 0, .int .u8 0, .int .u8 0, .int .u8 0, .int .u8 0, .int .u8 0] _ _ rfl rfl b2.out ?_ ?_ ?_ ?_; (rfl); (kernel_rfl); (simp [Value.oneCell']); intro w3 hb3 hg3; have hB3 := Hd.mk (hB.out.grown hg3 hle); clear hg3; replace hb3 := Hd.mk hb3))
    all_goals exact bodyPost_ret (v := .tuple #[.agg #[.int .u16 0, .int .u8 0, .int .u8 0, .int .u8 0, .int .u8 0, .int .u8 0, .int .u8 0, .int .u8 0, .int .u8 0, .int .u8 0, .int .u8 0, .int .u8 0, .int .u8 0, .int .u8 0, .int .u8 0, .int .u8 0, .int .u8 0, .int .u8 0, .int .u8 0, .int .u8 0, .int .u8 0], .bool false]) (results_row_slot _ _ _ _ _ _ _ _ _ _ _ rfl rfl rfl hb3.out rfl rfl rfl) rfl ⟨hB3.out, .inr ⟨hans.out.trans rfl, rfl⟩⟩

theorem answers_take (op : Int) (fi ip : Nat → UInt8) (l : List (Nat → UInt8)) (i : Nat) (h : i < l.length) :
    answers op fi ip (l.take (i + 1)) = (answers op fi ip (l.take i) || (op == 1 && eqIP l[i] ip && !eqIP fi ip)) := by
  unfold answers
  rw [List.take_succ_eq_append_getElem h, List.any_append]
  have e : ∀ x : Nat → UInt8, (eqIP x ip && !eqIP x fi) = (eqIP x ip && !eqIP fi ip) := by
    intro x
    unfold eqIP
    rw [Bool.eq_iff_iff]
    simp only [Bool.and_eq_true, decide_eq_true_eq, Bool.not_eq_true', decide_eq_false_iff_not]
    constructor
    · rintro ⟨⟨h0, h1, h2, h3⟩, h⟩
      exact ⟨⟨h0, h1, h2, h3⟩, fun ⟨k0, k1, k2, k3⟩ => h ⟨by rw [h0, k0], by rw [h1, k1], by rw [h2, k2], by rw [h3, k3]⟩⟩
    · rintro ⟨⟨h0, h1, h2, h3⟩, h⟩
      exact ⟨⟨h0, h1, h2, h3⟩, fun ⟨k0, k1, k2, k3⟩ => h ⟨by rw [← k0, h0], by rw [← k1, h1], by rw [← k2, h2], by rw [← k3, h3]⟩⟩
  simp only [e, List.any_cons, List.any_nil, Bool.or_false]
  cases (op == 1) <;> simp
theorem answers_mono (op : Int) (fi ip : Nat → UInt8) (l : List (Nat → UInt8)) (i : Nat) (h : answers op fi ip (l.take i) = true) : answers op fi ip l = true := by
  unfold answers at *
  simp only [Bool.and_eq_true, List.any_eq_true] at *
  obtain ⟨h1, x, hx, h2⟩ := h
  exact ⟨h1, x, List.mem_of_mem_take hx, h2⟩
theorem eqIP_get {x y : Nat → UInt8} (h : eqIP x y = true) : x 0 = y 0 ∧ x 1 = y 1 ∧ x 2 = y 2 ∧ x 3 = y 3 := of_decide_eq_true h

set_option maxHeartbeats 1000000 in
theorem ref_answer_calls (op : Int) (fr tm fi ip own : Nat → UInt8) (A : Option Addr) (c : Nat) (l : List (Nat → UInt8)) (w : World) (hc : Cells w A (encIPs l)) (hl : l.length ≤ 1000) :
    Calls Try.prog 8 #[.agg #[.int .u16 op, .int .u8 ((fr 0).toNat : Int), .int .u8 ((fr 1).toNat : Int), .int .u8 ((fr 2).toNat : Int), .int .u8 ((fr 3).toNat : Int), .int .u8 ((fr 4).toNat : Int), .int .u8 ((fr 5).toNat : Int), .int .u8 ((tm 0).toNat : Int), .int .u8 ((tm 1).toNat : Int), .int .u8 ((tm 2).toNat : Int), .int .u8 ((tm 3).toNat : Int), .int .u8 ((tm 4).toNat : Int), .int .u8 ((tm 5).toNat : Int), .int .u8 ((fi 0).toNat : Int), .int .u8 ((fi 1).toNat : Int), .int .u8 ((fi 2).toNat : Int), .int .u8 ((fi 3).toNat : Int), .int .u8 ((ip 0).toNat : Int), .int .u8 ((ip 1).toNat : Int), .int .u8 ((ip 2).toNat : Int), .int .u8 ((ip 3).toNat : Int)], .agg #[.int .u8 ((own 0).toNat : Int), .int .u8 ((own 1).toNat : Int), .int .u8 ((own 2).toNat : Int), .int .u8 ((own 3).toNat : Int), .int .u8 ((own 4).toNat : Int), .int .u8 ((own 5).toNat : Int)], .slice A l.length c] w fun e w' => Behind w w' ∧
      ((answers op fi ip l = true ∧ e = .returned (.tuple #[.agg #[.int .u16 2, .int .u8 ((own 0).toNat : Int), .int .u8 ((own 1).toNat : Int), .int .u8 ((own 2).toNat : Int), .int .u8 ((own 3).toNat : Int), .int .u8 ((own 4).toNat : Int), .int .u8 ((own 5).toNat : Int), .int .u8 ((fr 0).toNat : Int), .int .u8 ((fr 1).toNat : Int), .int .u8 ((fr 2).toNat : Int), .int .u8 ((fr 3).toNat : Int), .int .u8 ((fr 4).toNat : Int), .int .u8 ((fr 5).toNat : Int), .int .u8 ((ip 0).toNat : Int), .int .u8 ((ip 1).toNat : Int), .int .u8 ((ip 2).toNat : Int), .int .u8 ((ip 3).toNat : Int), .int .u8 ((fi 0).toNat : Int), .int .u8 ((fi 1).toNat : Int), .int .u8 ((fi 2).toNat : Int), .int .u8 ((fi 3).toNat : Int)], .bool true])) ∨ (answers op fi ip l = false ∧ e = .returned (.tuple #[.agg #[.int .u16 0, .int .u8 0, .int .u8 0, .int .u8 0, .int .u8 0, .int .u8 0, .int .u8 0, .int .u8 0, .int .u8 0, .int .u8 0, .int .u8 0, .int .u8 0, .int .u8 0, .int .u8 0, .int .u8 0, .int .u8 0, .int .u8 0, .int .u8 0, .int .u8 0, .int .u8 0, .int .u8 0], .bool false]))) := by
  have hans := Hd.mk (answers_mono op fi ip l)
  have hall := Hd.mk (show answers op fi ip (l.take l.length) = answers op fi ip l by rw [List.take_length])
  have hstep := Hd.mk (answers_take op fi ip l)
  have h00 := Hd.mk (show answers op fi ip (l.take 0) = false by simp [answers])
  have b0 := ((Blk.new w #[.int .u16 op, .int .u8 ((fr 0).toNat : Int), .int .u8 ((fr 1).toNat : Int), .int .u8 ((fr 2).toNat : Int), .int .u8 ((fr 3).toNat : Int), .int .u8 ((fr 4).toNat : Int), .int .u8 ((fr 5).toNat : Int), .int .u8 ((tm 0).toNat : Int), .int .u8 ((tm 1).toNat : Int), .int .u8 ((tm 2).toNat : Int), .int .u8 ((tm 3).toNat : Int), .int .u8 ((tm 4).toNat : Int), .int .u8 ((tm 5).toNat : Int), .int .u8 ((fi 0).toNat : Int), .int .u8 ((fi 1).toNat : Int), .int .u8 ((fi 2).toNat : Int), .int .u8 ((fi 3).toNat : Int), .int .u8 ((ip 0).toNat : Int), .int .u8 ((ip 1).toNat : Int), .int .u8 ((ip 2).toNat : Int), .int .u8 ((ip 3).toNat : Int)] 26).alloc (.cells #[.int .u8 ((own 0).toNat : Int), .int .u8 ((own 1).toNat : Int), .int .u8 ((own 2).toNat : Int), .int .u8 ((own 3).toNat : Int), .int .u8 ((own 4).toNat : Int), .int .u8 ((own 5).toNat : Int)] 23)).alloc (.cells #[.int .u16 0, .int .u8 0, .int .u8 0, .int .u8 0, .int .u8 0, .int .u8 0, .int .u8 0, .int .u8 0, .int .u8 0, .int .u8 0, .int .u8 0, .int .u8 0, .int .u8 0, .int .u8 0, .int .u8 0, .int .u8 0, .int .u8 0, .int .u8 0, .int .u8 0, .int .u8 0, .int .u8 0] 26)
  have b1 := (Blk.newAt (w.alloc (.cells #[.int .u16 op, .int .u8 ((fr 0).toNat : Int), .int .u8 ((fr 1).toNat : Int), .int .u8 ((fr 2).toNat : Int), .int .u8 ((fr 3).toNat : Int), .int .u8 ((fr 4).toNat : Int), .int .u8 ((fr 5).toNat : Int), .int .u8 ((tm 0).toNat : Int), .int .u8 ((tm 1).toNat : Int), .int .u8 ((tm 2).toNat : Int), .int .u8 ((tm 3).toNat : Int), .int .u8 ((tm 4).toNat : Int), .int .u8 ((tm 5).toNat : Int), .int .u8 ((fi 0).toNat : Int), .int .u8 ((fi 1).toNat : Int), .int .u8 ((fi 2).toNat : Int), .int .u8 ((fi 3).toNat : Int), .int .u8 ((ip 0).toNat : Int), .int .u8 ((ip 1).toNat : Int), .int .u8 ((ip 2).toNat : Int), .int .u8 ((ip 3).toNat : Int)] 26)) (w.heap.size + 1) #[.int .u8 ((own 0).toNat : Int), .int .u8 ((own 1).toNat : Int), .int .u8 ((own 2).toNat : Int), .int .u8 ((own 3).toNat : Int), .int .u8 ((own 4).toNat : Int), .int .u8 ((own 5).toNat : Int)] 23 (by simp)).alloc (.cells #[.int .u16 0, .int .u8 0, .int .u8 0, .int .u8 0, .int .u8 0, .int .u8 0, .int .u8 0, .int .u8 0, .int .u8 0, .int .u8 0, .int .u8 0, .int .u8 0, .int .u8 0, .int .u8 0, .int .u8 0, .int .u8 0, .int .u8 0, .int .u8 0, .int .u8 0, .int .u8 0, .int .u8 0] 26)
  have b2 := Blk.newAt ((w.alloc (.cells #[.int .u16 op, .int .u8 ((fr 0).toNat : Int), .int .u8 ((fr 1).toNat : Int), .int .u8 ((fr 2).toNat : Int), .int .u8 ((fr 3).toNat : Int), .int .u8 ((fr 4).toNat : Int), .int .u8 ((fr 5).toNat : Int), .int .u8 ((tm 0).toNat : Int), .int .u8 ((tm 1).toNat : Int), .int .u8 ((tm 2).toNat : Int), .int .u8 ((tm 3).toNat : Int), .int .u8 ((tm 4).toNat : Int), .int .u8 ((tm 5).toNat : Int), .int .u8 ((fi 0).toNat : Int), .int .u8 ((fi 1).toNat : Int), .int .u8 ((fi 2).toNat : Int), .int .u8 ((fi 3).toNat : Int), .int .u8 ((ip 0).toNat : Int), .int .u8 ((ip 1).toNat : Int), .int .u8 ((ip 2).toNat : Int), .int .u8 ((ip 3).toNat : Int)] 26)).alloc (.cells #[.int .u8 ((own 0).toNat : Int), .int .u8 ((own 1).toNat : Int), .int .u8 ((own 2).toNat : Int), .int .u8 ((own 3).toNat : Int), .int .u8 ((own 4).toNat : Int), .int .u8 ((own 5).toNat : Int)] 23)) (w.heap.size + 2) #[.int .u16 0, .int .u8 0, .int .u8 0, .int .u8 0, .int .u8 0, .int .u8 0, .int .u8 0, .int .u8 0, .int .u8 0, .int .u8 0, .int .u8 0, .int .u8 0, .int .u8 0, .int .u8 0, .int .u8 0, .int .u8 0, .int .u8 0, .int .u8 0, .int .u8 0, .int .u8 0, .int .u8 0] 26 (by simp)
  have hB0 := (((Behind.refl w).alloc (.cells #[.int .u16 op, .int .u8 ((fr 0).toNat : Int), .int .u8 ((fr 1).toNat : Int), .int .u8 ((fr 2).toNat : Int), .int .u8 ((fr 3).toNat : Int), .int .u8 ((fr 4).toNat : Int), .int .u8 ((fr 5).toNat : Int), .int .u8 ((tm 0).toNat : Int), .int .u8 ((tm 1).toNat : Int), .int .u8 ((tm 2).toNat : Int), .int .u8 ((tm 3).toNat : Int), .int .u8 ((tm 4).toNat : Int), .int .u8 ((tm 5).toNat : Int), .int .u8 ((fi 0).toNat : Int), .int .u8 ((fi 1).toNat : Int), .int .u8 ((fi 2).toNat : Int), .int .u8 ((fi 3).toNat : Int), .int .u8 ((ip 0).toNat : Int), .int .u8 ((ip 1).toNat : Int), .int .u8 ((ip 2).toNat : Int), .int .u8 ((ip 3).toNat : Int)] 26)).alloc (.cells #[.int .u8 ((own 0).toNat : Int), .int .u8 ((own 1).toNat : Int), .int .u8 ((own 2).toNat : Int), .int .u8 ((own 3).toNat : Int), .int .u8 ((own 4).toNat : Int), .int .u8 ((own 5).toNat : Int)] 23)).alloc (.cells #[.int .u16 0, .int .u8 0, .int .u8 0, .int .u8 0, .int .u8 0, .int .u8 0, .int .u8 0, .int .u8 0, .int .u8 0, .int .u8 0, .int .u8 0, .int .u8 0, .int .u8 0, .int .u8 0, .int .u8 0, .int .u8 0, .int .u8 0, .int .u8 0, .int .u8 0, .int .u8 0, .int .u8 0] 26)
  have hlt0 : w.heap.size < w.heap.size + 1 := by omega
  have hle : w.heap.size ≤ w.heap.size + 2 := by omega
  have e2 := ip_eq fi ip
  go_enter Try.func8, Try.ntmps8
  go_wp2_with fail
  have hc1 := hc.behind hB0
  clear hc hlt0
  generalize hw1 : ((w.alloc (.cells #[.int .u16 op, .int .u8 ((fr 0).toNat : Int), .int .u8 ((fr 1).toNat : Int), .int .u8 ((fr 2).toNat : Int), .int .u8 ((fr 3).toNat : Int), .int .u8 ((fr 4).toNat : Int), .int .u8 ((fr 5).toNat : Int), .int .u8 ((tm 0).toNat : Int), .int .u8 ((tm 1).toNat : Int), .int .u8 ((tm 2).toNat : Int), .int .u8 ((tm 3).toNat : Int), .int .u8 ((tm 4).toNat : Int), .int .u8 ((tm 5).toNat : Int), .int .u8 ((fi 0).toNat : Int), .int .u8 ((fi 1).toNat : Int), .int .u8 ((fi 2).toNat : Int), .int .u8 ((fi 3).toNat : Int), .int .u8 ((ip 0).toNat : Int), .int .u8 ((ip 1).toNat : Int), .int .u8 ((ip 2).toNat : Int), .int .u8 ((ip 3).toNat : Int)] 26)).alloc (.cells #[.int .u8 ((own 0).toNat : Int), .int .u8 ((own 1).toNat : Int), .int .u8 ((own 2).toNat : Int), .int .u8 ((own 3).toNat : Int), .int .u8 ((own 4).toNat : Int), .int .u8 ((own 5).toNat : Int)] 23)).alloc (.cells #[.int .u16 0, .int .u8 0, .int .u8 0, .int .u8 0, .int .u8 0, .int .u8 0, .int .u8 0, .int .u8 0, .int .u8 0, .int .u8 0, .int .u8 0, .int .u8 0, .int .u8 0, .int .u8 0, .int .u8 0, .int .u8 0, .int .u8 0, .int .u8 0, .int .u8 0, .int .u8 0, .int .u8 0] 26) = w1 at *
  replace b0 := Hd.mk b0
  replace b1 := Hd.mk b1
  replace b2 := Hd.mk b2
  replace hB0 := Hd.mk hB0
  replace hc1 := Hd.mk hc1
  have hB1 := Hd.mk (Behind.refl w1)
  go_loopg [8] (l.length + 1) (fun gq v8 w' => ∃ i : Nat, v8 = .int .i64 i ∧ i ≤ l.length ∧ l.length - i ≤ gq ∧ Hd (answers op fi ip (l.take i) = false) ∧ Hd (Behind w1 w'))
  case atStart => exact ⟨0, rfl, by omega, by omega, h00, hB1⟩
  case round =>
    obtain ⟨i, rfl, hi, hgq, hno, hB'⟩ := hrel
    by_cases hlt : i < l.length
    · have hltb : decide (i < l.length) = true := decide_eq_true hlt
      obtain ⟨b, o, rfl, h0, h1, h2, h3⟩ := row4 (hc1.out.behind hB'.out) i hlt
      have hs := Hd.mk (hstep.out i hlt)
      have e1 := ip_eq l[i] ip
      have hg1 := Hd.mk (@eqIP_get l[i] ip)
      generalize l[i] = x at h0 h1 h2 h3 hs e1 hg1
      generalize eqIP x ip = r1 at hs e1 hg1
      generalize eqIP fi ip = r2 at hs e2
      have c0 := (b0.out.behind hB'.out).cell
      have c1 := (b1.out.behind hB'.out).cell
      have l2 := (b2.out.behind hB'.out).lt
      by_cases hop : op = 1
      · have h1b : (op == 1) = true := by rw [hop]; rfl
        rw [h1b] at hs
        clear hop
        cases r1 with
        | false =>
          go_wp2_with fail
          go_quiet (fail)
          go_wp2_with fail
          go_roundg (l.length - (i + 1))
          case measure => omega
          case rel => exact ⟨i + 1, by go_num, by omega, by omega, ⟨by rw [hs.out, hno.out]; rfl⟩, ⟨hB'.out.drewN _⟩⟩
        | true =>
          cases r2 with
          | true =>
            go_wp2_with fail
            go_quiet (fail)
            go_wp2_with fail
            go_roundg (l.length - (i + 1))
            case measure => omega
            case rel => exact ⟨i + 1, by go_num, by omega, by omega, ⟨by rw [hs.out, hno.out]; rfl⟩, ⟨hB'.out.drewN _⟩⟩
          | false =>
            go_wp2_with fail
            go_quiet (fail)
            obtain ⟨k0, k1, k2, k3⟩ := hg1.out (by first | rfl | trivial)
            rw [k0] at h0
            rw [k1] at h1
            rw [k2] at h2
            rw [k3] at h3
            clear k0 k1 k2 k3 e1 e2 hg1 c0 c1
            go_wp2_with fail
            refine still_tail 10 (by kernel_rfl) (by kernel_rfl) ?_
            intro w4 hw4
            have hB4 := Hd.mk (show Behind w1 w4 from hw4 ▸ (hB'.out.drewN _).drew)
            have hB := Hd.mk (hB0.out.step hB4.out.out)
            have c0 := (b0.out.behind hB4.out).cell
            have c1 := (b1.out.behind hB4.out).cell
            have b2' := b2.out.behind hB4.out
            replace h0 := (show w4.cell? _ = wr.cell? _ from by rw [hw4]; rfl).trans h0
            replace h1 := (show w4.cell? _ = wr.cell? _ from by rw [hw4]; rfl).trans h1
            replace h2 := (show w4.cell? _ = wr.cell? _ from by rw [hw4]; rfl).trans h2
            replace h3 := (show w4.cell? _ = wr.cell? _ from by rw [hw4]; rfl).trans h3
            clear hw4
            simp only [List.take_succ_cons, List.take_zero, List.drop_succ_cons, List.drop_zero]
            repeat still_step
            refine wpStill_nil ?_
            go_wp2_with ((with_reducible refine gate_store (ty := 26) rfl ?_); go_must (refine wpList_store_whole rfl _ _ _ rfl (w.heap.size + 2) #[.int .u16 0, .int .u8 0, .int .u8 0, .int .u8 0, .int .u8 0, .int .u8 0, .int .u8 0, .int .u8 0, .int .u8 0, .int .u8 0, .int .u8 0, .int .u8 0, .int .u8 0, .int .u8 0, .int .u8 0, .int .u8 0, .int .u8 0, .int .u8 0, .int .u8 0, .int .u8 0, .int .u8 0] _ _ rfl rfl b2' ?_ ?_ ?_ ?_; (rfl); (kernel_rfl); (simp [Value.oneCell']); intro w3 hb3 hg3; have hB3 := Hd.mk (hB.out.grown hg3 hle); clear hg3; replace hb3 := Hd.mk hb3))
            exact bodyPost_ret (v := .tuple #[.agg #[.int .u16 2, .int .u8 ((own 0).toNat : Int), .int .u8 ((own 1).toNat : Int), .int .u8 ((own 2).toNat : Int), .int .u8 ((own 3).toNat : Int), .int .u8 ((own 4).toNat : Int), .int .u8 ((own 5).toNat : Int), .int .u8 ((fr 0).toNat : Int), .int .u8 ((fr 1).toNat : Int), .int .u8 ((fr 2).toNat : Int), .int .u8 ((fr 3).toNat : Int), .int .u8 ((fr 4).toNat : Int), .int .u8 ((fr 5).toNat : Int), .int .u8 ((ip 0).toNat : Int), .int .u8 ((ip 1).toNat : Int), .int .u8 ((ip 2).toNat : Int), .int .u8 ((ip 3).toNat : Int), .int .u8 ((fi 0).toNat : Int), .int .u8 ((fi 1).toNat : Int), .int .u8 ((fi 2).toNat : Int), .int .u8 ((fi 3).toNat : Int)], .bool true]) (results_row_slot _ _ _ _ _ _ _ _ _ _ _ rfl rfl rfl hb3.out rfl rfl rfl) rfl ⟨hB3.out, .inl ⟨hans.out (i + 1) (by rw [hs.out]; simp), rfl⟩⟩
      · have h1b : (op == 1) = false := by simpa using hop
        rw [h1b] at hs
        clear hop
        go_wp2_with fail
        go_quiet (fail)
        go_wp2_with fail
        go_roundg (l.length - (i + 1))
        case measure => omega
        case rel => exact ⟨i + 1, by go_num, by omega, by omega, ⟨by rw [hs.out, hno.out]; rfl⟩, ⟨hB'.out.drewN _⟩⟩
    · have hltb : decide (i < l.length) = false := decide_eq_false hlt
      have b2' := b2.out.behind hB'.out
      have hB := Hd.mk (hB0.out.step hB'.out.out)
      go_wp2_with ((with_reducible refine gate_store (ty := 26) rfl ?_); go_must (refine wpList_store_whole rfl _ _ _ rfl (w.heap.size + 2) #[.int .u16 0, .int .u8 0, .int .u8 0, .int .u8 0, .int .u8 0, .int .u8 0, .int .u8 0, .int .u8 0, .int .u8 0, .int .u8 0, .int .u8 0, .int .u8 0, .int .u8 0, .int .u8 0, .int .u8 0, .int .u8 0, .int .u8 0, .int .u8 0, .int .u8 0, .int .u8 0, .int .u8 0] _ _ rfl rfl b2' ?_ ?_ ?_ ?_; (rfl); (kernel_rfl); (simp [Value.oneCell']); intro w3 hb3 hg3; have hB3 := Hd.mk (hB.out.grown hg3 hle); clear hg3; replace hb3 := Hd.mk hb3))
      exact bodyPost_ret (v := .tuple #[.agg #[.int .u16 0, .int .u8 0, .int .u8 0, .int .u8 0, .int .u8 0, .int .u8 0, .int .u8 0, .int .u8 0, .int .u8 0, .int .u8 0, .int .u8 0, .int .u8 0, .int .u8 0, .int .u8 0, .int .u8 0, .int .u8 0, .int .u8 0, .int .u8 0, .int .u8 0, .int .u8 0, .int .u8 0], .bool false]) (results_row_slot _ _ _ _ _ _ _ _ _ _ _ rfl rfl rfl hb3.out rfl rfl rfl) rfl ⟨hB3.out, .inr ⟨by
        have e : i = l.length := by omega
        have h := hno.out
        rw [e, hall.out] at h
        exact h, rfl⟩⟩
end Go.Proofs.Yteokdllmandleaa.Arp
