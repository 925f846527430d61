/- Proved here: hash.Mix can be turned back by back, and HashOne returns true, for all 64-bit unsigned numbers. -/
import Derived.Test.YtmeonhnaadjamaaHashA
import Derived.Lib.SlBytesConst
namespace Go.Proofs.Ytmeonhnaadjamaa.PHashOne
open Go.RowKit Go.Proofs.YtmeonhnaadjamaaW.PrintWords Go.Proofs.YtmeonhnaadjamaaW.PrintLast Go.Proofs.YtmeonhnaadjamaaW.PrintMore
attribute [local go_sem] max2_int min2_int max_two min_two max_three min_three max_four min_four   -- for this text's walks alone

theorem cell_last (w : World) (C : Array Value) (e : Nat) (fr : Nat × Nat) (i : Nat) : (w.alloc (.cells C e fr)).cell? ⟨w.heap.size, i, none⟩ = C[i]? := by
  have h : (w.alloc (.cells C e fr)).heap[w.heap.size]? = some (.cells C e fr) := by
    show (w.heap.push _)[w.heap.size]? = _
    simp
  unfold World.cell?
  simp only [h]
  rfl

theorem one_byte (w : World) (b : Nat) (x : Int) (e : Nat) (fr : Nat × Nat) (hb : b = w.heap.size) : Kd.C (Kd.int .u8) (w.alloc (.cells #[.int .u8 x] e fr)) (some ⟨b, 0, none⟩) 1 [x] := by
  subst hb
  refine ⟨rfl, by omega, fun _ => ⟨_, rfl, ?_⟩⟩
  intro j p hj
  cases j with
  | zero =>
    simp at hj
    subst hj
    refine ⟨[.int .u8 x], rfl, rfl, ?_⟩
    intro i u hi
    cases i with
    | zero =>
      simp at hi; subst hi
      exact cell_last w _ e fr 0
    | succ i => simp at hi
  | succ j => simp at hj
theorem conv_const (P : Program) (W : World) (b : Nat) (t e : TypeId) (C : Array Value) (n c : Nat) (ht : P.underlying t = some (.slice e)) (he : P.underlying e = some (.int .u8)) (hb : b = W.heap.size) :
   (convert t t (.slice (some ⟨b, 0, none⟩) n c)).run P (W.alloc (.cells C e)) = .ok (.slice (some ⟨b, 0, none⟩) n c) (W.alloc (.cells C e (C.size, C.size + 1))) := by
  subst hb; exact Lib.run_convert_bytes_const W t e C n c ht he
set_option maxHeartbeats 800000 in
set_option maxRecDepth 100000 in
theorem known_calls (w : World) : Calls Try.prog 8 #[] w fun e w' => e = .returned (.bool true) ∧ Below w.heap.size w w' := by
  have h1 : hash_Fnv.f 3 [] = some 14695981039346656037 := by kernel_rfl
  have h2 : hash_Fnv.f 3 [97] = some 12638187200555641996 := by kernel_rfl
  have h3 : hash_Mix.f 6 0 = some 0 := by kernel_rfl
  have H1 := Aside0.mk h1
  have H2 := Aside0.mk h2
  have H3 := Aside0.mk h3
  clear h1 h2 h3
  go_enter Try.func8, Try.ntmps8
  go_wp2_with fail
  refine (hash_Fnv.calls 3 none 0 [] _ w (Kd.C_nil _ _) (Nat.le_refl _) H1.out).mono ?_
  rintro e w' ⟨rfl, ⟨nd, rfl⟩⟩
  have kc := fun (C : Array Value) (n c : Nat) => conv_const Try.prog (w.drewN nd) w.heap.size 26 5 C n c Try.underlying26 Try.underlying5 rfl
  go_wp2_with fail
  refine (hash_Fnv.calls 3 _ 1 [97] _ _ (one_byte (w.drewN nd) w.heap.size 97 5 _ rfl) (Nat.le_refl _) H2.out).mono ?_
  rintro e w' ⟨rfl, ⟨nd2, rfl⟩⟩
  go_wp2_with fail
  refine (hash_Mix.calls 6 0 _ _ H3.out).mono ?_
  rintro e w' ⟨rfl, hb⟩
  go_wp2_with fail
  go_ret
  refine ⟨rfl, ?_⟩
  refine below_step ?_ hb
  repeat (first | exact Below.refl _ _ | apply below_alloc | apply pw_below_drewN)

theorem wrap_u64' (n : Int) : IntKind.u64.wrap n = n % 18446744073709551616 := by simp [IntKind.wrap, IntKind.bits, IntKind.signed]

theorem shr_lt (a s : Nat) (ha : a < 18446744073709551616) : a >>> s < 18446744073709551616 := by
  rw [Nat.shiftRight_eq_div_pow]
  exact Nat.lt_of_le_of_lt (Nat.div_le_self _ _) ha

theorem xor_lt (a b : Nat) (ha : a < 18446744073709551616) (hb : b < 18446744073709551616) : a ^^^ b < 18446744073709551616 := by
  have h := @Nat.xor_lt_two_pow a b 64 (by simpa using ha) (by simpa using hb)
  simpa using h

theorem xor64 (a b : Nat) (ha : a < 18446744073709551616) (hb : b < 18446744073709551616) : Go.bits .xor .u64 (a : Int) (b : Int) = ((a ^^^ b : Nat) : Int) := by
  have e : (2 : Nat) ^ IntKind.u64.bits = 18446744073709551616 := by decide
  have hx := xor_lt a b ha hb
  simp only [Go.bits, BitVec.ofInt_natCast, BitVec.toNat_xor, BitVec.toNat_ofNat, e, Nat.mod_eq_of_lt ha, Nat.mod_eq_of_lt hb]
  rw [wrap_u64']
  omega

theorem shr64 (a s : Nat) (hs : s ≤ 64) : shr .u64 (a : Int) (s : Int) = ((a >>> s : Nat) : Int) := by
  have e : min ((s : Int)).toNat IntKind.u64.bits = s := by
    show min ((s : Int)).toNat 64 = s
    omega
  unfold shr
  rw [e, Nat.shiftRight_eq_div_pow]
  simp

theorem mul64 (a b : Nat) : IntKind.u64.wrap ((a : Int) * (b : Int)) = ((a * b % 18446744073709551616 : Nat) : Int) := by
  rw [wrap_u64']; simp

/-- A number whose xor with itself, shifted, is told back by three rounds. -/
theorem unxor (n s : Nat) (hn : n < 18446744073709551616) (hs : 16 ≤ s) :
    ((n ^^^ n >>> s) ^^^ ((n ^^^ n >>> s) ^^^ ((n ^^^ n >>> s) ^^^ (n ^^^ n >>> s) >>> s) >>> s) >>> s) = n := by
  have z : n >>> (s + (s + (s + s))) = 0 := by
    rw [Nat.shiftRight_eq_div_pow]
    refine Nat.div_eq_of_lt (Nat.lt_of_lt_of_le hn ?_)
    have e : (18446744073709551616 : Nat) = 2 ^ 64 := by decide
    rw [e]
    exact Nat.pow_le_pow_right (by decide) (by omega)
  have c : ∀ x y : Nat, x ^^^ (x ^^^ y) = y := fun x y => by rw [← Nat.xor_assoc, Nat.xor_self, Nat.zero_xor]
  have d : ∀ x y z : Nat, (x ^^^ y) ^^^ (y ^^^ z) = x ^^^ z := fun x y z => by rw [Nat.xor_assoc, c]
  have e : s + s + s + s = s + (s + (s + s)) := by omega
  simp only [Nat.shiftRight_xor_distrib, ← Nat.shiftRight_add, d]
  rw [e, z, Nat.xor_zero]

theorem mod_lt64 (n : Nat) : n % 18446744073709551616 < 18446744073709551616 := Nat.mod_lt _ (by decide)

/-- A step of the mixture. -/
def stepN (n s m : Nat) : Nat := (n ^^^ n >>> s) * m % 18446744073709551616
theorem stepN_lt (n s m : Nat) : stepN n s m < 18446744073709551616 := mod_lt64 _
theorem stepN_one (n s : Nat) (hn : n < 18446744073709551616) : stepN n s 1 = n ^^^ n >>> s := by
  unfold stepN
  rw [Nat.mul_one, Nat.mod_eq_of_lt (xor_lt _ _ hn (shr_lt _ _ hn))]
def mixN (n : Nat) : Nat := stepN (stepN (stepN n 30 13787848793156543929) 27 10723151780598845931) 31 1
theorem mixN_lt (n : Nat) : mixN n < 18446744073709551616 := stepN_lt _ _ _

theorem step_int (a s c : Nat) (ha : a < 18446744073709551616) (hs : s ≤ 64) : IntKind.u64.wrap ((Go.bits .xor .u64 (a : Int) (shr .u64 (a : Int) (s : Int))) * (c : Int)) = (stepN a s c : Int) := by
  rw [shr64 _ _ hs, xor64 _ _ ha (shr_lt _ _ ha), mul64]; rfl

theorem mixed_round (k a s c j : Nat) (xs : List S42) (ha : a < 18446744073709551616) (hs : s ≤ 64) (hj : j < 3) (hx : xs.length = 3) (hr : rd_T42 xs (j : Int) = ⟨(s : Int), (c : Int)⟩) :
    hash_mixed.l0 (k + 1) (a : Int) xs 3 (j : Int) = hash_mixed.l0 k (stepN a s c : Int) xs 3 ((j + 1 : Nat) : Int) := by
  have e : wrap64 ((j : Int) + 1) = ((j + 1 : Nat) : Int) := by unfold wrap64; omega
  simp only [hash_mixed.l0]
  rw [if_pos (by omega), if_pos (by omega), if_pos (by omega), hr, if_pos (by show (0 : Int) ≤ (s : Int); omega), e]
  rw [step_int a s c ha hs]

theorem mix_eq (k n : Nat) (hn : n < 18446744073709551616) : hash_Mix.f (k + 4) (n : Int) = some (mixN n : Int) := by
  unfold hash_Mix.f hash_mixed.f
  have r1 := mixed_round (k + 3) n 30 13787848793156543929 0 [(⟨30, 13787848793156543929⟩ : S42), ⟨27, 10723151780598845931⟩, ⟨31, 1⟩] hn (by decide) (by decide) rfl rfl
  have r2 := mixed_round (k + 2) (stepN n 30 13787848793156543929) 27 10723151780598845931 1 [(⟨30, 13787848793156543929⟩ : S42), ⟨27, 10723151780598845931⟩, ⟨31, 1⟩] (stepN_lt _ _ _) (by decide) (by decide) rfl rfl
  have r3 := mixed_round (k + 1) (stepN (stepN n 30 13787848793156543929) 27 10723151780598845931) 31 1 2 [(⟨30, 13787848793156543929⟩ : S42), ⟨27, 10723151780598845931⟩, ⟨31, 1⟩] (stepN_lt _ _ _) (by decide) (by decide) rfl rfl
  have r4 : hash_mixed.l0 (k + 1) (mixN n : Int) [(⟨30, 13787848793156543929⟩ : S42), ⟨27, 10723151780598845931⟩, ⟨31, 1⟩] 3 ((2 + 1 : Nat) : Int) = some (mixN n : Int) := by
    simp only [hash_mixed.l0]
    rw [if_neg (by omega)]
  have e := (r1.trans (r2.trans r3)).trans r4
  have e' : hash_mixed.l0 (k + 4) (n : Int) [(⟨30, 13787848793156543929⟩ : S42), ⟨27, 10723151780598845931⟩, ⟨31, 1⟩] (([(⟨30, 13787848793156543929⟩ : S42), ⟨27, 10723151780598845931⟩, ⟨31, 1⟩].length : Nat) : Int) 0 = some (mixN n : Int) := e
  rw [e']; rfl

theorem turned_round (k n s o j : Nat) (hn : n < 18446744073709551616) (ho : o < 18446744073709551616) (hs : s ≤ 64) (hj : j < 3) :
    weighbridgelaw12_turned.l0 (k + 1) (n : Int) (s : Int) (o : Int) (j : Int) = weighbridgelaw12_turned.l0 k (n : Int) (s : Int) ((n ^^^ o >>> s : Nat) : Int) ((j + 1 : Nat) : Int) := by
  have e : wrap64 ((j : Int) + 1) = ((j + 1 : Nat) : Int) := by unfold wrap64; omega
  simp only [weighbridgelaw12_turned.l0]
  rw [if_pos (by omega), if_pos (by omega), e, shr64 _ _ hs, xor64 _ _ hn (shr_lt _ _ ho)]

theorem turned_eq (k n s : Nat) (hn : n < 18446744073709551616) (hs : s ≤ 64) (h16 : 16 ≤ s) : weighbridgelaw12_turned.f (k + 4) ((n ^^^ n >>> s : Nat) : Int) (s : Int) = some (n : Int) := by
  have hm := xor_lt _ _ hn (shr_lt n s hn)
  generalize hM : n ^^^ n >>> s = m at hm
  have h2 := xor_lt _ _ hm (shr_lt m s hm)
  have h3 := xor_lt _ _ hm (shr_lt _ s h2)
  have r1 := turned_round (k + 3) m s m 0 hm hm hs (by decide)
  have r2 := turned_round (k + 2) m s _ 1 hm h2 hs (by decide)
  have r3 := turned_round (k + 1) m s _ 2 hm h3 hs (by decide)
  have u : m ^^^ (m ^^^ (m ^^^ m >>> s) >>> s) >>> s = n := by rw [← hM]; exact unxor n s hn h16
  have r4 : weighbridgelaw12_turned.l0 (k + 1) (m : Int) (s : Int) (n : Int) ((2 + 1 : Nat) : Int) = some (n : Int) := by
    simp only [weighbridgelaw12_turned.l0]
    rw [if_neg (by omega)]
  rw [u] at r3
  exact (r1.trans (r2.trans r3)).trans r4

theorem inv1 (k : Nat) : weighbridgelaw12_inverse.f (k + 7) 10723151780598845931 = some 3573116690164977347 := by kernel_rfl
theorem inv2 (k : Nat) : weighbridgelaw12_inverse.f (k + 7) 13787848793156543929 = some 10871156337175269513 := by kernel_rfl

theorem unstep (n s m i : Nat) (hn : n < 18446744073709551616) (h : m * i % 18446744073709551616 = 1) : stepN n s m * i % 18446744073709551616 = n ^^^ n >>> s := by
  unfold stepN
  rw [Nat.mod_mul_mod, Nat.mul_assoc, Nat.mul_mod, h, Nat.mul_one, Nat.mod_mod, Nat.mod_eq_of_lt (xor_lt _ _ hn (shr_lt _ _ hn))]

theorem back_eq (k n : Nat) (hn : n < 18446744073709551616) : weighbridgelaw12_back.f (k + 7) (mixN n : Int) = some (n : Int) := by
  have a1 := stepN_lt n 30 13787848793156543929
  have a2 := stepN_lt (stepN n 30 13787848793156543929) 27 10723151780598845931
  have t1 := turned_eq (k + 3) _ 31 a2 (by decide) (by decide)
  have t2 := turned_eq (k + 3) _ 27 a1 (by decide) (by decide)
  have t3 := turned_eq (k + 3) n 30 hn (by decide) (by decide)
  rw [← stepN_one _ 31 a2] at t1
  have u1 := unstep _ 27 10723151780598845931 3573116690164977347 a1 (by decide)
  have u2 := unstep n 30 13787848793156543929 10871156337175269513 hn (by decide)
  rw [← u1, ← mul64] at t2
  rw [← u2, ← mul64] at t3
  unfold weighbridgelaw12_back.f
  have e1 : weighbridgelaw12_turned.f (k + 7) (mixN n : Int) 31 = _ := t1
  rw [e1, inv1, Option.bind_some, Option.bind_some]
  have e2 : weighbridgelaw12_turned.f (k + 7) (IntKind.u64.wrap (((stepN (stepN n 30 13787848793156543929) 27 10723151780598845931 : Nat) : Int) * 3573116690164977347)) 27 = _ := t2
  rw [e2, inv2, Option.bind_some, Option.bind_some]
  have e3 : weighbridgelaw12_turned.f (k + 7) (IntKind.u64.wrap (((stepN n 30 13787848793156543929 : Nat) : Int) * 10871156337175269513)) 30 = _ := t3
  rw [e3]; rfl

theorem mixN_inj (n m : Nat) (hn : n < 18446744073709551616) (hm : m < 18446744073709551616) (h : mixN n = mixN m) : n = m := by
  have a := back_eq 0 n hn
  have b := back_eq 0 m hm
  rw [h, b] at a
  simp at a
  omega

theorem same_bool (n m : Nat) (hn : n < 18446744073709551616) (hm : m < 18446744073709551616) : (((mixN n : Int) == (mixN m : Int)) == ((n : Int) == (m : Int))) = true := by
  by_cases h : n = m
  · subst h; simp
  · have h' : ¬ mixN n = mixN m := fun e => h (mixN_inj n m hn hm e)
    have e1 : ((mixN n : Int) == (mixN m : Int)) = false := by rw [beq_eq_false_iff_ne]; omega
    have e2 : ((n : Int) == (m : Int)) = false := by rw [beq_eq_false_iff_ne]; omega
    rw [e1, e2]; rfl

set_option maxHeartbeats 1600000 in
set_option maxRecDepth 100000 in
theorem one_calls (n m : Nat) (hn : n < 18446744073709551616) (hm : m < 18446744073709551616) (w : World) :
    Calls Try.prog 3 #[.int .u64 (n : Int), .int .u64 (m : Int)] w fun e w' => e = .returned (.bool true) ∧ Below w.heap.size w w' := by
  have M1 := Aside0.mk (mix_eq 0 n hn)
  have M2 := Aside0.mk (mix_eq 0 m hm)
  have B1 := Aside0.mk (back_eq 0 n hn)
  have S1 := Aside0.mk (same_bool n m hn hm)
  generalize mixN n = x at M1 B1 S1
  generalize mixN m = y at M2 S1
  have eqn : ((n : Int) == (n : Int)) = true := by simp
  clear hn hm
  go_enter Try.func3, Try.ntmps3
  go_wp2_with fail
  refine (hash_Mix.calls 4 _ _ _ M1.out).mono ?_
  rintro e w1 ⟨rfl, hb1⟩
  go_wp2_with fail
  refine (weighbridgelaw12_back.calls 7 _ _ _ B1.out).mono ?_
  rintro e w2 ⟨rfl, hb2⟩
  go_wp2_with fail
  refine (hash_Mix.calls 4 _ _ _ M1.out).mono ?_
  rintro e w3 ⟨rfl, hb3⟩
  go_wp2_with fail
  refine (hash_Mix.calls 4 _ _ _ M2.out).mono ?_
  rintro e w4 ⟨rfl, hb4⟩
  have s1 := S1.out
  go_wp2_with fail
  refine (known_calls _).mono ?_
  rintro e w5 ⟨rfl, hb5⟩
  go_wp2_with fail
  go_ret
  exact ⟨rfl, below_step (below_step (below_step (below_step hb1 hb2.below) hb3) hb4) hb5⟩

theorem one_walk (a b : Int) (w : World) (ha : (Lit.int .u64 a).wf = true) (hb : (Lit.int .u64 b).wf = true) :
    Calls Try.prog 3 #[.int .u64 a, .int .u64 b] w fun e w' => e = .returned (.bool true) ∧ Below w.heap.size w w' := by
  simp [Lit.wf, IntKind.min, IntKind.max, IntKind.signed, IntKind.bits] at ha hb
  obtain ⟨n, rfl⟩ := Int.eq_ofNat_of_zero_le ha.1
  obtain ⟨m, rfl⟩ := Int.eq_ofNat_of_zero_le hb.1
  exact one_calls n m (by omega) (by omega) w
end Go.Proofs.Ytmeonhnaadjamaa.PHashOne
