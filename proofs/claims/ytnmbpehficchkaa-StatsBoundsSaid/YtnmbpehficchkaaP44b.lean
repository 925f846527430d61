import Derived.Test.YtnmbpehficchkaaP44a
noncomputable section
open Go.Proofs
namespace Go.Proofs.Ytnmbpehficchkaa.Ideal
set_option linter.unusedSimpArgs false
set_option linter.unusedVariables false
set_option maxRecDepth 100000
set_option maxHeartbeats 1000000
attribute [-simp] IHeap.size_set IHeap.size_push
attribute [local simp ↓] Hid.ap_mk
attribute [local simp] scopeQ_normal scopeQ_ret scopeQ_exit WP_skip WP_label WP_exit WP_goto WP_ret WP_region WP_seq WP_cond WP_block WP_scope WP_loop WP_range thenQ_normal thenQ_ret thenQ_exit thenQ_goto loopQ_normal loopQ_ret loopQ_exit invQ_normal invQ_ret invQ_exit outOf_normal outOf_ret outOf_goto outOf_exit ev_tmp ev_const ev_func
  wops_nil wops_cons wantedE_none wantedE_some jgd_some wnx_eq niC_false wdo_move wdo_assign wdo_pick wdo_load wdo_store wdo_alloc wdo_box wdo_fieldAddr wdo_indexAddr wdo_field wdo_extract wdo_build wdo_buildSlice wdo_makeSlice wdo_binOp wdo_unOp wdo_makeFunc wdo_nilCheck wdo_callV wdo_len wdo_append wdo_copy wdo_delete wdo_max wdo_min wdo_convert jcvt_int
  xput_get put_n put_none put_dfr ibin finQ_n finQ_r finD_nil splice_one ires_nil ires_one ires_two ires_three ires1_tmp ires1_cell jcell_ptr rowLoad_row wrap64 wrapU64 wrapU8 wrapU16 wrapU32 callV_fn buildOf Instr.fill Value.cells Value.oneCell' kindOf slots_all splice_all IHeap.size_set' IHeap.size_push' IHeap.get_set_same IHeap.get_set_ne IHeap.get_pushed IHeap.get_push_ne IHeap.set_set IHeap.set_push IHeap.set_pushed IHeap.set_set3 getU_nil getU_same getU_ne jif_true jif_false pushH_eq setH_eq forceL_eq forceV_eq ibuildSlice
attribute [local simp] wdo_index jopt_some
theorem mask32 {a : Nat} (h : a < 4294967296) : IntKind.u64.wrap ((a % 2 ^ IntKind.u64.bits &&& 4294967295 % 2 ^ IntKind.u64.bits : Nat) : Int) = a := by
  have e1 : a % 2 ^ IntKind.u64.bits = a := Nat.mod_eq_of_lt (by show a < 2 ^ 64; omega)
  have e2 : 4294967295 % 2 ^ IntKind.u64.bits = 2 ^ 32 - 1 := by decide
  rw [e1, e2, Nat.and_two_pow_sub_one_eq_mod, Nat.mod_eq_of_lt (by omega)]
  exact wrapU64 (by omega) (by omega)
theorem mul64_c {h : IHeap} {a b : Nat} (ha : a ≤ 1000) (hb : b ≤ 1000) : ICall Try.prog 28 #[.int .u64 a, .int .u64 b] h (.tuple #[.int .u64 0, .int .u64 (a * b : Nat)]) h := by
  refine ICall.of_FN ?_
  refine FN.enter mixed (fn := Try.f28) (by kernel_rfl) rfl (by kernel_rfl) fun e hn hg hd => ?_
  simp [Try.f28] at hn
  have a0 : e.get 0 = .int .u64 a := hg 0 (by omega)
  have a1 : e.get 1 = .int .u64 b := hg 1 (by omega)
  clear hg
  have am := mask32 (a := a) (by omega)
  have bm := mask32 (a := b) (by omega)
  have zm : IntKind.u64.wrap ((0 % 2 ^ IntKind.u64.bits &&& 4294967295 % 2 ^ IntKind.u64.bits : Nat) : Int) = 0 := mask32 (a := 0) (by omega)
  have az : (a : Int) / 4294967296 = 0 := by omega
  have bz : (b : Int) / 4294967296 = 0 := by omega
  have hp : a * b ≤ 1000000 := Nat.le_trans (Nat.mul_le_mul ha hb) (by decide)
  have hpi : (a : Int) * b = ((a * b : Nat) : Int) := by push_cast; rfl
  have w1 : IntKind.u64.wrap ((a : Int) * b) = (a : Int) * b := by rw [hpi]; exact wrapU64 (by omega) (by omega)
  have pz : ((a : Int) * b).fdiv (2 ^ min 32 IntKind.u64.bits) = 0 := by rw [hpi, fdiv_pow _ 32 (by omega)]; omega
  have zz : (0 : Int).fdiv (2 ^ min 32 IntKind.u64.bits) = 0 := Int.zero_fdiv _
  simp (maxSteps := 1000000) (disch := first | (simp; done) | (simp only [IHeap.size_push', IHeap.size_set']; omega) | omega) [a0, a1, hn, hd, fdiv_pow, am, bm, zm, az, bz, w1, pz, zz]
theorem div64_c {h : IHeap} {a b : Nat} (hb : b ≠ 0) (ha : a < 2 ^ 64) : ICall Try.prog 30 #[.int .u64 0, .int .u64 a, .int .u64 b] h (.tuple #[.int .u64 (a / b : Nat), .int .u64 (a % b : Nat)]) h := by
  refine ICall.of_FN ?_
  refine FN.enter mixed (fn := Try.f30) (by kernel_rfl) rfl (by kernel_rfl) fun e hn hg hd => ?_
  simp [Try.f30] at hn
  have a0 : e.get 0 = .int .u64 0 := hg 0 (by omega)
  have a1 : e.get 1 = .int .u64 a := hg 1 (by omega)
  have a2 : e.get 2 = .int .u64 b := hg 2 (by omega)
  clear hg
  have hq : a / b ≤ a := Nat.div_le_self a b
  have w1 : IntKind.u64.wrap ((a : Int) / b) = (a : Int) / b := by
    have hcast : (a : Int) / b = ((a / b : Nat) : Int) := by push_cast; rfl
    rw [hcast]
    generalize a / b = q at hq
    exact wrapU64 (by omega) (by omega)
  simp (maxSteps := 1000000) (disch := first | (simp; done) | (simp only [IHeap.size_push', IHeap.size_set']; omega) | omega) [a0, a1, a2, hn, hd, hb, w1]
  exact ⟨niC_of (by kernel_rfl), Int.tmod_eq_emod_of_nonneg (by omega)⟩
/-- Which one a quantile is. -/
def rk (q n : Nat) : Nat := max ((q * n + 999) / 1000) 1
theorem rk_le {q n : Nat} (hq : q ≤ 1000) (hn : 1 ≤ n) : rk q n ≤ n := by
  unfold rk
  have : q * n ≤ 1000 * n := Nat.mul_le_mul_right _ hq
  omega
theorem rk_pos (q n : Nat) : 1 ≤ rk q n := by unfold rk; omega
theorem add64_pv (a b : Int) : pureVal Try.prog (callFunc 29 #[.int .u64 a, .int .u64 b, .int .u64 0]) = some (.value (.tuple #[.int .u64 (Int.ofNat ((a.toNat + b.toNat + 0) % Go.Extern.MathBitsCarry.m64)), .int .u64 (Int.ofNat ((a.toNat + b.toNat + 0) / Go.Extern.MathBitsCarry.m64))])) := by kernel_rfl
theorem add64_nat {a : Nat} (ha : a ≤ 2000000) : pureVal Try.prog (callFunc 29 #[.int .u64 a, .int .u64 999, .int .u64 0]) = some (.value (.tuple #[.int .u64 ((a + 999 : Nat) : Int), .int .u64 0])) := by
  rw [add64_pv]
  have e1 : ((a : Int).toNat + (999 : Int).toNat + 0) = a + 999 := by omega
  have e2 : (a + 999) % Go.Extern.MathBitsCarry.m64 = a + 999 := Nat.mod_eq_of_lt (by show a + 999 < 2 ^ 64; omega)
  have e3 : (a + 999) / Go.Extern.MathBitsCarry.m64 = 0 := Nat.div_eq_of_lt (by show a + 999 < 2 ^ 64; omega)
  rw [e1, e2, e3]
  rfl
theorem fnb_add64 : fnB Try.prog 29 = false := by kernel_rfl
/-- The number's place: so many digits that enough numbers have at most as many. -/
structure HG.At (x : HG) (k : Nat) (i : Nat) : Prop where
  lt : i < 65
  lo : (x.by'.take i).sum < k
  hi : (k : Int) ≤ (x.by'.take (i + 1)).sum
def HG.top (x : HG) (i : Nat) : Int := if x.greatest < (2 ^ i - 1 : Nat) then x.greatest else (2 ^ i - 1 : Nat)
theorem quantile_c {h : IHeap} {p : Nat} {x : HG} {n q : Nat} (ok : x.ok 1000) (hn1 : x.by'.sum = n) (hn0 : 1 ≤ n) (hq : q ≤ 1000) (hp : h.get p = some x.obj) :
    FN Try.prog 10 #[.pointer (some ⟨p, 0, none⟩), .int .i64 q] h (Q := ⟨fun v h' => h' = h ∧ ∃ i, x.At (rk q n) i ∧ v = .tuple #[.int .u64 (x.top i), .bool true]⟩) := by
  refine FN.enter mixed (fn := Try.f10) (by kernel_rfl) rfl (by kernel_rfl) fun e hn hg hd => ?_
  simp [Try.f10] at hn
  have a0 : e.get 0 = .pointer (some ⟨p, 0, none⟩) := hg 0 (by omega)
  have a1 : e.get 1 = .int .i64 q := hg 1 (by omega)
  clear hg
  have hpz := IHeap.get_lt hp
  have tot := ok.tot
  have n1 : ¬ x.by'.sum = 0 := by omega
  have n0 : ¬ (n : Int) = 0 := by omega
  have q1 : ¬ (1000 : Int) < q := by omega
  have n2 : ¬ n = 0 := by omega
  have q2 : ¬ 1000 < q := by omega
  have q3 : ¬ (q : Int) < 0 := by omega
  simp (maxSteps := 1000000) (disch := first | (simp; done) | (simp only [IHeap.size_push', IHeap.size_set']; omega) | omega) [a0, a1, hn, hd]
  refine FN.of (count_c ok hp) ?_
  rw [hn1]
  simp (maxSteps := 1000000) (disch := first | (simp; done) | (simp only [IHeap.size_push', IHeap.size_set']; omega) | omega) [a0, a1, hn, hd, n0, q1, n2, q2, q3]
  refine FN.of (mul64_c (a := q) (b := n) hq (by omega)) ?_
  have hqn : q * n ≤ 1000000 := Nat.le_trans (Nat.mul_le_mul hq (show n ≤ 1000 by omega)) (by decide)
  simp only [HG.obj] at hp ⊢
  simp (maxSteps := 1000000) (disch := first | (simp; done) | (simp only [IHeap.size_push', IHeap.size_set']; omega) | omega) [a0, a1, hn, hd, n0, q1, n2, q2, q3]
  have hpi : (q : Int) * n = ((q * n : Nat) : Int) := by push_cast; rfl
  rw [callV_nat fnb_add64 (iplain_call _ _ _ _ _ (vs := #[.int .u64 ((q * n : Nat) : Int), .int .u64 999, .int .u64 0]) (by simp (maxSteps := 1000000) (disch := first | (simp; done) | (simp only [IHeap.size_push', IHeap.size_set']; omega) | omega) [hn]) (by simp [plainV, scal]) (add64_nat (by omega)) (by simp [plainV, scal]))]
  simp (maxSteps := 1000000) (disch := first | (simp; done) | (simp only [IHeap.size_push', IHeap.size_set']; omega) | omega) [a0, a1, hn, hd]
  refine FN.of (div64_c (a := q * n + 999) (b := 1000) (by decide) (by omega)) ?_
  obtain ⟨k, hk⟩ : ∃ k, k = rk q n := ⟨_, rfl⟩
  have k1 := rk_pos q n
  have k2 := rk_le hq hn0
  rw [← hk] at k1 k2 ⊢
  have hmx : (if ((q * n + 999) / 1000 : Nat) < 1 then (1 : Int) else ((q * n + 999) / 1000 : Nat)) = k := by
    rw [hk]; unfold rk; split <;> omega
  simp (maxSteps := 1000000) (disch := first | (simp; done) | (simp only [IHeap.size_push', IHeap.size_set']; omega) | omega) [a0, a1, hn, hd]
  refine WPL.by_inv mixed (by kernel_rfl) (fun m e h' => ∃ i : Nat, i + m = 64 ∧ h' = h ∧ e.n = 77 ∧ e.dfr = [] ∧ e.get 0 = .pointer (some ⟨p, 0, none⟩) ∧ e.get 10 = .int .u64 (k - (x.by'.take i).sum) ∧ e.get 12 = .int .i64 i ∧ (x.by'.take i).sum < k) 64 ?_ ?_
  · refine ⟨0, ?_⟩
    simp (maxSteps := 1000000) (disch := first | (simp; done) | (simp only [IHeap.size_push', IHeap.size_set']; omega) | omega) [a0, a1, hn, hd]
    refine ⟨?_, by omega⟩
    rw [← hmx]
    (repeat' split) <;> omega
  clear hn hd a0 a1 e n0 q1 n2 q2 q3 hqn hpi hmx
  rintro m e h1 ⟨i, hi, rfl, hn, hd, e0, e10, e12, hlo⟩
  have hl := x.hl
  have i65 : i < 65 := by omega
  have i65' : (i : Int) < 65 := by omega
  have i67 : i ≤ 67 := by omega
  have tk := sum_take_le i ok.pos
  have tk2 := sum_take_le (i + 1) ok.pos
  rw [sum_take_succ (by omega)] at tk2
  have tk3 : (x.by'.take (i + 1)).sum = (x.by'.take i).sum + x.by'[i] := sum_take_succ (by omega)
  have hbp := ok.pos _ (List.getElem_mem (l := x.by') (n := i) (by omega))
  by_cases c : x.by'[i] < k - (x.by'.take i).sum
  · have w1 : IntKind.u64.wrap ((k : Int) - (x.by'.take i).sum - x.by'[i]) = (k : Int) - (x.by'.take i).sum - x.by'[i] := wrapU64 (by omega) (by omega)
    have hi64 : i ≠ 64 := by
      rintro rfl
      have : x.by'.take (64 + 1) = x.by' := List.take_of_length_le (by omega)
      rw [this] at tk3
      omega
    simp (maxSteps := 1000000) (disch := first | (simp; done) | (simp only [IHeap.size_push', IHeap.size_set']; omega) | omega) [e0, e10, e12, hn, hd, hp, i65, i65', i67, HG.get_by, HG.row_len, c, w1]
    exact ⟨m - 1, by omega, i + 1, by omega, by rw [tk3]; omega, by omega, by rw [tk3]; omega⟩
  · simp (maxSteps := 1000000) (disch := first | (simp; done) | (simp only [IHeap.size_push', IHeap.size_set']; omega) | omega) [e0, e10, e12, hn, hd, hp, i65, i65', i67, HG.get_by, HG.row_len, c]
    have ineg : ¬ (i : Int) < 0 := by omega
    have at' : x.At k i := ⟨i65, hlo, by rw [tk3]; omega⟩
    have pw : min i IntKind.u64.bits = i := Nat.min_eq_left (by show i ≤ 64; omega)
    by_cases c64 : i = 64
    · subst c64
      simp (maxSteps := 1000000) (disch := first | (simp; done) | (simp only [IHeap.size_push', IHeap.size_set']; omega) | omega) [e0, e10, e12, hn, hd, hp, ineg, HG.get67]
      exact ⟨64, at', rfl⟩
    · have c64' : ¬ (i : Int) = 64 := by omega
      have p1 : 1 ≤ 2 ^ i := Nat.one_le_two_pow
      have p2 : 2 ^ i < 2 ^ 64 := Nat.pow_lt_pow_right (by decide) (by omega)
      have w1 : IntKind.u64.wrap (2 ^ min i IntKind.u64.bits) = ((2 ^ i : Nat) : Int) := by
        rw [pw]
        have : (2 : Int) ^ i = ((2 ^ i : Nat) : Int) := by push_cast; rfl
        rw [this]
        exact wrapU64 (by omega) (by omega)
      have w2 : IntKind.u64.wrap (((2 ^ i : Nat) : Int) - 1) = ((2 ^ i - 1 : Nat) : Int) := by
        rw [wrapU64 (by omega) (by omega)]; omega
      simp (maxSteps := 1000000) (disch := first | (simp; done) | (simp only [IHeap.size_push', IHeap.size_set']; omega) | omega) [e0, e10, e12, hn, hd, hp, ineg, HG.get67, c64, c64', pw]
      rw [pw] at w1
      exact ⟨i, at', by rw [w1, w2]; rfl⟩
theorem quantile_n {h : IHeap} {p : Nat} {x : HG} {q : Int} (ok : x.ok 1000) (c : x.by'.sum = 0 ∨ q < 0 ∨ 1000 < q) (hp : h.get p = some x.obj) :
    ICall Try.prog 10 #[.pointer (some ⟨p, 0, none⟩), .int .i64 q] h (.tuple #[.int .u64 0, .bool false]) h := by
  refine ICall.of_FN ?_
  refine FN.enter mixed (fn := Try.f10) (by kernel_rfl) rfl (by kernel_rfl) fun e hn hg hd => ?_
  simp [Try.f10] at hn
  have a0 : e.get 0 = .pointer (some ⟨p, 0, none⟩) := hg 0 (by omega)
  have a1 : e.get 1 = .int .i64 q := hg 1 (by omega)
  clear hg
  simp (maxSteps := 1000000) (disch := first | (simp; done) | (simp only [IHeap.size_push', IHeap.size_set']; omega) | omega) [a0, a1, hn, hd]
  refine FN.of (count_c ok hp) ?_
  by_cases c1 : x.by'.sum = 0
  · simp (maxSteps := 1000000) (disch := first | (simp; done) | (simp only [IHeap.size_push', IHeap.size_set']; omega) | omega) [a0, a1, hn, hd, c1, undef]
  by_cases c2 : q < 0
  · simp (maxSteps := 1000000) (disch := first | (simp; done) | (simp only [IHeap.size_push', IHeap.size_set']; omega) | omega) [a0, a1, hn, hd, c1, c2, undef]
  by_cases c3 : 1000 < q
  · simp (maxSteps := 1000000) (disch := first | (simp; done) | (simp only [IHeap.size_push', IHeap.size_set']; omega) | omega) [a0, a1, hn, hd, c1, c2, c3, undef]
  omega
end Go.Proofs.Ytnmbpehficchkaa.Ideal
