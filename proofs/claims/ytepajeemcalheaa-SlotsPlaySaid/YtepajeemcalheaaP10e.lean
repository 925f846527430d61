import Derived.Test.YtepajeemcalheaaP10d
noncomputable section
open Go.Proofs
namespace Go.Proofs.Ytepajeemcalheaa.Ideal
open Go.RowKit
set_option linter.unusedSimpArgs false
set_option linter.unusedVariables false
set_option linter.unusedSectionVars false
set_option maxRecDepth 100000
set_option maxHeartbeats 4000000
attribute [-simp] IHeap.size_set IHeap.size_push
attribute [local simp ↓] Hid.ap_mk
attribute [local simp] scopeQ_normal scopeQ_ret scopeQ_exit WP_skip WP_label WP_exit WP_goto WP_ret WP_region WP_seq WP_cond WP_block WP_scope WP_loop WP_range thenQ_normal thenQ_ret thenQ_exit thenQ_goto loopQ_normal loopQ_ret loopQ_exit invQ_normal invQ_ret invQ_exit outOf_normal outOf_ret outOf_goto outOf_exit ev_tmp ev_const ev_func
  wops_nil wops_cons wantedE_none wantedE_some jgd_some wnx_eq niC_false wdo_move wdo_assign wdo_pick wdo_load wdo_store wdo_alloc wdo_box wdo_fieldAddr wdo_indexAddr wdo_field wdo_extract wdo_build wdo_buildSlice wdo_makeSlice wdo_binOp wdo_unOp wdo_makeFunc wdo_nilCheck wdo_callV wdo_len wdo_append wdo_copy wdo_delete wdo_max wdo_min wdo_convert jcvt_int
  xput_get put_n put_none put_dfr ibin finQ_n finQ_r finD_nil splice_one ires_nil ires_one ires_two ires_three ires1_tmp ires1_cell jcell_ptr rowLoad_row wrap64 wrapU64 wrapU8 wrapU16 wrapU32 callV_fn buildOf Instr.fill Value.cells Value.oneCell' kindOf slots_all splice_all IHeap.size_set' IHeap.size_push' IHeap.get_set_same IHeap.get_set_ne IHeap.get_pushed IHeap.get_push_ne IHeap.set_set IHeap.set_push IHeap.set_pushed IHeap.set_set3 getU_nil getU_same getU_ne jif_true jif_false pushH_eq setH_eq forceL_eq forceV_eq ibuildSlice
attribute [local simp] wdo_index jopt_some
attribute [-simp] Value.oneCell'
theorem one_slc' (a : Option Addr) (n c : Nat) : (Value.slice a n c).oneCell' = true := rfl
attribute [local simp] one_int' one_bool' one_ptr' one_slc'
theorem ni50 : notInt Try.prog 50 = true := by kernel_rfl
theorem hz50 (lo hi : Option Value) (h1 : isZ lo = true) (h2 : isZ hi = true) : pureVal Try.prog (Instr.sliceAt 50 (.slice none 0 0) lo hi none) = some (.slice none 0 0) := by
  unfold isZ at h1 h2
  split at h1 <;> split at h2 <;> first | (cases h1; done) | (cases h2; done) | skip
  · kernel_rfl
  · simp at h2; subst h2; kernel_rfl
  · simp at h1; subst h1; kernel_rfl
  · simp at h1 h2; subst h1; subst h2; kernel_rfl
theorem wdo_cut50 {draw : Bool} {all : Array Oper} {os : List Oper} {e : XEnv} {h : IHeap} (d : Option Tmp) (ty : TypeId) (p : String) (af : Array Edge) (g : Option (Nat × Bool)) [Q : Hid (XEnv → IHeap → Prop)] [E : Hid (List Ent)] (x : Operand) (lo hi : Option Operand) :
    wdo Try.prog draw all ⟨d, .slice 50 x lo hi none, ty, p, af, g⟩ os e h = jopt (cutN Try.prog h 50 (e.ev x) (lo.map e.ev) (hi.map e.ev)) (R := ⟨jgen Try.prog e ⟨d, .slice 50 x lo hi none, ty, p, af, g⟩ h (K := ⟨fun v h' k => wnx Try.prog draw all os e d h v h' k⟩)⟩) (K := ⟨fun v k => wnx Try.prog draw all os e d h v h k⟩) := wdo_cutN d ty p af g 50 hz50 x lo hi
attribute [local simp] wdo_cut50
theorem fdiv_pow (m k : Nat) (hk : k < 64) : (m : Int).fdiv (2 ^ min k IntKind.u64.bits) = ((m / 2 ^ k : Nat) : Int) := by
  rw [show min k IntKind.u64.bits = k from Nat.min_eq_left (by show k ≤ 64; omega), Int.fdiv_eq_ediv_of_nonneg _ (by exact_mod_cast Nat.zero_le _)]
  push_cast
  rfl
theorem mask32 {a : Nat} (h : a < 4294967296) : IntKind.u64.wrap ((a % 2 ^ IntKind.u64.bits &&& 4294967295 % 2 ^ IntKind.u64.bits : Nat) : Int) = a := by
  have e1 : a % 2 ^ IntKind.u64.bits = a := Nat.mod_eq_of_lt (by show a < 2 ^ 64; omega)
  have e2 : 4294967295 % 2 ^ IntKind.u64.bits = 2 ^ 32 - 1 := by decide
  rw [e1, e2, Nat.and_two_pow_sub_one_eq_mod, Nat.mod_eq_of_lt (by omega)]
  exact wrapU64 (by omega) (by omega)
theorem mul64_one {h : IHeap} {b : Nat} (hb : b ≤ 65536) : ICall Try.prog 35 #[.int .u64 1, .int .u64 b] h (.tuple #[.int .u64 0, .int .u64 b]) h := by
  refine ICall.of_FN ?_
  refine FN.enter mixed (fn := Try.f35) (by kernel_rfl) rfl (by kernel_rfl) fun e hn hg hd => ?_
  simp [Try.f35] at hn
  have a0 : e.get 0 = .int .u64 1 := hg 0 (by omega)
  have a1 : e.get 1 = .int .u64 b := hg 1 (by omega)
  clear hg
  have am : IntKind.u64.wrap ((1 % 2 ^ IntKind.u64.bits &&& 4294967295 % 2 ^ IntKind.u64.bits : Nat) : Int) = 1 := mask32 (a := 1) (by omega)
  have bm := mask32 (a := b) (by omega)
  have zm : IntKind.u64.wrap ((0 % 2 ^ IntKind.u64.bits &&& 4294967295 % 2 ^ IntKind.u64.bits : Nat) : Int) = 0 := mask32 (a := 0) (by omega)
  have bz : (b : Int) / 4294967296 = 0 := by omega
  have w1 : IntKind.u64.wrap (b : Int) = (b : Int) := wrapU64 (by omega) (by omega)
  have pz : (b : Int).fdiv (2 ^ min 32 IntKind.u64.bits) = 0 := by rw [fdiv_pow _ 32 (by omega)]; omega
  have oz : (1 : Int).fdiv (2 ^ min 32 IntKind.u64.bits) = 0 := by rw [show (1 : Int) = ((1 : Nat) : Int) from rfl, fdiv_pow _ 32 (by omega)]; rfl
  have zz : (0 : Int).fdiv (2 ^ min 32 IntKind.u64.bits) = 0 := Int.zero_fdiv _
  simp (maxSteps := 1000000) (disch := first | (simp; done) | (simp only [IHeap.size_push', IHeap.size_set']; omega) | omega) [a0, a1, hn, hd, fdiv_pow, am, bm, zm, bz, w1, pz, zz, oz]
theorem mul_one_c {h : IHeap} {b : Nat} (hb : b ≤ 65536) : ICall Try.prog 33 #[.int .u64 1, .int .u64 b] h (.tuple #[.int .u64 0, .int .u64 b]) h := by
  refine ICall.of_FN ?_
  refine FN.enter mixed (fn := Try.f33) (by kernel_rfl) rfl (by kernel_rfl) fun e hn hg hd => ?_
  simp [Try.f33] at hn
  have a0 : e.get 0 = .int .u64 1 := hg 0 (by omega)
  have a1 : e.get 1 = .int .u64 b := hg 1 (by omega)
  clear hg
  simp (maxSteps := 1000000) (disch := first | (simp; done) | (simp only [IHeap.size_push', IHeap.size_set']; omega) | omega) [a0, a1, hn, hd]
  refine FN.of (mul64_one hb) ?_
  simp (maxSteps := 1000000) (disch := first | (simp; done) | (simp only [IHeap.size_push', IHeap.size_set']; omega) | omega) [a0, a1, hn, hd]
def partC (i j : Nat) : Value := .int .i64 (if j % 3 = 2 ∧ j < 3 * i then -1 else 0)
def partR (N i : Nat) : List Value := (List.range (3 * N)).map (partC i)
theorem partR_len (N i : Nat) : (partR N i).length = 3 * N := by simp [partR]
theorem partR_one (N i : Nat) : (partR N i).all (·.oneCell') = true := by
  rw [List.all_eq_true]
  intro v hv
  obtain ⟨j, _, rfl⟩ := List.mem_map.1 hv
  rfl
theorem partR_get {N i j : Nat} (h : j < 3 * N) : (partR N i)[j]? = some (partC i j) := by simp [partR, h]
/-- So many more by copying what lies there. -/
theorem partR_copy {N i m : Nat} (hm : m ≤ i) (hi : i + m ≤ N) : splice (partR N i) (3 * i) ((partR N i).take (3 * m)) = partR N (i + m) := by
  have ht : ((partR N i).take (3 * m)).length = 3 * m := by rw [List.length_take, partR_len]; omega
  apply List.ext_getElem?
  intro j
  rw [splice_get (by rw [ht, partR_len]; omega), ht]
  by_cases hj : j < 3 * N
  · rw [partR_get hj, partR_get hj]
    split
    · rename_i c
      rw [List.getElem?_take_of_lt (by omega), partR_get (by omega)]
      unfold partC
      have e1 : (j - 3 * i) % 3 = j % 3 := by omega
      rw [e1]
      by_cases c2 : j % 3 = 2
      · rw [if_pos ⟨c2, by omega⟩, if_pos ⟨c2, by omega⟩]
      · rw [if_neg (fun h => c2 h.1), if_neg (fun h => c2 h.1)]
    · rename_i c
      unfold partC
      by_cases c2 : j % 3 = 2
      · by_cases c3 : j < 3 * i
        · rw [if_pos ⟨c2, c3⟩, if_pos ⟨c2, by omega⟩]
        · rw [if_neg (fun h => c3 h.2), if_neg (fun h => by omega)]
      · rw [if_neg (fun h => c2 h.1), if_neg (fun h => c2 h.1)]
  · rw [if_neg (by omega), List.getElem?_eq_none (by rw [partR_len]; omega), List.getElem?_eq_none (by rw [partR_len]; omega)]
theorem partR_first {N : Nat} (hN : 1 ≤ N) : splice (partR N 0) 0 [.int .i64 0, .int .i64 0, .int .i64 (-1)] = partR N 1 := by
  apply List.ext_getElem?
  intro j
  rw [splice_get (by rw [partR_len]; simp; omega)]
  by_cases hj : j < 3 * N
  · rw [partR_get hj, partR_get hj]
    split
    · rename_i c
      simp at c
      rcases (show j = 0 ∨ j = 1 ∨ j = 2 by omega) with e | e | e <;> subst e <;> rfl
    · rename_i c
      simp at c
      unfold partC
      rw [if_neg (fun h => by omega), if_neg (fun h => by omega)]
  · rw [if_neg (by simp; omega), List.getElem?_eq_none (by rw [partR_len]; omega), List.getElem?_eq_none (by rw [partR_len]; omega)]
theorem partR_zero (N : Nat) : (List.replicate N [Value.int .i64 0, .int .i64 0, .int .i64 0]).flatten = partR N 0 := by
  induction N with
  | zero => rfl
  | succ N ih =>
    rw [List.replicate_succ', List.flatten_append, ih]
    unfold partR
    rw [show 3 * (N + 1) = 3 * N + 1 + 1 + 1 by omega, List.range_succ, List.range_succ, List.range_succ]
    simp [partC]
theorem partR_row (N : Nat) : partR N N = rowL N (fun _ => 0) (fun _ => 0) (fun _ => -1) := by
  unfold partR rowL
  apply List.map_congr_left
  intro j hj
  have hj := List.mem_range.1 hj
  unfold partC cellL
  by_cases c0 : j % 3 = 0
  · simp [c0]
  · by_cases c1 : j % 3 = 1
    · simp [c1]
    · simp [c0, c1, show j % 3 = 2 by omega, hj]
theorem mk_links {h : IHeap} (n : Nat) (hn : n ≤ 70000) : imakeSlice Try.prog h 50 (.int .i64 n) (.int .i64 n) = some (.slice (some ⟨h.size, 0, none⟩) n n, h.push (.row false 3 (partR n 0)), .alloc) := by
  have h2 : (0 : Int) ≤ n := by omega
  have h3 : (n : Int) < 9223372036854775808 := by omega
  have h4 : 24 * (n : Int) ≤ 140737488355328 := by omega
  unfold imakeSlice
  simp [h2, h3, h4, ← partR_zero, zeros]
theorem repeat_c {h : IHeap} {p n : Nat} (hn1 : 1 ≤ n) (hn2 : n ≤ 65536) (hp : h.get p = some (.row false 3 [.int .i64 0, .int .i64 0, .int .i64 (-1)])) :
    FN Try.prog 23 #[.slice (some ⟨p, 0, none⟩) 1 1, .int .i64 n] h (Q := ⟨fun v h' => v = .slice (some ⟨h.size, 0, none⟩) n n ∧ h'.size = h.size + 1 ∧ h'.get h.size = some (.row false 3 (partR n n)) ∧ ∀ i, i < h.size → h'.get i = h.get i⟩) := by
  refine FN.enter mixed (fn := Try.f23) (by kernel_rfl) rfl (by kernel_rfl) fun e hn hg hd => ?_
  simp [Try.f23] at hn
  have a0 : e.get 0 = .slice (some ⟨p, 0, none⟩) 1 1 := hg 0 (by omega)
  have a1 : e.get 1 = .int .i64 n := hg 1 (by omega)
  clear hg
  have hpz := IHeap.get_lt hp
  have b0 : ¬ (n : Int) < 0 := by omega
  have w1 : IntKind.u64.wrap (n : Int) = n := wrapU64 (by omega) (by omega)
  have w2 : IntKind.i64.wrap (n : Int) = n := wrap64 (by omega) (by omega)
  have b1 : ¬ (9223372036854775807 : Int) < n := by omega
  have mn : min 1 n = 1 := by omega
  simp (maxSteps := 1000000) (disch := first | (simp; done) | (simp only [IHeap.size_push', IHeap.size_set']; omega) | omega) [a0, a1, hn, hd, b0, w1]
  refine FN.of (mul_one_c (b := n) (by omega)) ?_
  simp (maxSteps := 1000000) (disch := first | (simp; done) | (simp only [IHeap.size_push', IHeap.size_set']; omega) | omega) [a0, a1, hn, hd, b0, w1, w2, b1, mk_links n (by omega), icopy, srcOf, slots, hp, mn, partR_len, show 3 ≤ 3 * n by omega, partR_first hn1]
  refine WPL.by_inv mixed (by kernel_rfl) (fun r e h' => ∃ i : Nat, 1 ≤ i ∧ i + r = n ∧ e.n = 48 ∧ e.dfr = [] ∧ e.get 7 = .slice (some ⟨h.size, 0, none⟩) n n ∧ e.get 8 = .int .i64 i ∧ h'.size = h.size + 1 ∧ h'.get h.size = some (.row false 3 (partR n i)) ∧ ∀ i, i < h.size → h'.get i = h.get i) (n - 1) ?_ ?_
  · refine ⟨1, ?_⟩
    simp (maxSteps := 1000000) (disch := first | (simp; done) | (simp only [IHeap.size_push', IHeap.size_set']; omega) | omega) [a0, a1, hn, hd]
    exact fun i hi => by rw [IHeap.get_push_ne _ (by omega)]
  clear hn hd a0 a1 e hp hpz mn
  rintro r e h1 ⟨i, hi1, hi, hn, hd, e7, e8, z1, g1, o1⟩
  cases r with
  | zero =>
    obtain rfl : i = n := by omega
    simp (maxSteps := 1000000) (disch := first | (simp; done) | (simp only [IHeap.size_push', IHeap.size_set']; omega) | omega) [e7, e8, hn, hd]
    exact ⟨z1, g1, o1⟩
  | succ r =>
    have hlt : (i : Int) < n := by omega
    have isl1 := islice_eq (P := Try.prog) (h := h1) (t := 50) sl50 g1 (.inr rfl) (q := 0) (bounds_lo (n := n) (c := n) (l := i) (k := .i64) (by omega) (Nat.le_refl _))
    have isl2 := islice_eq (P := Try.prog) (h := h1) (t := 50) sl50 g1 (.inr rfl) (q := 0) (bounds_hi (n := n) (c := n) (u := i) (k := .i64) (by omega))
    simp only [Nat.zero_mul, Nat.zero_add, Nat.sub_zero] at isl1 isl2
    obtain ⟨m, hm⟩ : ∃ m, min i (n - i) = m := ⟨_, rfl⟩
    have hm1 : m ≤ i := by omega
    have hm2 : i + m ≤ n := by omega
    have hm3 : 1 ≤ m := by omega
    have hcp : icopy Try.prog h1 50 (.slice (some ⟨h.size, i * 3, none⟩) (n - i) (n - i)) (.slice (some ⟨h.size, 0, none⟩) i n) = some (.int .i64 m, h1.set h.size (.row false 3 (partR n (i + m)))) := by
      have s1 : slots (partR n i) 0 (i * 3) = some ((partR n i).take (3 * i)) := by rw [slots_take (by rw [partR_len]; omega), Nat.mul_comm]
      have s2 : ((partR n i).take (3 * i)).take (m * 3) = (partR n i).take (3 * m) := by rw [List.take_take, Nat.mul_comm m 3, Nat.min_eq_left (by omega)]
      have s3 : ((partR n i).take (3 * m)).length = 3 * m := by rw [List.length_take, partR_len]; omega
      have s4 : ((partR n i).take (3 * i)).all (·.oneCell') = true := by
        rw [List.all_eq_true]
        intro v hv
        exact List.all_eq_true.1 (partR_one n i) v (List.mem_of_mem_take hv)
      unfold icopy
      rw [sl50]
      simp only [src_row g1 s1 (by omega), g1, hm, s2, s3]
      rw [if_neg (by omega), if_pos ⟨by rw [partR_len]; omega, s4⟩, Nat.mul_comm i 3, partR_copy hm1 hm2]
    simp (maxSteps := 1000000) (disch := first | (simp; done) | (simp only [IHeap.size_push', IHeap.size_set']; omega) | omega) [e7, e8, hn, hd, hlt, undef, cutN, cutV, kindOf, isl1, isl2, hcp, wrap64]
    exact ⟨niC_pend [] (by kernel_rfl) trivial, n - (i + m), by omega, i + m, by omega, by omega, by push_cast; rfl, z1, rfl, fun a ha => by rw [IHeap.get_set_ne _ (by omega)]; exact o1 a ha⟩
/-- The links of lists that are made. -/
def newB (n : Nat) : Nat → Nat := fun x => if x < n then 0 else x
def newT (n : Nat) : Nat → Int := fun x => if x < n then -1 else (x : Int) - n
theorem newR (n : Nat) : partR n n = rowL n (newB n) (newB n) (newT n) := by
  rw [partR_row]
  unfold rowL
  apply List.map_congr_left
  intro j hj
  have hj := List.mem_range.1 hj
  have : j / 3 < n := by omega
  unfold cellL newB newT
  simp [this]
theorem new_rep (n m : Nat) : SRep n m (fun _ => []) (newB n) (newB n) (newT n) :=
  ⟨fun l hl => by simp [Path, newB]; omega, fun l hl c hc => by simp at hc, fun c hc _ => by simp [newT, hc], fun l hl => by simp⟩
theorem app50 {h : IHeap} {i n : Nat} {x : Value} {cs : List Value} {a b c : Value} (hx : srcOf h 3 x = some (1, [a, b, c])) (ha : [a, b, c].all (·.oneCell') = true) (hg : h.get i = some (.row false 3 cs)) (hl : cs.length = n * 3) (hsz : n ≤ 100000) :
    ∃ h' j, iappend Try.prog h 50 50 (.slice (some ⟨i, 0, none⟩) n n) x = some (.slice (some ⟨j, 0, none⟩) (n + 1) (n + 1), h') ∧ h'.get j = some (.row false 3 (cs ++ [a, b, c])) ∧ (∀ k, k < h.size → k ≠ i → h'.get k = h.get k) ∧ h.size ≤ h'.size ∧ (j = i ∨ h.size ≤ j) :=
  iapp_any (P := Try.prog) (t := 50) (t2 := 50) (n := n) sl50 ze58 bt58 (by rfl) (by omega) ni50 hx ha (by rfl) (by omega) hg hl
theorem ni29 : notInt Try.prog 29 = true := by kernel_rfl
theorem mk_ints {h : IHeap} (n : Nat) (hn : n ≤ 70000) : imakeSlice Try.prog h 29 (.int .i64 n) (.int .i64 n) = some (.slice (some ⟨h.size, 0, none⟩) n n, h.push (.row false 1 (manyR n (fun _ => []))), .alloc) := by
  have h2 : (0 : Int) ≤ n := by omega
  have h3 : (n : Int) < 9223372036854775808 := by omega
  have h4 : 8 * (n : Int) ≤ 140737488355328 := by omega
  have e : zeros #[Value.int .i64 0] n = manyR n (fun _ => []) := by
    unfold manyR
    apply List.ext_getElem?
    intro j
    by_cases hj : j < n
    · simp [zeros, hj]
    · simp [zeros, hj]
  unfold imakeSlice
  simp [h2, h3, h4, e]
theorem new_c {h : IHeap} {m n : Nat} (hm1 : 1 ≤ m) (hm2 : m ≤ 4096) (hn1 : 1 ≤ n) (hn2 : n ≤ 65536) :
    FN Try.prog 6 #[.int .i64 m, .int .i64 n] h (Q := ⟨fun v h' => ∃ s k q, v = .tuple #[.pointer (some ⟨s, 0, none⟩), .int .i64 0] ∧ Sx h' s k q n m (fun _ => []) ∧ h.size ≤ s ∧ h.size ≤ k ∧ h.size ≤ q ∧ h.size ≤ h'.size ∧ ∀ i, i < h.size → h'.get i = h.get i⟩) := by
  refine FN.enter mixed (fn := Try.f6) (by kernel_rfl) rfl (by kernel_rfl) fun e hn hg hd => ?_
  simp [Try.f6] at hn
  have a0 : e.get 0 = .int .i64 m := hg 0 (by omega)
  have a1 : e.get 1 = .int .i64 n := hg 1 (by omega)
  clear hg
  have b0 : ¬ (m : Int) < 1 := by omega
  have b1 : ¬ (4096 : Int) < m := by omega
  have b2 : ¬ (n : Int) < 1 := by omega
  have b3 : ¬ (65536 : Int) < n := by omega
  simp (maxSteps := 1000000) (disch := first | (simp; done) | (simp only [IHeap.size_push', IHeap.size_set']; omega) | omega) [a0, a1, hn, hd, b0, b1, b2, b3, undef, zeros]
  refine FN.mono (repeat_c (n := n) hn1 hn2 (IHeap.get_pushed _ rfl)) ?_
  rintro _ h1 ⟨rfl, z1, g1, o1⟩
  rw [IHeap.size_push'] at z1 g1 o1
  simp (maxSteps := 1000000) (disch := first | (simp; done) | (simp only [IHeap.size_push', IHeap.size_set']; omega) | omega) [a0, a1, hn, hd, mk_ints m (by omega), z1]
  refine ⟨niC_pend [] (by kernel_rfl) trivial, ?_⟩
  refine WPL.by_inv mixed (by kernel_rfl) (fun r e h' => ∃ i j : Nat, i + r = m ∧ e.n = 53 ∧ e.dfr = [] ∧ e.get 1 = .int .i64 n ∧ e.get 6 = .pointer (some ⟨h.size + 3, 0, none⟩) ∧ e.get 30 = .int .i64 m ∧ e.get 31 = .int .i64 i ∧ h.size + 4 ≤ h'.size ∧ h'.get (h.size + 3) = some (.row false 0 [.slice (some ⟨j, 0, none⟩) (n + i) (n + i), .slice (some ⟨h.size + 2, 0, none⟩) m m]) ∧ h.size ≤ j ∧ h'.get j = some (.row false 3 (rowL (n + i) (newB n) (newB n) (newT n))) ∧ h'.get (h.size + 2) = some (.row false 1 (manyR m (fun _ => []))) ∧ ∀ i, i < h.size → h'.get i = h.get i) m ?_ ?_
  · refine ⟨0, h.size + 1, ?_⟩
    simp (maxSteps := 1000000) (disch := first | (simp; done) | (simp only [IHeap.size_push', IHeap.size_set']; omega) | omega) [a0, a1, hn, hd, z1]
    refine ⟨by rw [← newR]; exact g1, fun i hi => ?_⟩
    have := o1 i (by omega)
    rw [IHeap.get_push_ne _ (by omega)] at this
    simp (maxSteps := 1000000) (disch := first | (simp; done) | (simp only [IHeap.size_push', IHeap.size_set']; omega) | omega) [this]
  clear hn hd a0 a1 e
  rintro r e h2 ⟨i, j, hi, hn, hd, e1, e6, e30, e31, z2, g3, hj, gj, g2, o2⟩
  cases r with
  | zero =>
    obtain rfl : i = m := by omega
    simp (maxSteps := 1000000) (disch := first | (simp; done) | (simp only [IHeap.size_push', IHeap.size_set']; omega) | omega) [e1, e6, e30, e31, hn, hd]
    exact ⟨j, h.size + 2, ⟨_, _, _, ⟨g3, gj, g2, new_rep n i, hn1, hm1, hn2, hm2⟩⟩, hj, by omega, by omega, o2⟩
  | succ r =>
    have hlt : (i : Int) < m := by omega
    have jz := IHeap.get_lt gj
    have hji : j ≠ h.size + 3 := by
      intro e
      rw [e, g3] at gj
      cases gj
    have hj2 : j ≠ h.size + 2 := by
      intro e
      rw [e, g2] at gj
      cases gj
    obtain ⟨o, ho⟩ : ∃ o, n + i = o := ⟨_, rfl⟩
    have oi : (n : Int) + i = (o : Int) := by omega
    rw [ho] at g3 gj
    obtain ⟨h3, j3, ap, g5, o5, z5, f5⟩ := app50 (h := h2.push (.row false 3 [.int .i64 o, .int .i64 o, .int .i64 i])) (i := j) (n := o) (x := .slice (some ⟨h2.size, 0, none⟩) 1 1) (cs := rowL o (newB n) (newB n) (newT n)) (src_row (IHeap.get_pushed _ rfl) (slots_full _ rfl) (by omega)) rfl (by rw [IHeap.get_push_ne _ (by omega)]; exact gj) (by rw [rowL_len, Nat.mul_comm]) (by omega)
    simp only [IHeap.size_push'] at z5 f5 o5
    have k3 : h3.get (h.size + 3) = some (.row false 0 [.slice (some ⟨j, 0, none⟩) o o, .slice (some ⟨h.size + 2, 0, none⟩) m m]) := by rw [o5 _ (by omega) (Ne.symm hji), IHeap.get_push_ne _ (by omega)]; exact g3
    simp (maxSteps := 1000000) (disch := first | (simp; done) | (simp only [IHeap.size_push', IHeap.size_set']; omega) | omega) [zeros, e1, e6, e30, e31, hn, hd, hlt, oi, wrap64, g3, ap, k3]
    have hj3 : j3 ≠ h.size + 3 := by
      intro e
      rw [e, k3] at g5
      cases g5
    refine ⟨r, by omega, i + 1, by omega, by push_cast; rfl, by omega, j3, ⟨rfl, by omega⟩, by omega, ?_, ?_, fun a ha => ?_⟩
    · rw [IHeap.get_set_ne _ (Ne.symm hj3), g5, show n + (i + 1) = o + 1 by omega, rowL_succ]
      have e1 : newB n o = o := by unfold newB; rw [if_neg (by omega)]
      have e2 : newT n o = i := by unfold newT; rw [if_neg (by omega)]; omega
      rw [e1, e2]
    · rw [o5 _ (by omega) (Ne.symm hj2), IHeap.get_push_ne _ (by omega)]; exact g2
    · rw [IHeap.get_set_ne _ (by omega), o5 _ (by omega) (by omega), IHeap.get_push_ne _ (by omega)]; exact o2 a ha
end Go.Proofs.Ytepajeemcalheaa.Ideal
