import Derived.Test.YtmobpbhbllhdcaaP14f
noncomputable section
open Go.Proofs
namespace Go.Proofs.Ytmobpbhbllhdcaa.Ideal
open Go.RowKit
set_option linter.unusedSimpArgs false
set_option linter.unusedVariables false
set_option linter.unusedSectionVars false
set_option linter.unnecessarySimpa false
set_option maxRecDepth 100000
set_option maxHeartbeats 2000000
attribute [-simp] IHeap.size_set IHeap.size_push
attribute [local simp ↓] Hid.ap_mk
attribute [local simp] scopeQ_normal scopeQ_ret scopeQ_exit WP_skip WP_label WP_exit WP_goto WP_ret WP_region WP_seq WP_cond WP_block WP_scope WP_loop WP_range thenQ_normal thenQ_ret thenQ_exit thenQ_goto loopQ_normal loopQ_ret loopQ_exit invQ_normal invQ_ret invQ_exit outOf_normal outOf_ret outOf_goto outOf_exit ev_tmp ev_const ev_func
  wops_nil wops_cons wantedE_none wantedE_some jgd_some wnx_eq niC_false wdo_move wdo_assign wdo_pick wdo_load wdo_store wdo_alloc wdo_box wdo_fieldAddr wdo_indexAddr wdo_field wdo_extract wdo_build wdo_buildSlice wdo_makeSlice wdo_binOp wdo_unOp wdo_makeFunc wdo_nilCheck wdo_callV wdo_len wdo_append wdo_copy wdo_delete wdo_max wdo_min wdo_convert jcvt_int
  xput_get put_n put_none put_dfr ibin finQ_n finQ_r finD_nil splice_one ires_nil ires_one ires_two ires_three ires1_tmp ires1_cell jcell_ptr rowLoad_row wrap64 wrapU64 wrapU8 wrapU16 wrapU32 callV_fn buildOf Instr.fill Value.cells Value.oneCell' kindOf slots_all splice_all IHeap.size_set' IHeap.size_push' IHeap.get_set_same IHeap.get_set_ne IHeap.get_pushed IHeap.get_push_ne IHeap.set_set IHeap.set_push IHeap.set_pushed IHeap.set_set3 getU_nil getU_same getU_ne jif_true jif_false pushH_eq setH_eq forceL_eq forceV_eq ibuildSlice
attribute [-simp] Value.oneCell'
def dbl : Nat → Int → Int → Int
  | 0, n, _ => n
  | k + 1, n, p => if n < p then dbl k (2 * n) p else n
def mayB (p : Int) : Bool := dbl 15 8 p == p
theorem two_pow_ge : ∀ k : Nat, (1 : Int) ≤ 2 ^ k
  | 0 => by simp
  | k + 1 => by have := two_pow_ge k; rw [Int.pow_succ]; omega
theorem may_c {h : IHeap} (p : Int) : ICall Try.prog 14 #[.int .i64 p] h (.bool (mayB p)) h := by
  refine ICall.of_FN ?_
  refine FN.enter mixed (fn := Try.f14) (by kernel_rfl) rfl (by kernel_rfl) fun e hn hg hd => ?_
  simp [Try.f14] at hn
  have a0 : e.get 0 = .int .i64 p := hg 0 (by omega)
  clear hg
  simp (maxSteps := 1000000) (disch := first | (simp; done) | (simp only [IHeap.size_push', IHeap.size_set']; omega) | omega) [a0, hn, hd]
  refine WPL.by_inv mixed (by kernel_rfl) (fun k e h' => ∃ m : Int, e.n = 16 ∧ e.dfr = [] ∧ e.get 0 = .int .i64 p ∧ e.get 3 = .int .i64 m ∧ h' = h ∧ dbl k m p = dbl 15 8 p ∧ 8 ≤ m ∧ m * 2 ^ k = 262144) 15 ?_ ?_
  · refine ⟨8, ?_⟩
    simp (maxSteps := 1000000) (disch := first | (simp; done) | (simp only [IHeap.size_push', IHeap.size_set']; omega) | omega) [a0, hn, hd]
  clear hn hd a0 e
  rintro k e h1 ⟨m, hn, hd, e0, e3, rfl, hm, h8, h2⟩
  cases k with
  | zero =>
    have hm2 : m = 262144 := by simpa using h2
    subst hm2
    have hm3 : dbl 15 8 p = 262144 := by rw [← hm]; rfl
    by_cases hp : (262144 : Int) < p
    · simp (maxSteps := 1000000) (disch := first | (simp; done) | (simp only [IHeap.size_push', IHeap.size_set']; omega) | omega) [e0, e3, hn, hd, hp, mayB, hm3]
    · simp (maxSteps := 1000000) (disch := first | (simp; done) | (simp only [IHeap.size_push', IHeap.size_set']; omega) | omega) [e0, e3, hn, hd, hp, mayB, hm3, undef]
  | succ k =>
    have hlt : m < 262144 := by
      rw [Int.pow_succ] at h2
      have : (1 : Int) ≤ 2 ^ k := two_pow_ge _
      have h3 : m * (2 ^ k * 2) = 2 * (m * 2 ^ k) := by rw [← Int.mul_assoc]; omega
      have h4 : m ≤ m * 2 ^ k := by
        have := Int.mul_le_mul_of_nonneg_left this (show 0 ≤ m by omega)
        omega
      omega
    by_cases hp : m < p
    · simp (maxSteps := 1000000) (disch := first | (simp; done) | (simp only [IHeap.size_push', IHeap.size_set']; omega) | omega) [e0, e3, hn, hd, hp, hlt, wrap64]
      refine ⟨k, by omega, ?_⟩
      refine ⟨?_, by omega, ?_⟩
      · rw [← hm]; simp [dbl, hp]
      · rw [Int.pow_succ] at h2
        rw [← h2, ← Int.mul_assoc]
        rw [Int.mul_comm 2 m, Int.mul_assoc, Int.mul_comm 2, ← Int.mul_assoc]
    · have hm3 : dbl 15 8 p = m := by rw [← hm]; simp [dbl, hp]
      simp (maxSteps := 1000000) (disch := first | (simp; done) | (simp only [IHeap.size_push', IHeap.size_set']; omega) | omega) [e0, e3, hn, hd, hp, mayB, hm3, undef]
theorem dbl_le : ∀ (k : Nat) (m p : Int), 0 ≤ m → dbl k m p ≤ m * 2 ^ k
  | 0, m, p, h => by simp [dbl]
  | k + 1, m, p, h => by
    unfold dbl
    have h1 : (1 : Int) ≤ 2 ^ k := two_pow_ge _
    have h3 : m * 2 ^ (k + 1) = 2 * m * 2 ^ k := by rw [Int.pow_succ, ← Int.mul_assoc, Int.mul_comm (m * 2 ^ k) 2, ← Int.mul_assoc]
    split
    · have := dbl_le k (2 * m) p (by omega)
      rw [h3]; exact this
    · rw [h3]
      have := Int.mul_le_mul_of_nonneg_left h1 (show 0 ≤ 2 * m by omega)
      omega
def maskI (n : Nat) : Int := IntKind.i64.wrap ((n % 2 ^ IntKind.i64.bits &&& (((n : Int) - 1) % 2 ^ IntKind.i64.bits).toNat : Nat) : Int)
theorem may_fin : (List.range 257).all (fun n => decide (n < 8) || (mayB n == decide (maskI n = 0)) && (!mayB n || decide (18446744073709551616 % n = 0))) = true := by kernel_rfl
theorem may_small {n : Nat} (h : 8 ≤ n ∧ n ≤ 256) : mayB n = decide (maskI n = 0) ∧ (mayB n = true → (n : Int) ∣ 18446744073709551616) := by
  have := List.all_eq_true.1 may_fin n (List.mem_range.2 (by omega))
  simp only [show ¬ n < 8 by omega, decide_false, Bool.false_or, Bool.and_eq_true, beq_iff_eq, Bool.or_eq_true, Bool.not_eq_true', decide_eq_true_eq] at this
  refine ⟨this.1, fun hm => ?_⟩
  rcases this.2 with h1 | h1
  · rw [h1] at hm; cases hm
  · exact Int.ofNat_dvd.2 (Nat.dvd_of_mod_eq_zero h1)
theorem may_low {p : Int} (h : p < 8) : mayB p = false := by
  have : dbl 15 8 p = 8 := by simp [dbl, show ¬ (8 : Int) < p by omega]
  simp [mayB, this]; omega
theorem may_high {p : Int} (h : 262144 < p) : mayB p = false := by
  have := dbl_le 15 8 p (by omega)
  simp [mayB]
  omega
theorem newbad_c {h : IHeap} (n : Int) (hb : n < 8 ∨ 262144 < n) : ICall Try.prog 26 #[.int .i64 n] h (.tuple #[.pointer none, .int .i64 2]) h := by
  refine ICall.of_FN ?_
  refine FN.enter mixed (fn := Try.f26) (by kernel_rfl) rfl (by kernel_rfl) fun e hn hg hd => ?_
  simp [Try.f26] at hn
  have a0 : e.get 0 = .int .i64 n := hg 0 (by omega)
  clear hg
  by_cases h1 : n < 8
  · simp (maxSteps := 1000000) (disch := first | (simp; done) | (simp only [IHeap.size_push', IHeap.size_set']; omega) | omega) [a0, hn, hd, h1, undef]
  · have h2 : 262144 < n := by omega
    simp (maxSteps := 1000000) (disch := first | (simp; done) | (simp only [IHeap.size_push', IHeap.size_set']; omega) | omega) [a0, hn, hd, h1, h2, undef]
theorem newbad2_c {h : IHeap} (n : Nat) (h8 : 8 ≤ n ∧ n ≤ 256) (hb : maskI n ≠ 0) : ICall Try.prog 26 #[.int .i64 n] h (.tuple #[.pointer none, .int .i64 2]) h := by
  refine ICall.of_FN ?_
  refine FN.enter mixed (fn := Try.f26) (by kernel_rfl) rfl (by kernel_rfl) fun e hn hg hd => ?_
  simp [Try.f26] at hn
  have a0 : e.get 0 = .int .i64 n := hg 0 (by omega)
  clear hg
  have h1 : ¬ (n : Int) < 8 := by omega
  have h2 : ¬ (262144 : Int) < n := by omega
  unfold maskI at hb
  simp (maxSteps := 1000000) (disch := first | (simp; done) | (simp only [IHeap.size_push', IHeap.size_set']; omega) | omega) [a0, hn, hd, h1, h2, wrap64, hb]
theorem ni54 : notInt Try.prog 88 = true := by kernel_rfl
theorem clone_c {h : IHeap} {q : Nat} {t : TB} (hlen : t.ps.length ≤ 1000) (hq : t.ps ≠ [] → h.get q = some (.row false 3 (flat3 t.ps))) : FN Try.prog 63 #[t.slc q] h (Q := ⟨fun v h' => Fr h h' [] ∧ ∃ r, v = t.slc r ∧ (t.ps ≠ [] → h.size ≤ r ∧ h'.get r = some (.row false 3 (flat3 t.ps)))⟩) := by
  refine FN.enter mixed (fn := Try.f63) (by kernel_rfl) rfl (by kernel_rfl) fun e hn hg hd => ?_
  simp [Try.f63] at hn
  have a0 : e.get 0 = t.slc q := hg 0 (by omega)
  clear hg
  by_cases hc : t.ps = []
  · simp (maxSteps := 1000000) (disch := first | (simp; done) | (simp only [IHeap.size_push', IHeap.size_set']; omega) | omega) [a0, hn, hd, TB.slc, hc]
    exact Fr.refl _
  · have hq := hq hc
    have hqz := IHeap.get_lt hq
    have hpos := List.length_pos_iff.2 hc
    have ap : iappend Try.prog (h.push (.row false 3 [])) 88 88 (.slice (some ⟨h.size, 0, none⟩) 0 0) (.slice (some ⟨q, 0, none⟩) t.ps.length t.ps.length) = some (.slice (some ⟨h.size + 1, 0, none⟩) t.ps.length t.ps.length, ((h.push (.row false 3 [])).set h.size .dead).push (.row false 3 (flat3 t.ps))) := by
      have hq2 : (h.push (.row false 3 [])).get q = some (.row false 3 (flat3 t.ps)) := by simp (maxSteps := 1000000) (disch := first | (simp; done) | (simp only [IHeap.size_push', IHeap.size_set']; omega) | omega) [hq]
      have he2 : (h.push (.row false 3 [])).get h.size = some (.row false 3 []) := by simp (maxSteps := 1000000) (disch := first | (simp; done) | (simp only [IHeap.size_push', IHeap.size_set']; omega) | omega) []
      have := iapp_grow (P := Try.prog) (h := h.push (.row false 3 [])) (t := 88) (t2 := 88) (c := 0) (n := 0) (q := 0) (olds := []) sl88 ze94 bt94 (by rfl) (by omega) ni54 (src_row (c := t.ps.length) (m := t.ps.length) hq2 (slots_full _ (by rw [flat3_len])) (by omega)) (flat3_all t.ps) (by omega) (by omega) he2 (.inr rfl) (by simp [slots])
      simpa using this
    simp (maxSteps := 1000000) (disch := first | (simp; done) | (simp only [IHeap.size_push', IHeap.size_set']; omega) | omega) [a0, hn, hd, TB.slc, hc, zeros, ap]
    exact ((Fr.refl _).push _).push _
theorem copy_c {h : IHeap} {p q : Nat} {t : TB} (hlen : 8 ≤ t.ps.length ∧ t.ps.length ≤ 1000) (x : t.at h p q) : FN Try.prog 48 #[.pointer (some ⟨p, 0, none⟩)] h (Q := ⟨fun v h' => v = .pointer (some ⟨h.size, 0, none⟩) ∧ (∃ q', t.at h' h.size q' ∧ h.size ≤ q') ∧ Fr h h' []⟩) := by
  refine FN.enter mixed (fn := Try.f48) (by kernel_rfl) rfl (by kernel_rfl) fun e hn hg hd => ?_
  simp [Try.f48] at hn
  have a0 : e.get 0 = .pointer (some ⟨p, 0, none⟩) := hg 0 (by omega)
  clear hg
  have hp := x.gp
  have hpz := IHeap.get_lt hp
  have hne : ¬ t.ps.length = 0 := by omega
  simp (maxSteps := 1000000) (disch := first | (simp; done) | (simp only [IHeap.size_push', IHeap.size_set']; omega) | omega) [a0, hn, hd]
  refine FN.of (places_c (.inr ⟨p, rfl, x⟩)) ?_
  have os : (t.slc q).oneCell' = true := by unfold TB.slc; split <;> rfl
  simp (maxSteps := 1000000) (disch := first | (simp; done) | (simp only [IHeap.size_push', IHeap.size_set']; omega) | omega) [a0, hn, hd, hp, hne, TB.row, one_int, one_slc, os]
  refine FN.mono (clone_c (q := q) (t := t) (by omega) (fun hc => by
    obtain ⟨g1, _⟩ := x.gq hc
    have := IHeap.get_lt g1
    simp (maxSteps := 1000000) (disch := first | (simp; done) | (simp only [IHeap.size_push', IHeap.size_set']; omega) | omega) [g1])) ?_
  rintro v h2 ⟨fr, r, rfl, hr⟩
  have hz := fr.size
  simp only [IHeap.size_push'] at hz
  have g2 : h2.get h.size = some (.row false 0 [t.slc q, .int .i64 t.en, .int .i64 t.ma]) := by
    rw [fr.get _ (by (try simp only [IHeap.size_push', IHeap.size_set']); omega)]
    simp (maxSteps := 1000000) (disch := first | (simp; done) | (simp only [IHeap.size_push', IHeap.size_set']; omega) | omega) []
  have go : ∀ i, i < h.size → h2.get i = h.get i := fun i hi => by
    rw [fr.get _ (by simp only [IHeap.size_push']; omega)]; simp (maxSteps := 1000000) (disch := first | (simp; done) | (simp only [IHeap.size_push', IHeap.size_set']; omega) | omega) []
  obtain ⟨A, n', c', hs⟩ : ∃ A n c, t.slc r = .slice A n c := by unfold TB.slc; split <;> exact ⟨_, _, _, rfl⟩
  rw [hs]
  simp (maxSteps := 1000000) (disch := first | (simp; done) | (simp only [IHeap.size_push', IHeap.size_set']; omega) | omega) [a0, hn, hd, g2, one_slc]
  rw [← hs]
  refine ⟨?_, ⟨by simp only [IHeap.size_set']; omega, fun i hi => ?_⟩⟩
  · have hc : t.ps ≠ [] := fun h => by rw [h] at hlen; simp at hlen
    obtain ⟨r1, r2⟩ := hr hc
    simp only [IHeap.size_push'] at r1
    have h3 : r ≠ h.size := by omega
    exact ⟨r, ⟨by simp (maxSteps := 1000000) (disch := first | (simp; done) | (simp only [IHeap.size_push', IHeap.size_set']; omega) | omega) [TB.row], fun _ => ⟨by simp (maxSteps := 1000000) (disch := first | (simp; done) | (simp only [IHeap.size_push', IHeap.size_set']; omega) | omega) [h3, Ne.symm h3, r2], h3⟩⟩, by omega⟩
  · have := go i hi
    simp (maxSteps := 1000000) (disch := first | (simp; done) | (simp only [IHeap.size_push', IHeap.size_set']; omega) | omega) [this]
theorem all_it {h : IHeap} {l b q : Nat} {A : Option Addr} {t : TB} (hll : t.ps.length ≤ 1000) (J : Nat → IHeap → Prop) (S : IHeap → Prop)
    (hb : ∀ k h, J k h → h.get b = some (.row false 0 [.pointer A])) (hx : ∀ k h, J k h → TIs h A t q)
    (hJ : ∀ (k : Nat) h c, t.ps[k]? = some c → c.2.2 = 1 → J k h → RN Try.prog l #[.int .i64 k, .agg #[.int .u64 c.1, .int .u32 c.2.1]] h (Q := ⟨fun v h' => (v = .bool true ∧ J (k + 1) h') ∨ (v = .bool false ∧ S h')⟩))
    (hN : ∀ (k : Nat) h c, t.ps[k]? = some c → c.2.2 ≠ 1 → J k h → J (k + 1) h)
    (hF : ∀ k h h', J k h → Fr h h' [] → J k h') (h0 : J 0 h) :
    FN Try.prog 64 #[.func (.yield l) #[] #[], .pointer (some ⟨b, 0, none⟩)] h (Q := ⟨fun _ h' => J t.ps.length h' ∨ S h'⟩) := by
  refine FN.enter mixed (fn := Try.f64) (by kernel_rfl) rfl (by kernel_rfl) fun e hn hg hd => ?_
  simp [Try.f64] at hn
  have a0 : e.get 0 = .func (.yield l) #[] #[] := hg 0 (by omega)
  have a1 : e.get 1 = .pointer (some ⟨b, 0, none⟩) := hg 1 (by omega)
  clear hg
  have gb := hb _ _ h0
  simp (maxSteps := 1000000) (disch := first | (simp; done) | (simp only [IHeap.size_push', IHeap.size_set']; omega) | omega) [a0, a1, hn, hd, gb]
  refine FN.of (places_c (hx _ _ h0)) ?_
  simp (maxSteps := 1000000) (disch := first | (simp; done) | (simp only [IHeap.size_push', IHeap.size_set']; omega) | omega) [a0, a1, hn, hd]
  refine WPL.by_inv mixed (by kernel_rfl) (fun k e h' => ∃ i : Nat, i + k = t.ps.length ∧ e.n = 26 ∧ e.dfr = [] ∧ e.get 0 = .func (.yield l) #[] #[] ∧ e.get 1 = .pointer (some ⟨b, 0, none⟩) ∧ e.get 7 = .int .i64 t.ps.length ∧ e.get 8 = .int .i64 i ∧ J i h') t.ps.length ?_ ?_
  · refine ⟨0, ?_⟩
    simp (maxSteps := 1000000) (disch := first | (simp; done) | (simp only [IHeap.size_push', IHeap.size_set']; omega) | omega) [a0, a1, hn, hd, h0]
  clear hn hd a0 a1 gb e
  rintro k e h1 ⟨i, hi, hn, hd, e0, e1, e7, e8, j⟩
  have gb := hb _ _ j
  cases k with
  | zero =>
    obtain rfl : i = t.ps.length := by omega
    simp (maxSteps := 1000000) (disch := first | (simp; done) | (simp only [IHeap.size_push', IHeap.size_set']; omega) | omega) [e0, e1, e7, e8, hn, hd]
    exact .inl j
  | succ k =>
    have hlt : (i : Int) < t.ps.length := by omega
    have hlt2 : i < t.ps.length := by omega
    obtain ⟨c, hcc⟩ : ∃ c, t.ps[i]? = some c := ⟨t.ps[i], by simp [hlt2]⟩
    simp (maxSteps := 1000000) (disch := first | (simp; done) | (simp only [IHeap.size_push', IHeap.size_set']; omega) | omega) [e0, e1, e7, e8, hn, hd, hlt, gb]
    refine FN.ct (get_c (hx _ _ j) i) ?_
    intro h2 fr
    have j2 := hF _ _ _ j fr
    by_cases hz : c.2.2 = 1
    · have hv : t.get i = .tuple #[.agg #[.int .u64 c.1, .int .u32 c.2.1], .bool true] := by
        unfold TB.get; rw [if_pos (by omega), Int.toNat_natCast, hcc]; simp only [hz, if_true]
      have j3 := hF _ _ _ j2 ((Fr.refl _).push (.row false 0 [.int .u64 c.1, .int .u32 c.2.1]))
      rw [hv]
      simp (maxSteps := 1000000) (disch := first | (simp; done) | (simp only [IHeap.size_push', IHeap.size_set']; omega) | omega) [e0, e1, e7, e8, hn, hd, one_int, zeros]
      refine RN.mono (hJ i _ c hcc hz j3) ?_
      rintro v h4 (⟨rfl, j4⟩ | ⟨rfl, s4⟩)
      · simp (maxSteps := 1000000) (disch := first | (simp; done) | (simp only [IHeap.size_push', IHeap.size_set']; omega) | omega) [e0, e1, e7, e8, hn, hd, wrap64]
        exact ⟨k, by omega, i + 1, by omega, by omega, j4⟩
      · simp (maxSteps := 1000000) (disch := first | (simp; done) | (simp only [IHeap.size_push', IHeap.size_set']; omega) | omega) [e0, e1, e7, e8, hn, hd]
        exact .inr s4
    · have hv : t.get i = .tuple #[.agg #[.int .u64 0, .int .u32 0], .bool false] := by
        unfold TB.get; rw [if_pos (by omega), Int.toNat_natCast, hcc]; simp only [hz, if_false]
      have j3 := hN i _ c hcc hz (hF _ _ _ j2 ((Fr.refl _).push (.row false 0 [.int .u64 0, .int .u32 0])))
      rw [hv]
      simp (maxSteps := 1000000) (disch := first | (simp; done) | (simp only [IHeap.size_push', IHeap.size_set']; omega) | omega) [e0, e1, e7, e8, hn, hd, one_int, zeros, wrap64]
      exact ⟨k, by omega, i + 1, by omega, by omega, j3⟩
end Go.Proofs.Ytmobpbhbllhdcaa.Ideal
