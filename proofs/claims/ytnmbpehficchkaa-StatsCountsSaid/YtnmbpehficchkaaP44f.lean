import Derived.Test.YtnmbpehficchkaaP44e
noncomputable section
open Go.Proofs
namespace Go.Proofs.Ytnmbpehficchkaa.Ideal
open Go.RowKit
set_option linter.unusedSimpArgs false
set_option linter.unusedVariables false
set_option maxRecDepth 100000
set_option maxHeartbeats 4000000
attribute [-simp] IHeap.size_set IHeap.size_push
attribute [local simp ↓] Hid.ap_mk
attribute [local simp] scopeQ_normal scopeQ_ret scopeQ_exit WP_skip WP_label WP_exit WP_goto WP_ret WP_region WP_seq WP_cond WP_block WP_scope WP_loop WP_range thenQ_normal thenQ_ret thenQ_exit thenQ_goto loopQ_normal loopQ_ret loopQ_exit invQ_normal invQ_ret invQ_exit outOf_normal outOf_ret outOf_goto outOf_exit ev_tmp ev_const ev_func
  wops_nil wops_cons wantedE_none wantedE_some jgd_some wnx_eq niC_false wdo_move wdo_assign wdo_pick wdo_load wdo_store wdo_alloc wdo_box wdo_fieldAddr wdo_indexAddr wdo_field wdo_extract wdo_build wdo_buildSlice wdo_makeSlice wdo_binOp wdo_unOp wdo_makeFunc wdo_nilCheck wdo_callV wdo_len wdo_append wdo_copy wdo_delete wdo_max wdo_min wdo_convert jcvt_int
  xput_get put_n put_none put_dfr ibin finQ_n finQ_r finD_nil splice_one ires_nil ires_one ires_two ires_three ires1_tmp ires1_cell jcell_ptr rowLoad_row wrap64 wrapU64 wrapU8 wrapU16 wrapU32 callV_fn buildOf Instr.fill Value.cells Value.oneCell' kindOf slots_all splice_all IHeap.size_set' IHeap.size_push' IHeap.get_set_same IHeap.get_set_ne IHeap.get_pushed IHeap.get_push_ne IHeap.set_set IHeap.set_push IHeap.set_pushed IHeap.set_set3 getU_nil getU_same getU_ne jif_true jif_false pushH_eq setH_eq forceL_eq forceV_eq ibuildSlice
attribute [local simp] wdo_index jopt_some
/-- Both ends of numbers. -/
def endsL (l : List Nat) (a b : Nat) : Value := if l = [] then .tuple #[.int .u64 0, .int .u64 0, .bool false] else .tuple #[.int .u64 a, .int .u64 b, .bool true]
/-- The least and the greatest one. -/
structure Ext (l : List Nat) (a b : Nat) : Prop where
  lo : ∀ n ∈ l, a ≤ n
  hi : ∀ n ∈ l, n ≤ b
  a : l ≠ [] → a ∈ l
  b : l ≠ [] → b ∈ l
theorem sorted_ext {s l : List Nat} (hp : s.Perm l) (hs : s.Pairwise (· ≤ ·)) (hne : s ≠ []) (h0 : 0 < s.length) : Ext l s[0] (s[s.length - 1]'(by omega)) := by
  refine ⟨fun n hn => ?_, fun n hn => ?_, fun _ => hp.mem_iff.1 (List.getElem_mem _), fun _ => hp.mem_iff.1 (List.getElem_mem _)⟩
  · obtain ⟨i, hi, rfl⟩ := List.mem_iff_getElem.1 (hp.mem_iff.2 hn)
    by_cases c : i = 0
    · subst c; exact Nat.le_refl _
    · exact List.pairwise_iff_getElem.1 hs 0 i h0 hi (by omega)
  · obtain ⟨i, hi, rfl⟩ := List.mem_iff_getElem.1 (hp.mem_iff.2 hn)
    by_cases c : i = s.length - 1
    · subst c; exact Nat.le_refl _
    · exact List.pairwise_iff_getElem.1 hs i (s.length - 1) hi (by omega) (by omega)
theorem rends_c {h : IHeap} {A : Option Addr} {l : List Nat} {cap : Nat} (hb : RowsAt h A (u64s l)) (hl : l.length ≤ 1000) (hbs : ∀ n ∈ l, n < 2 ^ 64) :
    FN Try.prog 38 #[.slice A l.length cap] h (Q := ⟨fun v h' => h.size ≤ h'.size ∧ (∀ i, i < h.size → h'.get i = h.get i) ∧ ∃ a b, Ext l a b ∧ v = endsL l a b⟩) := by
  refine FN.enter mixed (fn := Try.f38) (by kernel_rfl) rfl (by kernel_rfl) fun e hn hg hd => ?_
  simp [Try.f38] at hn
  have a0 : e.get 0 = .slice A l.length cap := hg 0 (by omega)
  clear hg
  simp (maxSteps := 1000000) (disch := first | (simp; done) | (simp only [IHeap.size_push', IHeap.size_set']; omega) | omega) [a0, hn, hd]
  refine FN.mono (sorted_c hb hl hbs) ?_
  rintro v h1 ⟨hz, hold, s, hp, hs, ho⟩
  have hsl := hp.length_eq
  rcases ho with ⟨rfl, rfl⟩ | ⟨hne, b, hbz, rfl, hrb⟩
  · have : l = [] := List.eq_nil_of_length_eq_zero (by simpa using hsl.symm)
    subst this
    simp (maxSteps := 1000000) (disch := first | (simp; done) | (simp only [IHeap.size_push', IHeap.size_set']; omega) | omega) [a0, hn, hd, endsL]
    exact ⟨hz, hold, 0, 0, ⟨by simp, by simp, by simp, by simp⟩⟩
  · have h0 := List.length_pos_iff.2 hne
    have hlne : l ≠ [] := by intro e; subst e; simp at hsl; exact hne hsl
    have ex := sorted_ext hp hs hne h0
    have gs : (u64s s)[s.length - 1]? = some (.int .u64 (s[s.length - 1] : Nat)) := by simp only [u64s, List.getElem?_map, List.getElem?_eq_getElem (show s.length - 1 < s.length by omega), Option.map_some]
    have gs0 : (u64s s)[0]? = some (.int .u64 (s[0] : Nat)) := by simp [u64s, h0]
    have c1 : ¬ (s.length : Int) = 0 := by omega
    have c3 : (1 : Int) ≤ s.length := by omega
    have c4 : (s.length : Int) - 1 < s.length := by omega
    have c5 : ((s.length : Int) - 1).toNat = s.length - 1 := by omega
    have c6 : (0 : Int) < s.length := by omega
    simp (maxSteps := 1000000) (disch := first | (simp; done) | (simp only [IHeap.size_push', IHeap.size_set']; omega) | omega) [a0, hn, hd, hrb, gs, gs0, c1, c3, c4, c5, c6, hne, h0]
    exact ⟨niC_of (by kernel_rfl), hz, hold, _, _, ex, by rw [endsL, if_neg hlne]⟩
/-- The k-th one's digits. -/
theorem sorted_at {s l : List Nat} (hp : s.Perm l) (hs : s.Pairwise (· ≤ ·)) {x : HG} (isx : x.Is l) {k i : Nat} (a : x.At k i) (h0 : 1 ≤ k) (hk : k - 1 < s.length) : bl s[k - 1] = i := by
  have h1 := a.lo
  have h2 := a.hi
  rw [isx.takes] at h1 h2
  have e : ∀ j, cnt l j = cnt s j := fun j => hp.symm.countP_eq _
  rw [e] at h1 h2
  have mono : ∀ {a b : Nat}, a ≤ b → bl a ≤ bl b := fun {a b} hab => bl_le.2 (Nat.lt_of_le_of_lt hab (bl_le.1 (Nat.le_refl _)))
  rcases Nat.lt_trichotomy (bl s[k - 1]) i with c | c | c
  · exfalso
    have : k ≤ cnt s i := by
      have h3 : cnt (s.take k) i = k := by
        unfold cnt
        rw [List.countP_eq_length.2 (fun n hn => ?_)]
        · simp; omega
        · obtain ⟨j, hj, rfl⟩ := List.mem_iff_getElem.1 hn
          simp at hj
          rw [List.getElem_take]
          have : s[j] ≤ s[k - 1] := by
            by_cases cj : j = k - 1
            · subst cj; exact Nat.le_refl _
            · exact List.pairwise_iff_getElem.1 hs j (k - 1) (by omega) hk (by omega)
          have := mono this
          simp; omega
      rw [← h3]
      unfold cnt
      exact (List.take_sublist k s).countP_le
    omega
  · exact c
  · exfalso
    have : cnt s (i + 1) ≤ k - 1 := by
      unfold cnt
      rw [← List.take_append_drop (k - 1) s, List.countP_append]
      have h3 : (s.drop (k - 1)).countP (fun n => decide (bl n < i + 1)) = 0 := by
        rw [List.countP_eq_zero]
        intro n hn
        obtain ⟨j, hj, rfl⟩ := List.mem_iff_getElem.1 hn
        simp at hj
        rw [List.getElem_drop]
        have : s[k - 1] ≤ s[k - 1 + j] := by
          by_cases cj : j = 0
          · subst cj; exact Nat.le_refl _
          · exact List.pairwise_iff_getElem.1 hs (k - 1) (k - 1 + j) hk (by omega) (by omega)
        have := mono this
        simp; omega
      rw [h3]
      have := List.countP_le_length (p := fun n => decide (bl n < i + 1)) (l := s.take (k - 1))
      simp at this ⊢
      omega
    omega
theorem rquantile_n {h : IHeap} {A : Option Addr} {l : List Nat} {cap : Nat} {q : Int} (c : l = [] ∨ q < 0 ∨ 1000 < q) :
    ICall Try.prog 39 #[.slice A l.length cap, .int .i64 q] h (.tuple #[.int .u64 0, .bool false]) h := by
  refine ICall.of_FN ?_
  refine FN.enter mixed (fn := Try.f39) (by kernel_rfl) rfl (by kernel_rfl) fun e hn hg hd => ?_
  simp [Try.f39] at hn
  have a0 : e.get 0 = .slice A l.length cap := hg 0 (by omega)
  have a1 : e.get 1 = .int .i64 q := hg 1 (by omega)
  clear hg
  by_cases c1 : l = []
  · subst c1
    simp (maxSteps := 1000000) (disch := first | (simp; done) | (simp only [IHeap.size_push', IHeap.size_set']; omega) | omega) [a0, a1, hn, hd, undef]
  have c1' := List.length_pos_iff.2 c1
  have c1'' : ¬ (l.length : Int) = 0 := by omega
  by_cases c2 : q < 0
  · simp (maxSteps := 1000000) (disch := first | (simp; done) | (simp only [IHeap.size_push', IHeap.size_set']; omega) | omega) [a0, a1, hn, hd, c1, c1'', c2, undef]
  by_cases c3 : 1000 < q
  · simp (maxSteps := 1000000) (disch := first | (simp; done) | (simp only [IHeap.size_push', IHeap.size_set']; omega) | omega) [a0, a1, hn, hd, c1, c1'', c2, c3, undef]
  simp [c1] at c
  omega
theorem rquantile_c {h : IHeap} {A : Option Addr} {l : List Nat} {cap q : Nat} {x : HG} {i : Nat} (isx : x.Is l) (at' : x.At (rk q l.length) i) (hq : q ≤ 1000) (hne : l ≠ []) (hb : RowsAt h A (u64s l)) (hl : l.length ≤ 1000) (hbs : ∀ n ∈ l, n < 2 ^ 64) :
    FN Try.prog 39 #[.slice A l.length cap, .int .i64 q] h (Q := ⟨fun v h' => h.size ≤ h'.size ∧ (∀ i, i < h.size → h'.get i = h.get i) ∧ v = .tuple #[.int .u64 (x.top i), .bool true]⟩) := by
  refine FN.enter mixed (fn := Try.f39) (by kernel_rfl) rfl (by kernel_rfl) fun e hn hg hd => ?_
  simp [Try.f39] at hn
  have a0 : e.get 0 = .slice A l.length cap := hg 0 (by omega)
  have a1 : e.get 1 = .int .i64 q := hg 1 (by omega)
  clear hg
  have c1' := List.length_pos_iff.2 hne
  have c1'' : ¬ (l.length : Int) = 0 := by omega
  have c2 : ¬ (q : Int) < 0 := by omega
  have c3 : ¬ (1000 : Int) < q := by omega
  have c4 : ¬ 1000 < q := by omega
  simp (maxSteps := 1000000) (disch := first | (simp; done) | (simp only [IHeap.size_push', IHeap.size_set']; omega) | omega) [a0, a1, hn, hd, hne, c1'', c2, c3, c4]
  refine FN.mono (sorted_c hb hl hbs) ?_
  rintro v h1 ⟨hz, hold, s, hp, hs, ho⟩
  have hsl := hp.length_eq
  rcases ho with ⟨rfl, rfl⟩ | ⟨hne', b, hbz, rfl, hrb⟩
  · simp at hsl; omega
  have w0 : q * l.length ≤ 1000000 := Nat.le_trans (Nat.mul_le_mul hq hl) (by decide)
  have w1 : (q : Int) * s.length = ((q * l.length : Nat) : Int) := by rw [hsl]; push_cast; rfl
  have w2 : IntKind.i64.wrap ((q : Int) * s.length) = ((q * l.length : Nat) : Int) := by rw [w1]; exact wrap64 (by omega) (by omega)
  have w3 : ((q * l.length : Nat) : Int).tdiv 1000 = ((q * l.length / 1000 : Nat) : Int) := by rw [Int.tdiv_eq_ediv_of_nonneg (by omega)]; push_cast; rfl
  have w4 : ((q * l.length : Nat) : Int).tmod 1000 = ((q * l.length % 1000 : Nat) : Int) := by rw [Int.tmod_eq_emod_of_nonneg (by omega)]; push_cast; rfl
  obtain ⟨N, hN⟩ : ∃ N, N = q * l.length := ⟨_, rfl⟩
  have hrk : rk q l.length = max ((N + 999) / 1000) 1 := by rw [hN]; rfl
  obtain ⟨k, hk⟩ : ∃ k, k = rk q l.length := ⟨_, rfl⟩
  have k1 := rk_pos q l.length
  have k2 := rk_le hq (show 1 ≤ l.length by omega)
  rw [← hk] at k1 k2 hrk at'
  rw [← hN] at w0 w2 w3 w4
  simp (maxSteps := 1000000) (disch := first | (simp; done) | (simp only [IHeap.size_push', IHeap.size_set']; omega) | omega) [-WP_seq, a0, a1, hn, hd, w2, w3, w4]
  refine WP.cut3 (fun e' h' => h' = h1 ∧ e'.n = 66 ∧ e'.dfr = [] ∧ e'.get 6 = .slice (some ⟨b, 0, none⟩) s.length s.length ∧ e'.get 7 = .int .i64 k) ?_ ?_
  · by_cases r0 : N % 1000 = 0
    · by_cases n0 : N / 1000 = 0
      · have e1 : k = 1 := by omega
        have e2 : (N : Int) / 1000 = 0 := by omega
        have e3 : (N : Int) % 1000 = 0 := by omega
        simp (maxSteps := 1000000) (disch := first | (simp; done) | (simp only [IHeap.size_push', IHeap.size_set']; omega) | omega) [a0, a1, hn, hd, w2, w3, w4, r0, n0, e1, e2, e3]
      · have e1 : k = N / 1000 := by omega
        have e2 : ¬ (N : Int) / 1000 = 0 := by omega
        have e3 : (N : Int) % 1000 = 0 := by omega
        have e4 : ¬ N < 1000 := by omega
        simp (maxSteps := 1000000) (disch := first | (simp; done) | (simp only [IHeap.size_push', IHeap.size_set']; omega) | omega) [a0, a1, hn, hd, w2, w3, w4, r0, n0, e1, e2, e3, e4]
    · have e1 : k = N / 1000 + 1 := by omega
      have e3 : (0 : Int) < (N : Int) % 1000 := by omega
      have e4 : 0 < N % 1000 := by omega
      have e5 : ¬ (N : Int) / 1000 + 1 = 0 := by omega
      simp (maxSteps := 1000000) (disch := first | (simp; done) | (simp only [IHeap.size_push', IHeap.size_set']; omega) | omega) [a0, a1, hn, hd, w2, w3, w4, r0, e1, e3, e4, e5]
  clear hn hd a0 a1 e w2 w3 w4 w1
  rintro e h1' ⟨rfl, hn, hd, a6, a7⟩
  have hks : k - 1 < s.length := by omega
  have gs : (u64s s)[k - 1]? = some (.int .u64 (s[k - 1] : Nat)) := by simp only [u64s, List.getElem?_map, List.getElem?_eq_getElem hks, Option.map_some]
  have d1 : (1 : Int) ≤ k := by omega
  have d2 : (k : Int) - 1 < s.length := by omega
  have d3 : ((k : Int) - 1).toNat = k - 1 := by omega
  have sb : s[k - 1] < 2 ^ 64 := hbs _ (hp.mem_iff.1 (List.getElem_mem hks))
  simp (maxSteps := 1000000) (disch := first | (simp; done) | (simp only [IHeap.size_push', IHeap.size_set']; omega) | omega) [a6, a7, hn, hd]
  refine WPL.by_inv mixed (by kernel_rfl) (fun m e h' => ∃ j : Nat, j + m = bl s[k - 1] ∧ h' = h1' ∧ e.n = 66 ∧ e.dfr = [] ∧ e.get 6 = .slice (some ⟨b, 0, none⟩) s.length s.length ∧ e.get 7 = .int .i64 k ∧ e.get 9 = .int .i64 j ∧ e.get 8 = .int .u64 ((2 ^ j - 1 : Nat) : Int)) (bl s[k - 1]) ?_ ?_
  · refine ⟨0, ?_⟩
    simp (maxSteps := 1000000) (disch := first | (simp; done) | (simp only [IHeap.size_push', IHeap.size_set']; omega) | omega) [a6, a7, hn, hd]
  clear hn hd a6 a7 e
  rintro m e h2' ⟨j, hj, rfl, hn, hd, a6, a7, a9, a8⟩
  have b64 : bl s[k - 1] ≤ 64 := bl_le.2 sb
  cases m with
  | succ m =>
    have c7 : (j : Int) < bl s[k - 1] := by omega
    have c8 : j < bl s[k - 1] := by omega
    have p1 : 1 ≤ 2 ^ j := Nat.one_le_two_pow
    have p2 : 2 ^ j ≤ 2 ^ 63 := Nat.pow_le_pow_right (by decide) (by omega)
    have p3 : 2 ^ (j + 1) = 2 * 2 ^ j := by rw [Nat.pow_succ]; omega
    obtain ⟨P, hP⟩ : ∃ P, P = 2 ^ j := ⟨_, rfl⟩
    rw [← hP] at a8 p1 p2 p3
    have w5 : IntKind.u64.wrap (2 * ((P - 1 : Nat) : Int)) = 2 * ((P - 1 : Nat) : Int) := wrapU64 (by omega) (by omega)
    have w6 : IntKind.u64.wrap (2 * ((P - 1 : Nat) : Int) + 1) = ((2 * P - 1 : Nat) : Int) := by rw [wrapU64 (by omega) (by omega)]; omega
    simp (maxSteps := 1000000) (disch := first | (simp; done) | (simp only [IHeap.size_push', IHeap.size_set']; omega) | omega) [a6, a7, a9, a8, hn, hd, hrb, gs, d1, d2, d3]
    refine FN.of (digits_c sb) ?_
    simp (maxSteps := 1000000) (disch := first | (simp; done) | (simp only [IHeap.size_push', IHeap.size_set']; omega) | omega) [a6, a7, a9, a8, hn, hd, hrb, gs, d1, d2, d3, c7, c8, w5, w6]
    exact ⟨m, by omega, j + 1, by omega, by omega, by rw [p3]⟩
  | zero =>
    obtain rfl : j = bl s[k - 1] := by omega
    simp (maxSteps := 1000000) (disch := first | (simp; done) | (simp only [IHeap.size_push', IHeap.size_set']; omega) | omega) [a6, a7, a9, a8, hn, hd, hrb, gs, d1, d2, d3]
    refine FN.of (digits_c sb) ?_
    have hi : bl s[k - 1] = i := sorted_at hp hs isx at' k1 hks
    have h0 := List.length_pos_iff.2 hne'
    have ex := sorted_ext hp hs hne' h0
    have gl : (u64s s)[s.length - 1]? = some (.int .u64 (s[s.length - 1] : Nat)) := by simp only [u64s, List.getElem?_map, List.getElem?_eq_getElem (show s.length - 1 < s.length by omega), Option.map_some]
    have hgr : x.greatest = s[s.length - 1] := by
      obtain ⟨g1, _, b', hb', eb⟩ := isx.ends hne
      have := (g1 _ (ex.b hne)).2
      have := ex.hi b' hb'
      omega
    have f3 : (1 : Int) ≤ s.length := by omega
    have f4 : (s.length : Int) - 1 < s.length := by omega
    have f5 : ((s.length : Int) - 1).toNat = s.length - 1 := by omega
    have f6 : (0 : Int) < s.length := by omega
    rw [hi] at a9 a8 ⊢
    by_cases c : ((s[s.length - 1] : Nat) : Int) < (2 ^ i - 1 : Nat)
    · have htop : x.top i = s[s.length - 1] := by unfold HG.top; rw [hgr, if_pos c]
      rw [htop]
      have c' : s[s.length - 1] < 2 ^ i - 1 := by omega
      simp (maxSteps := 1000000) (disch := first | (simp; done) | (simp only [IHeap.size_push', IHeap.size_set']; omega) | omega) [a6, a7, a9, a8, hn, hd, hrb, gl, c, c', f3, f4, f5, f6, h0]
      exact ⟨hz, hold⟩
    · have htop : x.top i = (2 ^ i - 1 : Nat) := by unfold HG.top; rw [hgr, if_neg c]
      rw [htop]
      have c' : ¬ s[s.length - 1] < 2 ^ i - 1 := by omega
      simp (maxSteps := 1000000) (disch := first | (simp; done) | (simp only [IHeap.size_push', IHeap.size_set']; omega) | omega) [a6, a7, a9, a8, hn, hd, hrb, gl, c, c', f3, f4, f5, f6, h0]
      exact ⟨hz, hold⟩
end Go.Proofs.Ytnmbpehficchkaa.Ideal
