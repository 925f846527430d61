import Derived.Test.YtnmbpehficchkaaP44k
noncomputable section
open Go.Proofs
namespace Go.Proofs.Ytnmbpehficchkaa.Ideal
open Go.RowKit
set_option linter.unusedSimpArgs false
set_option linter.unusedVariables false
set_option maxRecDepth 100000
set_option maxHeartbeats 4000000
attribute [-simp] IHeap.size_set IHeap.size_push
attribute [local simp ↓] Hid.ap_mk
attribute [local simp] scopeQ_normal scopeQ_ret scopeQ_exit WP_skip WP_label WP_exit WP_goto WP_ret WP_region WP_seq WP_cond WP_block WP_scope WP_loop WP_range thenQ_normal thenQ_ret thenQ_exit thenQ_goto loopQ_normal loopQ_ret loopQ_exit invQ_normal invQ_ret invQ_exit outOf_normal outOf_ret outOf_goto outOf_exit ev_tmp ev_const ev_func
  wops_nil wops_cons wantedE_none wantedE_some jgd_some wnx_eq niC_false wdo_move wdo_assign wdo_pick wdo_load wdo_store wdo_alloc wdo_box wdo_fieldAddr wdo_indexAddr wdo_field wdo_extract wdo_build wdo_buildSlice wdo_makeSlice wdo_binOp wdo_unOp wdo_makeFunc wdo_nilCheck wdo_callV wdo_len wdo_append wdo_copy wdo_delete wdo_max wdo_min wdo_convert jcvt_int
  xput_get put_n put_none put_dfr ibin finQ_n finQ_r finD_nil splice_one ires_nil ires_one ires_two ires_three ires1_tmp ires1_cell jcell_ptr rowLoad_row wrap64 wrapU64 wrapU8 wrapU16 wrapU32 callV_fn buildOf Instr.fill Value.cells Value.oneCell' kindOf slots_all splice_all IHeap.size_set' IHeap.size_push' IHeap.get_set_same IHeap.get_set_ne IHeap.get_pushed IHeap.get_push_ne IHeap.set_set IHeap.set_push IHeap.set_pushed IHeap.set_set3 getU_nil getU_same getU_ne jif_true jif_false pushH_eq setH_eq forceL_eq forceV_eq ibuildSlice
attribute [local simp] wdo_index jopt_some fb_known ze_hist
attribute [-simp] ze28
/-- The last quantile, ahead of q. -/
def LastQ (x : HG) (n : Nat) (q : Nat) (v : Int) : Prop := (q = 0 ∧ v = 0) ∨ ∃ i, 50 ≤ q ∧ x.At (rk (q - 50) n) i ∧ v = x.top i
theorem rk_mono {q q' n : Nat} (h : q ≤ q') : rk q n ≤ rk q' n := by
  unfold rk
  have : q * n ≤ q' * n := Nat.mul_le_mul_right _ h
  omega
theorem HG.top_nonneg {x : HG} {l : List Nat} (h : x.Is l) (hl : l ≠ []) (i : Nat) : 0 ≤ x.top i := by
  obtain ⟨_, _, b, hb, eb⟩ := h.ends hl
  unfold HG.top
  split <;> omega
theorem HG.top_lt (x : HG) {i : Nat} (hi : i < 65) : x.top i < 18446744073709551616 := by
  have : 2 ^ i ≤ 2 ^ 64 := Nat.pow_le_pow_right (by decide) (by omega)
  unfold HG.top
  split <;> omega
theorem rk_all {n : Nat} (h : 1 ≤ n) : rk 1000 n = n := by unfold rk; omega
theorem quantiles_c {h : IHeap} {A : Option Addr} {l : List Nat} {cap : Nat} (hb : RowsAt h A (l.map fun n => .int .u64 (n : Nat))) (hl : ∀ n ∈ l, n < 2 ^ 64) :
    FN Try.prog 3 #[.slice A l.length cap] h (Q := ⟨fun v _ => v = .bool true⟩) := by
  refine FN.enter mixed (fn := Try.f3) (by kernel_rfl) rfl (by kernel_rfl) fun e hn hg hd => ?_
  simp [Try.f3] at hn
  have a0 : e.get 0 = .slice A l.length cap := hg 0 (by omega)
  clear hg
  by_cases c1 : (100 : Int) < l.length
  · simp (maxSteps := 1000000) (disch := first | (simp; done) | (simp only [IHeap.size_push', IHeap.size_set']; omega) | omega) [a0, hn, hd, c1]
    refine FN.of known_c ?_
    simp (maxSteps := 1000000) (disch := first | (simp; done) | (simp only [IHeap.size_push', IHeap.size_set']; omega) | omega) [hn, hd]
  have c1' : l.length ≤ 100 := by omega
  simp (maxSteps := 1000000) (disch := first | (simp; done) | (simp only [IHeap.size_push', IHeap.size_set']; omega) | omega) [a0, hn, hd, c1]
  refine WPL.by_inv mixed (by kernel_rfl) (fun k e h' => ∃ j, j + k = l.length ∧ e.n = 88 ∧ e.dfr = [] ∧ e.get 0 = .slice A l.length cap ∧ e.get 3 = .pointer (some ⟨h.size, 0, none⟩) ∧ e.get 22 = .slice A l.length cap ∧ e.get 23 = .int .i64 l.length ∧ e.get 24 = .int .i64 j ∧ h'.get h.size = some (HG.of (l.take j)).obj ∧ ∀ i, i < h.size → h'.get i = h.get i) l.length ?_ ?_
  · refine ⟨0, ?_⟩
    simp (maxSteps := 1000000) (disch := first | (simp; done) | (simp only [IHeap.size_push', IHeap.size_set']; omega) | omega) [a0, hn, hd]
    exact ⟨rfl, fun i hi => by simp (maxSteps := 1000000) (disch := first | (simp; done) | (simp only [IHeap.size_push', IHeap.size_set']; omega) | omega) []⟩
  clear hn hd a0 e
  rintro k e h1 ⟨j, hj, hn, hd, e0, e3, e22, e23, e24, hx, hold⟩
  cases k with
  | succ k =>
    have hlt : j < l.length := by omega
    have hlt2 : (j : Int) < l.length := by omega
    obtain ⟨i, o, ro, esz, cs, rfl, hrow, hcs⟩ := hb.at (j := j) (by simpa using hlt)
    have g1 := hcs j (.int .u64 l[j]) (by simp [hlt])
    have g2 : h1.get i = some (.row ro esz cs) := by rw [hold i (IHeap.get_lt hrow)]; exact hrow
    have hz := IHeap.get_lt hx
    simp (maxSteps := 1000000) (disch := first | (simp; done) | (simp only [IHeap.size_push', IHeap.size_set']; omega) | omega) [e0, e3, e22, e23, e24, hn, hd, hlt2, hlt, g1, g2]
    refine FN.of (add_c (hl _ (List.getElem_mem hlt)) ((HG.of_is (l.take j) (fun n hn => hl n (List.mem_of_mem_take hn))).ok (by simp; omega)) hx) ?_
    simp (maxSteps := 1000000) (disch := first | (simp; done) | (simp only [IHeap.size_push', IHeap.size_set']; omega) | omega) [e0, e3, e22, e23, e24, hn, hd]
    refine ⟨k, by omega, j + 1, by omega, by omega, ?_, fun i hi => ?_⟩
    · rw [List.take_succ_eq_append_getElem hlt, HG.of_snoc]
    · have : h.size ≠ i := by omega
      simp (maxSteps := 1000000) (disch := first | (simp; done) | (simp only [IHeap.size_push', IHeap.size_set']; omega) | omega) [this]
      exact hold i hi
  | zero =>
    obtain rfl : j = l.length := by omega
    rw [List.take_length] at hx
    have isx := HG.of_is l hl
    generalize HG.of l = x at hx isx
    have okx : x.ok 1000 := isx.ok (by omega)
    simp (maxSteps := 1000000) (disch := first | (simp; done) | (simp only [IHeap.size_push', IHeap.size_set']; omega) | omega) [e0, e3, e22, e23, e24, hn, hd]
    have hz := IHeap.get_lt hx
    replace hb := hb.old hold
    clear e22 e23 e24 hold
    refine WPL.by_inv mixed (by kernel_rfl) (fun k e h' => ∃ (m : Nat) (v : Int), m + k = 21 ∧ h' = h1 ∧ e.n = 88 ∧ e.dfr = [] ∧ e.get 0 = .slice A l.length cap ∧ e.get 3 = .pointer (some ⟨h.size, 0, none⟩) ∧ e.get 7 = .int .i64 (50 * m) ∧ e.get 6 = .int .u64 v ∧ (l = [] → v = 0) ∧ (l ≠ [] → LastQ x l.length (50 * m) v)) 21 ?_ ?_
    · refine ⟨0, 0, ?_⟩
      simp (maxSteps := 1000000) (disch := first | (simp; done) | (simp only [IHeap.size_push', IHeap.size_set']; omega) | omega) [e0, e3, hn, hd]
      exact fun _ => .inl ⟨rfl, rfl⟩
    clear hn hd e0 e3 e
    rintro k e h2 ⟨m, v, hm, rfl, hn, hd, e0, e3, e7, e6, hv0, hv⟩
    cases k with
    | zero =>
      obtain rfl : m = 21 := by omega
      simp (maxSteps := 1000000) (disch := first | (simp; done) | (simp only [IHeap.size_push', IHeap.size_set']; omega) | omega) [e0, e3, e7, e6, hn, hd]
      refine FN.of (ends_c okx hx) ?_
      by_cases hle : l = []
      · have : x.by'.sum = 0 := by rw [isx.tot, hle]; rfl
        simp (maxSteps := 1000000) (disch := first | (simp; done) | (simp only [IHeap.size_push', IHeap.size_set']; omega) | omega) [e0, e3, e7, e6, hn, hd, HG.ends, this, undef]
        refine FN.of known_c ?_
        simp (maxSteps := 1000000) (disch := first | (simp; done) | (simp only [IHeap.size_push', IHeap.size_set']; omega) | omega) [hn, hd]
      · have hpos := List.length_pos_iff.2 hle
        have : ¬ x.by'.sum = 0 := by rw [isx.tot]; omega
        have hvg : v = x.greatest := by
          rcases hv hle with ⟨h, _⟩ | ⟨i, _, a, rfl⟩
          · omega
          · rw [show 50 * 21 - 50 = 1000 from rfl, rk_all hpos] at a
            exact a.last isx hle
        simp (maxSteps := 1000000) (disch := first | (simp; done) | (simp only [IHeap.size_push', IHeap.size_set']; omega) | omega) [e0, e3, e7, e6, hn, hd, HG.ends, this, hvg]
        refine FN.of known_c ?_
        simp (maxSteps := 1000000) (disch := first | (simp; done) | (simp only [IHeap.size_push', IHeap.size_set']; omega) | omega) [hn, hd]
    | succ k =>
      have q1 : ((50 * m : Nat) : Int) ≤ 1000 := by omega
      have q1' : (50 : Int) * m ≤ 1000 := by omega
      simp (maxSteps := 1000000) (disch := first | (simp; done) | (simp only [IHeap.size_push', IHeap.size_set']; omega) | omega) [e0, e3, e7, e6, hn, hd, q1, q1']
      by_cases hle : l = []
      · subst hle
        have : x.by'.sum = 0 := by rw [isx.tot]; rfl
        obtain rfl := hv0 rfl
        refine FN.of (quantile_n okx (.inl this) hx) ?_
        simp (maxSteps := 1000000) (disch := first | (simp; done) | (simp only [IHeap.size_push', IHeap.size_set']; omega) | omega) [e0, e3, e7, e6, hn, hd, undef]
        refine WPL.unroll mixed (by kernel_rfl) ?_
        simp (maxSteps := 1000000) (disch := first | (simp; done) | (simp only [IHeap.size_push', IHeap.size_set']; omega) | omega) [e0, e3, e7, e6, hn, hd]
        exact ⟨k, by omega, m + 1, by omega, by omega⟩
      · have hpos := List.length_pos_iff.2 hle
        have hpos2 : (0 : Int) < l.length := by omega
        have qc : (50 : Int) * m = ((50 * m : Nat) : Int) := by push_cast; rfl
        rw [qc]
        refine FN.mono (quantile_c okx isx.tot hpos (by omega) hx) ?_
        rintro _ h3 ⟨rfl, i, a, rfl⟩
        have t0 := HG.top_nonneg isx hle i
        have tge : ¬ x.top i < v := by
          rcases hv hle with ⟨_, rfl⟩ | ⟨i', _, a', rfl⟩
          · omega
          · have := HG.top_mono (x := x) (HG.At.mono isx (rk_mono (by omega)) a' a)
            omega
        simp (maxSteps := 1000000) (disch := first | (simp; done) | (simp only [IHeap.size_push', IHeap.size_set']; omega) | omega) [e0, e3, e7, e6, hn, hd, hle, hpos, hpos2, tge]
        have below := a.below isx hle
        refine WPL.by_inv mixed (by kernel_rfl) (fun k e h' => ∃ (j : Nat), j + k = l.length ∧ h' = h3 ∧ e.n = 88 ∧ e.dfr = [] ∧ e.get 0 = .slice A l.length cap ∧ e.get 3 = .pointer (some ⟨h.size, 0, none⟩) ∧ e.get 7 = .int .i64 (50 * m) ∧ e.get 8 = .int .u64 (x.top i) ∧ e.get 52 = .slice A l.length cap ∧ e.get 53 = .int .i64 l.length ∧ e.get 54 = .int .i64 j ∧ e.get 10 = .int .i64 ((l.take j).countP fun (n : Nat) => decide ((n : Int) ≤ x.top i))) l.length ?_ ?_
        · refine ⟨0, ?_⟩
          simp (maxSteps := 1000000) (disch := first | (simp; done) | (simp only [IHeap.size_push', IHeap.size_set']; omega) | omega) [e0, e3, e7, hn, hd]
        clear hn hd e0 e3 e7 e6 e
        rintro k2 e h4 ⟨j, hj2, rfl, hn, hd, e0, e3, e7, e8, e52, e53, e54, e10⟩
        have cle : (l.take j).countP (fun (n : Nat) => decide ((n : Int) ≤ x.top i)) ≤ 100 := Nat.le_trans List.countP_le_length (by simp; omega)
        cases k2 with
        | zero =>
          obtain rfl : j = l.length := by omega
          rw [List.take_length] at e10 cle
          generalize l.countP (fun (n : Nat) => decide ((n : Int) ≤ x.top i)) = c at below e10 cle
          have rkl : 50 * m * l.length ≤ 1000 * rk (50 * m) l.length := by unfold rk; omega
          have fin1 : ¬ (c : Int) * 1000 < 50 * m * l.length := by
            have : ((50 * m * l.length : Nat) : Int) = 50 * (m : Int) * l.length := by push_cast; rfl
            rw [← this]
            omega
          have prod : 50 * m * l.length ≤ 100000 := Nat.le_trans (Nat.mul_le_mul (show 50 * m ≤ 1000 by omega) c1') (by decide)
          have w1 : IntKind.i64.wrap (50 * (m : Int) * l.length) = 50 * (m : Int) * l.length := by
            have : ((50 * m * l.length : Nat) : Int) = 50 * (m : Int) * l.length := by push_cast; rfl
            rw [← this]
            exact wrap64 (by omega) (by omega)
          simp (maxSteps := 1000000) (disch := first | (simp; done) | (simp only [IHeap.size_push', IHeap.size_set']; omega) | omega) [e0, e3, e7, e8, e52, e53, e54, e10, hn, hd, w1, fin1]
          exact ⟨k, by omega, m + 1, by omega, by omega, .inr ⟨i, by omega, by rw [show 50 * (m + 1) - 50 = 50 * m by omega]; exact a, rfl⟩⟩
        | succ k2 =>
          have hlt : j < l.length := by omega
          have hlt2 : (j : Int) < l.length := by omega
          obtain ⟨i0, o, ro, esz, cs, rfl, g2, hcs⟩ := hb.at (j := j) (by simpa using hlt)
          have g1 := hcs j (.int .u64 l[j]) (by simp [hlt])
          have cst : (l.take (j + 1)).countP (fun (n : Nat) => decide ((n : Int) ≤ x.top i)) = (l.take j).countP (fun (n : Nat) => decide ((n : Int) ≤ x.top i)) + if (l[j] : Int) ≤ x.top i then 1 else 0 := by
            rw [List.take_succ_eq_append_getElem hlt, List.countP_append, List.countP_singleton]
            simp
          by_cases c : (l[j] : Int) ≤ x.top i
          · simp (maxSteps := 1000000) (disch := first | (simp; done) | (simp only [IHeap.size_push', IHeap.size_set']; omega) | omega) [e0, e3, e7, e8, e52, e53, e54, e10, hn, hd, hlt, hlt2, g1, g2, c]
            rw [if_pos c] at cst
            exact ⟨k2, by omega, j + 1, by omega, by omega, by rw [cst]; push_cast; rfl⟩
          · simp (maxSteps := 1000000) (disch := first | (simp; done) | (simp only [IHeap.size_push', IHeap.size_set']; omega) | omega) [e0, e3, e7, e8, e52, e53, e54, e10, hn, hd, hlt, hlt2, g1, g2, c]
            rw [if_neg c] at cst
            exact ⟨k2, by omega, j + 1, by omega, by omega, by rw [cst]; rfl⟩
end Go.Proofs.Ytnmbpehficchkaa.Ideal
