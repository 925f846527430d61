import Derived.Test.YtnmbpehficchkaaP44p
noncomputable section
open Go.Proofs
namespace Go.Proofs.Ytnmbpehficchkaa.Ideal
open Go.RowKit
set_option linter.unusedSimpArgs false
set_option linter.unusedVariables false
set_option maxRecDepth 100000
set_option maxHeartbeats 4000000
attribute [-simp] IHeap.size_set IHeap.size_push
attribute [local simp ↓] Hid.ap_mk
attribute [local simp] scopeQ_normal scopeQ_ret scopeQ_exit WP_skip WP_label WP_exit WP_goto WP_ret WP_region WP_seq WP_cond WP_block WP_scope WP_loop WP_range thenQ_normal thenQ_ret thenQ_exit thenQ_goto loopQ_normal loopQ_ret loopQ_exit invQ_normal invQ_ret invQ_exit outOf_normal outOf_ret outOf_goto outOf_exit ev_tmp ev_const ev_func
  wops_nil wops_cons wantedE_none wantedE_some jgd_some wnx_eq niC_false wdo_move wdo_assign wdo_pick wdo_load wdo_store wdo_alloc wdo_box wdo_fieldAddr wdo_indexAddr wdo_field wdo_extract wdo_build wdo_buildSlice wdo_makeSlice wdo_binOp wdo_unOp wdo_makeFunc wdo_nilCheck wdo_callV wdo_len wdo_append wdo_copy wdo_delete wdo_max wdo_min wdo_convert jcvt_int
  xput_get put_n put_none put_dfr ibin finQ_n finQ_r finD_nil splice_one ires_nil ires_one ires_two ires_three ires1_tmp ires1_cell jcell_ptr rowLoad_row wrap64 wrapU64 wrapU8 wrapU16 wrapU32 callV_fn buildOf Instr.fill Value.cells Value.oneCell' kindOf slots_all splice_all IHeap.size_set' IHeap.size_push' IHeap.get_set_same IHeap.get_set_ne IHeap.get_pushed IHeap.get_push_ne IHeap.set_set IHeap.set_push IHeap.set_pushed IHeap.set_set3 getU_nil getU_same getU_ne jif_true jif_false pushH_eq setH_eq forceL_eq forceV_eq ibuildSlice
attribute [local simp] wdo_index jopt_some
theorem bl_half {m : Nat} (h : m ≠ 0) : bl m = bl (m / 2) + 1 := by
  by_cases c : m = 1
  · subst c; rfl
  · exact bl_shift (n := m) (k := 1) (by show 2 ≤ m; omega)
theorem digits_c {h : IHeap} {n : Nat} (hb : n < 2 ^ 64) : ICall Try.prog 59 #[.int .u64 n] h (.int .i64 (bl n)) h := by
  refine ICall.of_FN ?_
  refine FN.enter mixed (fn := Try.f59) (by kernel_rfl) rfl (by kernel_rfl) fun e hn hg hd => ?_
  simp [Try.f59] at hn
  have a0 : e.get 0 = .int .u64 n := hg 0 (by omega)
  clear hg
  simp (maxSteps := 1000000) (disch := first | (simp; done) | (simp only [IHeap.size_push', IHeap.size_set']; omega) | omega) [a0, hn, hd]
  refine WPL.by_inv mixed (by kernel_rfl) (fun k e h' => ∃ m r : Nat, k = bl m ∧ h' = h ∧ e.n = 11 ∧ e.dfr = [] ∧ e.get 0 = .int .u64 m ∧ e.get 3 = .int .i64 r ∧ bl m + r = bl n ∧ m < 2 ^ 64) (bl n) ?_ ?_
  · refine ⟨n, 0, ?_⟩
    simp (maxSteps := 1000000) (disch := first | (simp; done) | (simp only [IHeap.size_push', IHeap.size_set']; omega) | omega) [a0, hn, hd]
    exact hb
  clear hn hd a0 e
  rintro k e h1 ⟨m, r, rfl, rfl, hn, hd, a0, a3, hm, hb2⟩
  have b64 : bl n ≤ 64 := bl_le.2 hb
  by_cases c : m = 0
  · subst c
    have : bl 0 = 0 := rfl
    simp (maxSteps := 1000000) (disch := first | (simp; done) | (simp only [IHeap.size_push', IHeap.size_set']; omega) | omega) [a0, a3, hn, hd]
    omega
  · have c1 : (0 : Int) < m := by omega
    have c2 : 0 < m := by omega
    have h2 := bl_half c
    simp (maxSteps := 1000000) (disch := first | (simp; done) | (simp only [IHeap.size_push', IHeap.size_set']; omega) | omega) [a0, a3, hn, hd, c1, c2]
    exact ⟨bl (m / 2), by omega, m / 2, rfl, by omega, r + 1, by omega, by omega, by omega⟩
/-- The sum, as it turns round. -/
def wsum (l : List Nat) : Int := l.foldl (fun a n => IntKind.u64.wrap (a + (n : Nat))) 0
theorem wsum_snoc (l : List Nat) (n : Nat) : wsum (l ++ [n]) = IntKind.u64.wrap (wsum l + n) := by simp [wsum]
def u64s (l : List Nat) : List Value := l.map fun n => .int .u64 (n : Nat)
theorem rsum_c {h : IHeap} {A : Option Addr} {l : List Nat} {cap : Nat} (hb : RowsAt h A (u64s l)) (hl : l.length ≤ 1000) : ICall Try.prog 41 #[.slice A l.length cap] h (.int .u64 (wsum l)) h := by
  refine ICall.of_FN ?_
  refine FN.enter mixed (fn := Try.f41) (by kernel_rfl) rfl (by kernel_rfl) fun e hn hg hd => ?_
  simp [Try.f41] at hn
  have a0 : e.get 0 = .slice A l.length cap := hg 0 (by omega)
  clear hg
  simp (maxSteps := 1000000) (disch := first | (simp; done) | (simp only [IHeap.size_push', IHeap.size_set']; omega) | omega) [a0, hn, hd]
  refine WPL.by_inv mixed (by kernel_rfl) (fun k e h' => ∃ j, j + k = l.length ∧ h' = h ∧ e.n = 18 ∧ e.dfr = [] ∧ e.get 0 = .slice A l.length cap ∧ e.get 4 = .int .i64 j ∧ e.get 3 = .int .u64 (wsum (l.take j))) l.length ?_ ?_
  · refine ⟨0, ?_⟩
    simp (maxSteps := 1000000) (disch := first | (simp; done) | (simp only [IHeap.size_push', IHeap.size_set']; omega) | omega) [a0, hn, hd]
    rfl
  clear hn hd a0 e
  rintro k e h1 ⟨j, hj, rfl, hn, hd, a0, a4, a3⟩
  cases k with
  | zero =>
    obtain rfl : j = l.length := by omega
    rw [List.take_length] at a3
    simp (maxSteps := 1000000) (disch := first | (simp; done) | (simp only [IHeap.size_push', IHeap.size_set']; omega) | omega) [a0, a4, a3, hn, hd]
  | succ k =>
    have hlt : j < l.length := by omega
    have hlt2 : (j : Int) < l.length := by omega
    obtain ⟨i, o, ro, esz, cs, rfl, g2, hcs⟩ := hb.at (j := j) (by simpa [u64s] using hlt)
    have g1 := hcs j (.int .u64 l[j]) (by simp [u64s, hlt])
    simp (maxSteps := 1000000) (disch := first | (simp; done) | (simp only [IHeap.size_push', IHeap.size_set']; omega) | omega) [a0, a4, a3, hn, hd, hlt, hlt2, g1, g2]
    exact ⟨k, by omega, j + 1, by omega, by omega, by rw [List.take_succ_eq_append_getElem hlt, wsum_snoc]⟩
def bcnt (l : List Nat) (i : Int) : Nat := l.countP fun n => decide ((bl n : Int) = i)
theorem rbucket_c {h : IHeap} {A : Option Addr} {l : List Nat} {cap : Nat} {i : Int} (hb : RowsAt h A (u64s l)) (hl : l.length ≤ 1000) (hbs : ∀ n ∈ l, n < 2 ^ 64) : ICall Try.prog 40 #[.slice A l.length cap, .int .i64 i] h (.int .u64 (bcnt l i)) h := by
  refine ICall.of_FN ?_
  refine FN.enter mixed (fn := Try.f40) (by kernel_rfl) rfl (by kernel_rfl) fun e hn hg hd => ?_
  simp [Try.f40] at hn
  have a0 : e.get 0 = .slice A l.length cap := hg 0 (by omega)
  have a1 : e.get 1 = .int .i64 i := hg 1 (by omega)
  clear hg
  simp (maxSteps := 1000000) (disch := first | (simp; done) | (simp only [IHeap.size_push', IHeap.size_set']; omega) | omega) [a0, a1, hn, hd]
  refine WPL.by_inv mixed (by kernel_rfl) (fun k e h' => ∃ j, j + k = l.length ∧ h' = h ∧ e.n = 23 ∧ e.dfr = [] ∧ e.get 0 = .slice A l.length cap ∧ e.get 1 = .int .i64 i ∧ e.get 6 = .int .i64 j ∧ e.get 5 = .int .u64 (bcnt (l.take j) i)) l.length ?_ ?_
  · refine ⟨0, ?_⟩
    simp (maxSteps := 1000000) (disch := first | (simp; done) | (simp only [IHeap.size_push', IHeap.size_set']; omega) | omega) [a0, a1, hn, hd]
    rfl
  clear hn hd a0 a1 e
  rintro k e h1 ⟨j, hj, rfl, hn, hd, a0, a1, a6, a5⟩
  cases k with
  | zero =>
    obtain rfl : j = l.length := by omega
    rw [List.take_length] at a5
    simp (maxSteps := 1000000) (disch := first | (simp; done) | (simp only [IHeap.size_push', IHeap.size_set']; omega) | omega) [a0, a1, a6, a5, hn, hd]
  | succ k =>
    have hlt : j < l.length := by omega
    have hlt2 : (j : Int) < l.length := by omega
    obtain ⟨i0, o, ro, esz, cs, rfl, g2, hcs⟩ := hb.at (j := j) (by simpa [u64s] using hlt)
    have g1 := hcs j (.int .u64 l[j]) (by simp [u64s, hlt])
    have cst : bcnt (l.take (j + 1)) i = bcnt (l.take j) i + if (bl l[j] : Int) = i then 1 else 0 := by
      unfold bcnt
      rw [List.take_succ_eq_append_getElem hlt, List.countP_append, List.countP_singleton]
      simp
    have cle : bcnt (l.take j) i ≤ 1000 := Nat.le_trans List.countP_le_length (by simp; omega)
    simp (maxSteps := 1000000) (disch := first | (simp; done) | (simp only [IHeap.size_push', IHeap.size_set']; omega) | omega) [a0, a1, a6, a5, hn, hd, hlt, hlt2, g1, g2]
    refine FN.of (digits_c (hbs _ (List.getElem_mem hlt))) ?_
    by_cases c : (bl l[j] : Int) = i
    · simp (maxSteps := 1000000) (disch := first | (simp; done) | (simp only [IHeap.size_push', IHeap.size_set']; omega) | omega) [a0, a1, a6, a5, hn, hd, hlt, hlt2, g1, g2, c]
      rw [if_pos c] at cst
      exact ⟨k, by omega, j + 1, by omega, by omega, by rw [cst]; push_cast; rfl⟩
    · simp (maxSteps := 1000000) (disch := first | (simp; done) | (simp only [IHeap.size_push', IHeap.size_set']; omega) | omega) [a0, a1, a6, a5, hn, hd, hlt, hlt2, g1, g2, c]
      rw [if_neg c] at cst
      exact ⟨k, by omega, j + 1, by omega, by omega, by rw [cst]; rfl⟩
end Go.Proofs.Ytnmbpehficchkaa.Ideal
