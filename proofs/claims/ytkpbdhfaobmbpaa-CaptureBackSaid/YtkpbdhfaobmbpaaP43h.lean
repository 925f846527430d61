import Derived.Test.YtkpbdhfaobmbpaaP43g
noncomputable section
open Go.Proofs
namespace Go.Proofs.Ytkpbdhfaobmbpaa.Ideal
open Go.RowKit
set_option linter.unusedSimpArgs false
set_option linter.unusedVariables false
set_option linter.unusedSectionVars false
set_option maxRecDepth 100000
set_option maxHeartbeats 4000000
attribute [-simp] IHeap.size_set IHeap.size_push
attribute [local simp ↓] Hid.ap_mk
attribute [local simp] scopeQ_normal scopeQ_ret scopeQ_exit WP_skip WP_label WP_exit WP_goto WP_ret WP_region WP_seq WP_cond WP_block WP_scope WP_loop WP_range thenQ_normal thenQ_ret thenQ_exit thenQ_goto loopQ_normal loopQ_ret loopQ_exit invQ_normal invQ_ret invQ_exit outOf_normal outOf_ret outOf_goto outOf_exit ev_tmp ev_const ev_func
  wops_nil wops_cons wantedE_none wantedE_some jgd_some wnx_eq niC_false wdo_move wdo_assign wdo_pick wdo_load wdo_store wdo_alloc wdo_box wdo_fieldAddr wdo_indexAddr wdo_field wdo_extract wdo_build wdo_buildSlice wdo_makeSlice wdo_binOp wdo_unOp wdo_makeFunc wdo_nilCheck wdo_callV wdo_len wdo_append wdo_copy wdo_delete wdo_max wdo_min wdo_convert jcvt_int
  xput_get put_n put_none put_dfr ibin finQ_n finQ_r finD_nil splice_one ires_nil ires_one ires_two ires_three ires1_tmp ires1_cell jcell_ptr rowLoad_row wrap64 wrapU64 wrapU8 wrapU16 wrapU32 callV_fn buildOf Instr.fill Value.cells Value.oneCell' kindOf slots_all splice_all IHeap.size_set' IHeap.size_push' IHeap.get_set_same IHeap.get_set_ne IHeap.get_pushed IHeap.get_push_ne IHeap.set_set IHeap.set_push IHeap.set_pushed IHeap.set_set3 getU_nil getU_same getU_ne jif_true jif_false pushH_eq setH_eq forceL_eq forceV_eq ibuildSlice
attribute [local simp] wdo_index jopt_some wdo_toArr wdo_cut26
attribute [-simp] Value.oneCell'
attribute [local simp] one_int' one_slc' one_bool'
theorem cut_src {h : IHeap} {xs : List Nat} {k c : Nat} {A : Option Addr} (sb : SlB h (.slice A k c) (xs.take k)) (hk : k ≤ xs.length) : srcOf h 1 (.slice A k c) = some ((xs.take k).length, bys (xs.take k)) := by
  have mt : (xs.take k).length = k := by rw [List.length_take]; omega
  have := SlB.src (A := A) (c := c) (xs := xs.take k) (by rw [mt]; exact sb)
  rw [mt] at this ⊢
  exact this
theorem rwrite_c {h : IHeap} {v : Value} {S : List SH} {most : Nat} {high : Bool} (x : ShS h v S) (hS : S.length ≤ 60) (h4 : ∀ s ∈ S, s.xs.length ≤ 400) (hh : ∀ s ∈ S, s.had < 4294967296) (hm : most < 4294967296) :
    FN Try.prog 15 #[.int .u32 most, .bool high, v] h (Q := ⟨fun v h' => ∃ sl, v = .tuple #[sl, .int .i64 ((wres most high S).2 : Nat)] ∧ OwnB h.size h' sl (wres most high S).1 ∧ Keep h h'⟩) := by
  obtain ⟨A, c, rfl, _⟩ := id x
  refine FN.enter mixed (fn := Try.f15) (by kernel_rfl) rfl (by kernel_rfl) fun e hn hg hd => ?_
  simp [Try.f15] at hn
  have a0 : e.get 0 = .int .u32 most := hg 0 (by omega)
  have a1 : e.get 1 = .bool high := hg 1 (by omega)
  have a2 : e.get 2 = .slice A S.length c := hg 2 (by omega)
  clear hg
  by_cases m0 : (most : Int) = 0
  · have : wres most high S = ([], 2) := by unfold wres; rw [if_pos (.inl (by omega))]
    obtain rfl : most = 0 := by omega
    simp (maxSteps := 1000000) (disch := first | (simp; done) | (simp only [IHeap.size_push', IHeap.size_set']; omega) | omega) [a0, a1, a2, hn, hd, undef, this]
    exact ⟨.inl ⟨rfl, rfl⟩, Keep.refl h⟩
  · have m0 : ¬ (most = 0) := by omega
    by_cases m1 : (65535 : Int) < most
    · have : wres most high S = ([], 2) := by unfold wres; rw [if_pos (.inr (by omega))]
      simp (maxSteps := 1000000) (disch := first | (simp; done) | (simp only [IHeap.size_push', IHeap.size_set']; omega) | omega) [a0, a1, a2, hn, hd, m0, m1, undef, this]
      exact ⟨.inl ⟨rfl, rfl⟩, Keep.refl h⟩
    simp (maxSteps := 1000000) (disch := first | (simp; done) | (simp only [IHeap.size_push', IHeap.size_set']; omega) | omega) [a0, a1, a2, hn, hd, m0, m1, undef]
    have l1 := rlay_c (lo := h.size) (h := h) (high := high) (n := 2712847316) (many := 4) (.inl ⟨rfl, rfl⟩) (Nat.le_refl _) (by omega) (by omega) (by simp)
    refine FN.mono l1 ?_
    rintro v1 h1 ⟨o1, w1⟩
    have z1 := w1.le
    simp (maxSteps := 1000000) (disch := first | (simp; done) | (simp only [IHeap.size_push', IHeap.size_set']; omega) | omega) [a0, a1, a2, hn, hd]
    have l2 := rlay_c (n := 2) (many := 2) (high := high) o1 z1 (by omega) (by omega) (by rw [List.length_append, layL_len]; simp)
    refine FN.mono l2 ?_
    rintro v2 h2 ⟨o2, w2⟩
    have z2 := w2.le
    simp (maxSteps := 1000000) (disch := first | (simp; done) | (simp only [IHeap.size_push', IHeap.size_set']; omega) | omega) [a0, a1, a2, hn, hd]
    have l3 := rlay_c (n := 4) (many := 2) (high := high) o2 (by omega) (by omega) (by omega) (by simp [layL_len])
    refine FN.mono l3 ?_
    rintro v3 h3 ⟨o3, w3⟩
    have z3 := w3.le
    rw [List.nil_append] at o3
    have bld : ∀ h : IHeap, srcOf (h.push (.row false 1 (bys [0, 0, 0, 0, 0, 0, 0, 0]))) 1 (.slice (some ⟨h.size, 0, none⟩) 8 8) = some ([0, 0, 0, 0, 0, 0, 0, 0].length, bys [0, 0, 0, 0, 0, 0, 0, 0]) := fun h => src_row (IHeap.get_pushed _ rfl) (by exact slots_full _ rfl) (by simp)
    obtain ⟨v4, h4', ap, o4, w4⟩ := app_bys (o3.keep (Keep.push h3 (.row false 1 (bys [0, 0, 0, 0, 0, 0, 0, 0])))) rfl (bld h3) (by rw [IHeap.size_push']; omega) (by simp [layL_len])
    have w4 := ((Keep.push h3 (.row false 1 (bys [0, 0, 0, 0, 0, 0, 0, 0]))).wk (lo := h.size) (by omega)).trans w4
    have bz : bys [0, 0, 0, 0, 0, 0, 0, 0] = [.int .u8 0, .int .u8 0, .int .u8 0, .int .u8 0, .int .u8 0, .int .u8 0, .int .u8 0, .int .u8 0] := rfl
    rw [bz] at ap
    have z8 : zeros #[Value.int .u8 0] 8 = [.int .u8 0, .int .u8 0, .int .u8 0, .int .u8 0, .int .u8 0, .int .u8 0, .int .u8 0, .int .u8 0] := rfl
    have zh := w4.le
    have lb : (headL high).length = 16 := headL_len high
    change OwnB h.size h4' v4 (headL high) at o4
    have l5 := rlay_c (n := most) (many := 4) (high := high) o4 (by omega) hm (by omega) (by omega)
    simp (maxSteps := 1000000) (disch := first | (simp; done) | (simp only [IHeap.size_push', IHeap.size_set']; omega) | omega) [a0, a1, a2, hn, hd, z8, ap]
    refine FN.mono l5 ?_
    rintro v5 h5 ⟨o5, w5⟩
    have z5 := w5.le
    simp (maxSteps := 1000000) (disch := first | (simp; done) | (simp only [IHeap.size_push', IHeap.size_set']; omega) | omega) [a0, a1, a2, hn, hd]
    have l6 := rlay_c (n := 1) (many := 4) (high := high) o5 (by omega) (by omega) (by omega) (by rw [List.length_append, layL_len]; omega)
    refine FN.mono l6 ?_
    rintro v6 h6 ⟨o6, w6⟩
    have z6 := w6.le
    change OwnB h.size h6 v6 (baseL high most) at o6
    have w7 : Wk h.size h h6 := w1.trans (w2.trans (w3.trans (w4.trans (w5.trans w6))))
    simp (maxSteps := 1000000) (disch := first | (simp; done) | (simp only [IHeap.size_push', IHeap.size_set']; omega) | omega) [a0, a1, a2, hn, hd]
    refine WPL.by_inv mixed (by kernel_rfl) (fun k e h' => ∃ (j : Nat) (w : Value), j + k = S.length ∧ e.n = 88 ∧ e.dfr = [] ∧ e.get 0 = .int .u32 most ∧ e.get 1 = .bool high ∧ e.get 2 = .slice A S.length c ∧ e.get 8 = w ∧ e.get 9 = .int .i64 j ∧ OwnB h.size h' w (baseL high most ++ (S.take j).flatMap (recL high most)) ∧ Wk h.size h h' ∧ (S.take j).any badS = false) S.length ?_ ?_
    · refine ⟨0, v6, ?_⟩
      simp (maxSteps := 1000000) (disch := first | (simp; done) | (simp only [IHeap.size_push', IHeap.size_set']; omega) | omega) [a0, a1, a2, hn, hd]
      exact ⟨o6, w7⟩
    clear hn hd a0 a1 a2 e
    rintro k e h1 ⟨j, w, hj, hn, hd, a0, a1, a2, a8, a9, ow, wk, nb⟩
    cases k with
    | zero =>
      obtain rfl : j = S.length := by omega
      rw [List.take_length] at nb ow
      have : wres most high S = (baseL high most ++ S.flatMap (recL high most), 0) := by
        unfold wres
        rw [if_neg (by omega), if_neg (by rw [nb]; simp)]
      simp (maxSteps := 1000000) (disch := first | (simp; done) | (simp only [IHeap.size_push', IHeap.size_set']; omega) | omega) [a0, a1, a2, a8, a9, hn, hd, this]
      exact ⟨ow, wk.keep⟩
    | succ k =>
      have j2 : j < S.length := by omega
      have j1 : (j : Int) < S.length := by omega
      have kp := wk.keep
      obtain ⟨r, q, ro, z, cs, rfl, hg, hz, hs, hok⟩ := (x.keep kp).at j2
      obtain ⟨s, es⟩ : ∃ s, S[j] = s := ⟨_, rfl⟩
      have ht1 : S.take (j + 1) = S.take j ++ [s] := by rw [List.take_succ_eq_append_getElem j2, es]
      have l4 := h4 S[j] (List.getElem_mem j2)
      have hh4 := hh S[j] (List.getElem_mem j2)
      have sm : s ∈ S := es ▸ List.getElem_mem j2
      rw [es] at hs hok l4 hh4
      obtain ⟨B, d, eb, _⟩ := hok.b
      have hok0 : s.ok h := by
        obtain ⟨_, _, _, _, _, _, x6⟩ := id x
        exact x6 s sm
      by_cases bd : badS s = true
      · have : wres most high S = ([], 5) := by
          unfold wres
          rw [if_neg (by omega), if_pos (List.any_eq_true.2 ⟨s, sm, bd⟩)]
        by_cases c1 : (999999 : Int) < s.micro
        · simp (maxSteps := 1000000) (disch := first | (simp; done) | (simp only [IHeap.size_push', IHeap.size_set']; omega) | omega) [a0, a1, a2, a8, a9, hn, hd, j1, j2, hg, hs, SH.cells, eb, c1, undef, this]
          exact ⟨.inl ⟨rfl, rfl⟩, kp.push' _⟩
        · have c2 : (s.had : Int) < s.xs.length := by
            unfold badS at bd
            rw [decide_eq_false (by omega), Bool.false_or] at bd
            have := of_decide_eq_true bd
            omega
          simp (maxSteps := 1000000) (disch := first | (simp; done) | (simp only [IHeap.size_push', IHeap.size_set']; omega) | omega) [a0, a1, a2, a8, a9, hn, hd, j1, j2, hg, hs, SH.cells, eb, c1, c2, undef, this]
          exact ⟨.inl ⟨rfl, rfl⟩, kp.push' _⟩
      · have bd : badS s = false := by simpa using bd
        have c1 : ¬ ((999999 : Int) < s.micro) := by
          intro hc
          unfold badS at bd
          rw [decide_eq_true (by omega), Bool.true_or] at bd
          cases bd
        have c2 : ¬ ((s.had : Int) < s.xs.length) := by
          intro hc
          unfold badS at bd
          rw [decide_eq_true (p := s.had < s.xs.length) (by omega), Bool.or_true] at bd
          cases bd
        have cu : IntKind.u32.wrap (s.xs.length : Int) = s.xs.length := by
          simp [IntKind.wrap, IntKind.signed, IntKind.bits]
          omega
        have kp2 := kp.push' (.row false 0 s.cells)
        have wk2 : Wk h.size h1 (h1.push (.row false 0 s.cells)) := (Keep.push h1 _).wk wk.le
        have ow2 := ow.keep (Keep.push h1 (.row false 0 s.cells))
        have bx : (h1.push (.row false 0 s.cells)).get h1.size = some (.row false 0 s.cells) := IHeap.get_pushed _ rfl
        have hz2 : h.size ≤ (h1.push (.row false 0 s.cells)).size := by
          have := wk.le
          rw [IHeap.size_push']
          omega
        obtain ⟨hb, hbe⟩ : ∃ hb, h1.push (.row false 0 s.cells) = hb := ⟨_, rfl⟩
        rw [hbe] at kp2 wk2 ow2 bx hz2
        have rl : (List.flatMap (recL high most) (S.take j)).length ≤ 60 * 416 := by
          have := recs_len (high := high) (most := most) (S := S.take j) fun t ht => h4 t (List.mem_of_mem_take ht)
          rw [List.length_take] at this
          omega
        have bl := baseL_len high most
        obtain ⟨pre, hpre⟩ : ∃ l, baseL high most ++ (S.take j).flatMap (recL high most) = l := ⟨_, rfl⟩
        have prel : pre.length ≤ 60 * 416 + 24 := by
          rw [← hpre, List.length_append]
          omega
        rw [hpre] at ow2
        simp only [SH.cells, eb] at hbe bx
        have hs1 := hok0.s1
        have hm1 := hok0.m1
        obtain ⟨m, hm2⟩ : ∃ m, min s.xs.length most = m := ⟨_, rfl⟩
        obtain ⟨A2, c2', kd, ct, sb⟩ := cut_slb (K := .u32) (k := m) hok0.b (by omega)
        rw [eb] at ct
        rcases (by omega : (most < s.xs.length ∧ m = most) ∨ (¬ most < s.xs.length ∧ m = s.xs.length)) with ⟨c3, rfl⟩ | ⟨c3, rfl⟩
        all_goals
          simp (maxSteps := 1000000) (disch := first | (simp; done) | (simp only [IHeap.size_push', IHeap.size_set']; omega) | omega) [a0, a1, a2, a8, a9, hn, hd, j1, j2, hg, hs, SH.cells, eb, c1, c2, c3, undef, cu, hbe, bx]
          refine FN.mono (Q := ⟨_⟩) (rlay_c (many := 4) ow2 hz2 (by omega) (by omega) (by omega)) ?_
          rintro v1 g1 ⟨o1, u1⟩
          have y1 := u1.le
          have b1 := u1.row _ 0 _ (by omega) bx
          simp (maxSteps := 1000000) (disch := first | (simp; done) | (simp only [IHeap.size_push', IHeap.size_set']; omega) | omega) [a0, a1, a2, a8, a9, hn, hd, b1]
          refine FN.mono (Q := ⟨_⟩) (rlay_c (many := 4) o1 (by omega) (by omega) (by omega) (by simp only [List.length_append, layL_len]; omega)) ?_
          rintro v2 g2 ⟨o2, u2⟩
          have y2 := u2.le
          have b2 := u2.row _ 0 _ (by omega) b1
          simp (maxSteps := 1000000) (disch := first | (simp; done) | (simp only [IHeap.size_push', IHeap.size_set']; omega) | omega) [a0, a1, a2, a8, a9, hn, hd, b1, b2]
          refine ⟨niC_pend [(4, 6)] (by kernel_rfl) ⟨b1.trans bx.symm, trivial⟩, ?_⟩
          refine FN.mono (Q := ⟨_⟩) (rlay_c (many := 4) o2 (by omega) (by omega) (by omega) (by simp only [List.length_append, layL_len]; omega)) ?_
          rintro v3 g3 ⟨o3, u3⟩
          have y3 := u3.le
          have b3 := u3.row _ 0 _ (by omega) b2
          simp (maxSteps := 1000000) (disch := first | (simp; done) | (simp only [IHeap.size_push', IHeap.size_set']; omega) | omega) [a0, a1, a2, a8, a9, hn, hd, b1, b2, b3]
          refine FN.mono (Q := ⟨_⟩) (rlay_c (many := 4) o3 (by omega) (by omega) (by omega) (by simp only [List.length_append, layL_len]; omega)) ?_
          rintro v4 g4 ⟨o4, u4⟩
          have y4 := u4.le
          have b4 := u4.row _ 0 _ (by omega) b3
          have kp4 : Keep h g4 := (wk.trans (wk2.trans (u1.trans (u2.trans (u3.trans u4))))).keep
          have sr := cut_src (sb.keep kp4) (by omega)
          obtain ⟨v5, g5, ap, o5, u5⟩ := app_bys o4 rfl sr (by omega) (by simp only [List.length_append, layL_len, List.length_take]; omega)
          have ct := ct g4 kp4
          simp (maxSteps := 1000000) (disch := first | (simp; done) | (simp only [IHeap.size_push', IHeap.size_set']; omega) | omega) [a0, a1, a2, a8, a9, hn, hd, b1, b2, b3, b4, ct, ap]
          refine ⟨niC_pend [(3, 5)] (by kernel_rfl) ⟨b3.trans b2.symm, trivial⟩, k, by omega, j + 1, by omega, by omega, ?_, wk.trans (wk2.trans (u1.trans (u2.trans (u3.trans (u4.trans u5))))), ?_⟩
          · rw [ht1, List.flatMap_append, List.flatMap_cons, List.flatMap_nil, List.append_nil, ← List.append_assoc, hpre, recL, hm2]
            simp only [List.append_assoc] at o5 ⊢
            exact o5
          · intro t ht
            rw [ht1, List.mem_append, List.mem_singleton] at ht
            rcases ht with ht | rfl
            · have := List.any_eq_false.1 nb t ht
              simpa using this
            · exact bd
end Go.Proofs.Ytkpbdhfaobmbpaa.Ideal
