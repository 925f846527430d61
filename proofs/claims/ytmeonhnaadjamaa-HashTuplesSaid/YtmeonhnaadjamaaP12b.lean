import Derived.Test.YtmeonhnaadjamaaP12a
noncomputable section
open Go.Proofs
namespace Go.Proofs.Ytmeonhnaadjamaa.Ideal
set_option linter.unusedSimpArgs false
set_option linter.unusedVariables false
set_option linter.unusedSectionVars false
set_option linter.unnecessarySimpa false
set_option maxRecDepth 100000
set_option maxHeartbeats 2000000
attribute [-simp] IHeap.size_set IHeap.size_push
attribute [local simp ↓] Hid.ap_mk
attribute [local simp] scopeQ_normal scopeQ_ret scopeQ_exit WP_skip WP_label WP_exit WP_goto WP_ret WP_region WP_seq WP_cond WP_block WP_scope WP_loop WP_range thenQ_normal thenQ_ret thenQ_exit thenQ_goto loopQ_normal loopQ_ret loopQ_exit invQ_normal invQ_ret invQ_exit outOf_normal outOf_ret outOf_goto outOf_exit ev_tmp ev_const ev_func
  wops_nil wops_cons wantedE_none wantedE_some jgd_some wnx_eq niC_false wdo_move wdo_assign wdo_pick wdo_load wdo_store wdo_alloc wdo_box wdo_fieldAddr wdo_indexAddr wdo_field wdo_extract wdo_build wdo_buildSlice wdo_makeSlice wdo_binOp wdo_unOp wdo_makeFunc wdo_nilCheck wdo_callV wdo_len wdo_append wdo_copy wdo_delete wdo_max wdo_min wdo_convert jcvt_int
  xput_get put_n put_none put_dfr ibin finQ_n finQ_r finD_nil splice_one ires_nil ires_one ires_two ires_three ires1_tmp ires1_cell jcell_ptr rowLoad_row wrap64 wrapU64 wrapU8 wrapU16 wrapU32 callV_fn buildOf Instr.fill Value.cells Value.oneCell' kindOf slots_all splice_all IHeap.size_set' IHeap.size_push' IHeap.get_set_same IHeap.get_set_ne IHeap.get_pushed IHeap.get_push_ne IHeap.set_set IHeap.set_push IHeap.set_pushed IHeap.set_set3 getU_nil getU_same getU_ne jif_true jif_false pushH_eq setH_eq forceL_eq forceV_eq ibuildSlice
attribute [local simp] wdo_arrCut jopt_some u8_5 ni26
attribute [local simp high] wdo_str
theorem take_one {l : List Int} {i : Nat} (h : i < l.length) : l.take (i + 1) = l.take i ++ [l.getD i 0] := by
  rw [List.take_add_one]
  simp [h]
theorem jidx_arr31 (i q : Nat) (j : Int) (h0 : 0 ≤ j) (h1 : j < 16) (K : Hid (Value → Prop)) : jidx Try.prog 31 (.pointer (some ⟨i, q, none⟩)) j (K := K) = K.ap (.pointer (some ⟨i, q + j.toNat, none⟩)) := by
  simp [jidx, h0, h1, atIf, Hid.ap_mk]
theorem rbytes_c {h : IHeap} {t : TU} (ok : t.ok) : CB 17 t h := by
  refine FN.enter mixed (fn := Try.f17) (by kernel_rfl) rfl (by kernel_rfl) fun e hn hg hd => ?_
  simp [Try.f17] at hn
  have a0 : e.get 0 = t.val := hg 0 (by omega)
  clear hg
  have l1 := ok.s
  have l2 := ok.d
  have s1 : IntKind.u8.wrap (IntKind.u16.wrap (t.sp.tdiv 256)) = t.sp / 256 := by
    rw [Int.tdiv_eq_ediv_of_nonneg (by have := ok.sp; omega), wrapU16 (by have := ok.sp; omega) (by have := ok.sp; omega), wrapU8 (by have := ok.sp; omega) (by have := ok.sp; omega)]
  have s2 : IntKind.u8.wrap (IntKind.u16.wrap (t.dp.tdiv 256)) = t.dp / 256 := by
    rw [Int.tdiv_eq_ediv_of_nonneg (by have := ok.dp; omega), wrapU16 (by have := ok.dp; omega) (by have := ok.dp; omega), wrapU8 (by have := ok.dp; omega) (by have := ok.dp; omega)]
  have s3 : IntKind.u8.wrap (t.sp.tmod 256) = t.sp % 256 := by
    rw [Int.tmod_eq_emod_of_nonneg (by have := ok.sp; omega), u8wrap]; omega
  have s4 : IntKind.u8.wrap (t.dp.tmod 256) = t.dp % 256 := by
    rw [Int.tmod_eq_emod_of_nonneg (by have := ok.dp; omega), u8wrap]; omega
  cases hv : t.v6
  · simp (maxSteps := 1000000) (disch := first | (simp; done) | (simp only [IHeap.size_push', IHeap.size_set']; omega) | omega) [a0, hn, hd, TU.val, TU.r0 ok, TU.r1 ok, hv, zeros1, zeros2, zeros4]
    refine WPL.by_inv mixed (by kernel_rfl) (fun k e h' => ∃ i q, i + k = 4 ∧ e.n = 57 ∧ e.dfr = [] ∧ e.get 1 = .pointer (some ⟨h.size, 0, none⟩) ∧ e.get 4 = .int .i64 4 ∧ e.get 5 = .int .i64 i ∧ e.get 3 = .slice (some ⟨q, 0, none⟩) (2 + i) (2 + i) ∧ h'.get h.size = some (.row false 0 t.row) ∧ h'.get q = some (.row false 1 (nums ([4, t.pr] ++ t.s.take i))) ∧ h.size < q ∧ Fr h h' []) 4 ?_ ?_
    · refine ⟨0, h.size + 1, ?_⟩
      simp (maxSteps := 1000000) (disch := first | (simp; done) | (simp only [IHeap.size_push', IHeap.size_set']; omega) | omega) [a0, hn, hd, nums]
      exact ⟨by simp <;> omega, fun i hi => by simp only [IHeap.get_set_if, IHeap.get_push, IHeap.size_set', IHeap.size_push', getU, ]; grind⟩
    clear hn hd a0 e
    rintro k e h1 ⟨i, q, hi, hn, hd, e1, e4, e5, e3, gb, gq, hq, fr⟩
    have hqz := IHeap.get_lt gq
    cases k with
    | succ k =>
      have hlt : (i : Int) < 4 := by omega
      have hlt2 : (i : Int) < 16 := by omega
      have hlt3 : 2 + i + 1 = 2 + (i + 1) := by omega
      have r2 := TU.rs ok (i := i) (by omega)
      simp (maxSteps := 1000000) (disch := first | (simp; done) | (simp only [IHeap.size_push', IHeap.size_set']; omega) | omega) [e1, e3, e4, e5, hn, hd, hlt, hlt2, jidx_arr31, gb, r2, zeros1]
      rw [nums_one, app_new (l := [4, t.pr] ++ t.s.take i) (j := h1.size) (k := 1) (m := [t.s.getD i 0]) (cs := nums [t.s.getD i 0]) (esz := 1) (ro := false) (by simp (maxSteps := 1000000) (disch := first | (simp; done) | (simp only [IHeap.size_push', IHeap.size_set']; omega) | omega) [gq]) (by simp [l1]; omega) (by simp [l1]; omega) (by simp (maxSteps := 1000000) (disch := first | (simp; done) | (simp only [IHeap.size_push', IHeap.size_set']; omega) | omega) []) (by omega) (slots_nums _ _ rfl) (by rfl) (by simp [l1]; omega)]
      simp (maxSteps := 1000000) (disch := first | (simp; done) | (simp only [IHeap.size_push', IHeap.size_set']; omega) | omega) [hn, hd, e5, wrap64]
      refine ⟨k, by omega, i + 1, by omega, ?_⟩
      simp (maxSteps := 1000000) (disch := first | (simp; done) | (simp only [IHeap.size_push', IHeap.size_set']; omega) | omega) [e1, e3, e4, e5, hn, hd, hlt3, gb]
      have hz := fr.size
      exact ⟨by omega, ⟨by have sz0 := (fr).size; (try simp only [IHeap.size_push', IHeap.size_set'] at sz0); (try simp only [IHeap.size_push', IHeap.size_set']); omega, fun i hi => by have sz0 := (fr).size; (try simp only [IHeap.size_push', IHeap.size_set'] at sz0); have ge0 := (fr).get i (by (try simp only [IHeap.size_push', IHeap.size_set']); omega); (try simp only [IHeap.get_set_if, IHeap.get_push, IHeap.size_set', IHeap.size_push', getU,  getU] at ge0 ⊢); grind⟩⟩
    | zero =>
      obtain rfl : i = 4 := by omega
      simp (maxSteps := 1000000) (disch := first | (simp; done) | (simp only [IHeap.size_push', IHeap.size_set']; omega) | omega) [e1, e3, e4, e5, hn, hd]
      refine WPL.by_inv mixed (by kernel_rfl) (fun k e h' => ∃ i q, i + k = 4 ∧ e.n = 57 ∧ e.dfr = [] ∧ e.get 1 = .pointer (some ⟨h.size, 0, none⟩) ∧ e.get 4 = .int .i64 4 ∧ e.get 6 = .int .i64 i ∧ e.get 3 = .slice (some ⟨q, 0, none⟩) (6 + i) (6 + i) ∧ h'.get h.size = some (.row false 0 t.row) ∧ h'.get q = some (.row false 1 (nums ([4, t.pr] ++ t.s.take 4 ++ t.d.take i))) ∧ h.size < q ∧ Fr h h' []) 4 ?_ ?_
      · refine ⟨0, q, ?_⟩
        simp only [List.cons_append, List.nil_append] at gq
        simp (maxSteps := 1000000) (disch := first | (simp; done) | (simp only [IHeap.size_push', IHeap.size_set']; omega) | omega) [e1, e3, e4, e5, hn, hd, gb, gq, hq, fr]
      clear hn hd e1 e4 e5 e3 gb gq hq fr hqz e h1 hi q
      rintro k e h1 ⟨i, q, hi, hn, hd, e1, e4, e6, e3, gb, gq, hq, fr⟩
      have hqz := IHeap.get_lt gq
      cases k with
      | succ k =>
        have hlt : (i : Int) < 4 := by omega
        have hlt2 : (i : Int) < 16 := by omega
        have hlt3 : 6 + i + 1 = 6 + (i + 1) := by omega
        have r2 := TU.rd ok (i := i) (by omega)
        simp (maxSteps := 1000000) (disch := first | (simp; done) | (simp only [IHeap.size_push', IHeap.size_set']; omega) | omega) [e1, e3, e4, e6, hn, hd, hlt, hlt2, jidx_arr31, gb, r2, zeros1]
        rw [nums_one, app_new (l := [4, t.pr] ++ t.s.take 4 ++ t.d.take i) (j := h1.size) (k := 1) (m := [t.d.getD i 0]) (cs := nums [t.d.getD i 0]) (esz := 1) (ro := false) (by simp (maxSteps := 1000000) (disch := first | (simp; done) | (simp only [IHeap.size_push', IHeap.size_set']; omega) | omega) [gq]) (by simp [l1, l2]; omega) (by simp [l1, l2]; omega) (by simp (maxSteps := 1000000) (disch := first | (simp; done) | (simp only [IHeap.size_push', IHeap.size_set']; omega) | omega) []) (by omega) (slots_nums _ _ rfl) (by rfl) (by simp [l1, l2]; omega)]
        simp (maxSteps := 1000000) (disch := first | (simp; done) | (simp only [IHeap.size_push', IHeap.size_set']; omega) | omega) [hn, hd, e6, wrap64]
        refine ⟨k, by omega, i + 1, by omega, ?_⟩
        simp (maxSteps := 1000000) (disch := first | (simp; done) | (simp only [IHeap.size_push', IHeap.size_set']; omega) | omega) [e1, e3, e4, e6, hn, hd, hlt3, gb]
        have hz := fr.size
        exact ⟨by omega, ⟨by have sz0 := (fr).size; (try simp only [IHeap.size_push', IHeap.size_set'] at sz0); (try simp only [IHeap.size_push', IHeap.size_set']); omega, fun i hi => by have sz0 := (fr).size; (try simp only [IHeap.size_push', IHeap.size_set'] at sz0); have ge0 := (fr).get i (by (try simp only [IHeap.size_push', IHeap.size_set']); omega); (try simp only [IHeap.get_set_if, IHeap.get_push, IHeap.size_set', IHeap.size_push', getU,  getU] at ge0 ⊢); grind⟩⟩
      | zero =>
        obtain rfl : i = 4 := by omega
        simp (maxSteps := 1000000) (disch := first | (simp; done) | (simp only [IHeap.size_push', IHeap.size_set']; omega) | omega) [e1, e3, e4, e6, hn, hd, gb, TU.r34 ok, TU.r35 ok, zeros4]
        rw [s1, s2, s3, s4, nums_four]
        rw [app_new (l := [4, t.pr] ++ t.s.take 4 ++ t.d.take 4) (j := h1.size) (k := 4) (m := [t.sp / 256, t.sp % 256, t.dp / 256, t.dp % 256]) (cs := nums [t.sp / 256, t.sp % 256, t.dp / 256, t.dp % 256]) (esz := 1) (ro := false) (by simp (maxSteps := 1000000) (disch := first | (simp; done) | (simp only [IHeap.size_push', IHeap.size_set']; omega) | omega) [gq]) (by simp [l1, l2]) (by simp [l1, l2]) (by simp (maxSteps := 1000000) (disch := first | (simp; done) | (simp only [IHeap.size_push', IHeap.size_set']; omega) | omega) []) (by omega) (slots_nums _ _ rfl) (by rfl) (by simp [l1, l2])]
        simp (maxSteps := 1000000) (disch := first | (simp; done) | (simp only [IHeap.size_push', IHeap.size_set']; omega) | omega) [hn, hd]
        have hb : t.bytes = 4 :: t.pr :: (t.s.take 4 ++ (t.d.take 4 ++ [t.sp / 256, t.sp % 256, t.dp / 256, t.dp % 256])) := by simp [TU.bytes, TU.n, hv]
        have hl : t.bytes.length = 14 := by rw [hb]; simp [l1, l2]
        have hz := fr.size
        refine ⟨⟨by have sz0 := (fr).size; (try simp only [IHeap.size_push', IHeap.size_set'] at sz0); (try simp only [IHeap.size_push', IHeap.size_set']); omega, fun i hi => by have sz0 := (fr).size; (try simp only [IHeap.size_push', IHeap.size_set'] at sz0); have ge0 := (fr).get i (by (try simp only [IHeap.size_push', IHeap.size_set']); omega); (try simp only [IHeap.get_set_if, IHeap.get_push, IHeap.size_set', IHeap.size_push', getU,  getU] at ge0 ⊢); grind⟩, h1.size + 1, by omega, ⟨rfl, hl.symm⟩, ?_⟩
        rw [hb]
        simp (maxSteps := 1000000) (disch := first | (simp; done) | (simp only [IHeap.size_push', IHeap.size_set']; omega) | omega) []
  · simp (maxSteps := 1000000) (disch := first | (simp; done) | (simp only [IHeap.size_push', IHeap.size_set']; omega) | omega) [a0, hn, hd, TU.val, TU.r0 ok, TU.r1 ok, hv, zeros1, zeros2, zeros4]
    refine WPL.by_inv mixed (by kernel_rfl) (fun k e h' => ∃ i q, i + k = 16 ∧ e.n = 57 ∧ e.dfr = [] ∧ e.get 1 = .pointer (some ⟨h.size, 0, none⟩) ∧ e.get 4 = .int .i64 16 ∧ e.get 5 = .int .i64 i ∧ e.get 3 = .slice (some ⟨q, 0, none⟩) (2 + i) (2 + i) ∧ h'.get h.size = some (.row false 0 t.row) ∧ h'.get q = some (.row false 1 (nums ([6, t.pr] ++ t.s.take i))) ∧ h.size < q ∧ Fr h h' []) 16 ?_ ?_
    · refine ⟨0, h.size + 1, ?_⟩
      simp (maxSteps := 1000000) (disch := first | (simp; done) | (simp only [IHeap.size_push', IHeap.size_set']; omega) | omega) [a0, hn, hd, nums]
      exact ⟨by simp <;> omega, fun i hi => by simp only [IHeap.get_set_if, IHeap.get_push, IHeap.size_set', IHeap.size_push', getU, ]; grind⟩
    clear hn hd a0 e
    rintro k e h1 ⟨i, q, hi, hn, hd, e1, e4, e5, e3, gb, gq, hq, fr⟩
    have hqz := IHeap.get_lt gq
    cases k with
    | succ k =>
      have hlt : (i : Int) < 16 := by omega
      have hlt2 : (i : Int) < 16 := by omega
      have hlt3 : 2 + i + 1 = 2 + (i + 1) := by omega
      have r2 := TU.rs ok (i := i) (by omega)
      simp (maxSteps := 1000000) (disch := first | (simp; done) | (simp only [IHeap.size_push', IHeap.size_set']; omega) | omega) [e1, e3, e4, e5, hn, hd, hlt, hlt2, jidx_arr31, gb, r2, zeros1]
      rw [nums_one, app_new (l := [6, t.pr] ++ t.s.take i) (j := h1.size) (k := 1) (m := [t.s.getD i 0]) (cs := nums [t.s.getD i 0]) (esz := 1) (ro := false) (by simp (maxSteps := 1000000) (disch := first | (simp; done) | (simp only [IHeap.size_push', IHeap.size_set']; omega) | omega) [gq]) (by simp [l1]; omega) (by simp [l1]; omega) (by simp (maxSteps := 1000000) (disch := first | (simp; done) | (simp only [IHeap.size_push', IHeap.size_set']; omega) | omega) []) (by omega) (slots_nums _ _ rfl) (by rfl) (by simp [l1]; omega)]
      simp (maxSteps := 1000000) (disch := first | (simp; done) | (simp only [IHeap.size_push', IHeap.size_set']; omega) | omega) [hn, hd, e5, wrap64]
      refine ⟨k, by omega, i + 1, by omega, ?_⟩
      simp (maxSteps := 1000000) (disch := first | (simp; done) | (simp only [IHeap.size_push', IHeap.size_set']; omega) | omega) [e1, e3, e4, e5, hn, hd, hlt3, gb]
      have hz := fr.size
      exact ⟨by omega, ⟨by have sz0 := (fr).size; (try simp only [IHeap.size_push', IHeap.size_set'] at sz0); (try simp only [IHeap.size_push', IHeap.size_set']); omega, fun i hi => by have sz0 := (fr).size; (try simp only [IHeap.size_push', IHeap.size_set'] at sz0); have ge0 := (fr).get i (by (try simp only [IHeap.size_push', IHeap.size_set']); omega); (try simp only [IHeap.get_set_if, IHeap.get_push, IHeap.size_set', IHeap.size_push', getU,  getU] at ge0 ⊢); grind⟩⟩
    | zero =>
      obtain rfl : i = 16 := by omega
      simp (maxSteps := 1000000) (disch := first | (simp; done) | (simp only [IHeap.size_push', IHeap.size_set']; omega) | omega) [e1, e3, e4, e5, hn, hd]
      refine WPL.by_inv mixed (by kernel_rfl) (fun k e h' => ∃ i q, i + k = 16 ∧ e.n = 57 ∧ e.dfr = [] ∧ e.get 1 = .pointer (some ⟨h.size, 0, none⟩) ∧ e.get 4 = .int .i64 16 ∧ e.get 6 = .int .i64 i ∧ e.get 3 = .slice (some ⟨q, 0, none⟩) (18 + i) (18 + i) ∧ h'.get h.size = some (.row false 0 t.row) ∧ h'.get q = some (.row false 1 (nums ([6, t.pr] ++ t.s.take 16 ++ t.d.take i))) ∧ h.size < q ∧ Fr h h' []) 16 ?_ ?_
      · refine ⟨0, q, ?_⟩
        simp only [List.cons_append, List.nil_append] at gq
        simp (maxSteps := 1000000) (disch := first | (simp; done) | (simp only [IHeap.size_push', IHeap.size_set']; omega) | omega) [e1, e3, e4, e5, hn, hd, gb, gq, hq, fr]
      clear hn hd e1 e4 e5 e3 gb gq hq fr hqz e h1 hi q
      rintro k e h1 ⟨i, q, hi, hn, hd, e1, e4, e6, e3, gb, gq, hq, fr⟩
      have hqz := IHeap.get_lt gq
      cases k with
      | succ k =>
        have hlt : (i : Int) < 16 := by omega
        have hlt2 : (i : Int) < 16 := by omega
        have hlt3 : 18 + i + 1 = 18 + (i + 1) := by omega
        have r2 := TU.rd ok (i := i) (by omega)
        simp (maxSteps := 1000000) (disch := first | (simp; done) | (simp only [IHeap.size_push', IHeap.size_set']; omega) | omega) [e1, e3, e4, e6, hn, hd, hlt, hlt2, jidx_arr31, gb, r2, zeros1]
        rw [nums_one, app_new (l := [6, t.pr] ++ t.s.take 16 ++ t.d.take i) (j := h1.size) (k := 1) (m := [t.d.getD i 0]) (cs := nums [t.d.getD i 0]) (esz := 1) (ro := false) (by simp (maxSteps := 1000000) (disch := first | (simp; done) | (simp only [IHeap.size_push', IHeap.size_set']; omega) | omega) [gq]) (by simp [l1, l2]; omega) (by simp [l1, l2]; omega) (by simp (maxSteps := 1000000) (disch := first | (simp; done) | (simp only [IHeap.size_push', IHeap.size_set']; omega) | omega) []) (by omega) (slots_nums _ _ rfl) (by rfl) (by simp [l1, l2]; omega)]
        simp (maxSteps := 1000000) (disch := first | (simp; done) | (simp only [IHeap.size_push', IHeap.size_set']; omega) | omega) [hn, hd, e6, wrap64]
        refine ⟨k, by omega, i + 1, by omega, ?_⟩
        simp (maxSteps := 1000000) (disch := first | (simp; done) | (simp only [IHeap.size_push', IHeap.size_set']; omega) | omega) [e1, e3, e4, e6, hn, hd, hlt3, gb]
        have hz := fr.size
        exact ⟨by omega, ⟨by have sz0 := (fr).size; (try simp only [IHeap.size_push', IHeap.size_set'] at sz0); (try simp only [IHeap.size_push', IHeap.size_set']); omega, fun i hi => by have sz0 := (fr).size; (try simp only [IHeap.size_push', IHeap.size_set'] at sz0); have ge0 := (fr).get i (by (try simp only [IHeap.size_push', IHeap.size_set']); omega); (try simp only [IHeap.get_set_if, IHeap.get_push, IHeap.size_set', IHeap.size_push', getU,  getU] at ge0 ⊢); grind⟩⟩
      | zero =>
        obtain rfl : i = 16 := by omega
        simp (maxSteps := 1000000) (disch := first | (simp; done) | (simp only [IHeap.size_push', IHeap.size_set']; omega) | omega) [e1, e3, e4, e6, hn, hd, gb, TU.r34 ok, TU.r35 ok, zeros4]
        rw [s1, s2, s3, s4, nums_four]
        rw [app_new (l := [6, t.pr] ++ t.s.take 16 ++ t.d.take 16) (j := h1.size) (k := 4) (m := [t.sp / 256, t.sp % 256, t.dp / 256, t.dp % 256]) (cs := nums [t.sp / 256, t.sp % 256, t.dp / 256, t.dp % 256]) (esz := 1) (ro := false) (by simp (maxSteps := 1000000) (disch := first | (simp; done) | (simp only [IHeap.size_push', IHeap.size_set']; omega) | omega) [gq]) (by simp [l1, l2]) (by simp [l1, l2]) (by simp (maxSteps := 1000000) (disch := first | (simp; done) | (simp only [IHeap.size_push', IHeap.size_set']; omega) | omega) []) (by omega) (slots_nums _ _ rfl) (by rfl) (by simp [l1, l2])]
        simp (maxSteps := 1000000) (disch := first | (simp; done) | (simp only [IHeap.size_push', IHeap.size_set']; omega) | omega) [hn, hd]
        have hb : t.bytes = 6 :: t.pr :: (t.s.take 16 ++ (t.d.take 16 ++ [t.sp / 256, t.sp % 256, t.dp / 256, t.dp % 256])) := by simp [TU.bytes, TU.n, hv]
        have hl : t.bytes.length = 38 := by rw [hb]; simp [l1, l2]
        have hz := fr.size
        refine ⟨⟨by have sz0 := (fr).size; (try simp only [IHeap.size_push', IHeap.size_set'] at sz0); (try simp only [IHeap.size_push', IHeap.size_set']); omega, fun i hi => by have sz0 := (fr).size; (try simp only [IHeap.size_push', IHeap.size_set'] at sz0); have ge0 := (fr).get i (by (try simp only [IHeap.size_push', IHeap.size_set']); omega); (try simp only [IHeap.get_set_if, IHeap.get_push, IHeap.size_set', IHeap.size_push', getU,  getU] at ge0 ⊢); grind⟩, h1.size + 1, by omega, ⟨rfl, hl.symm⟩, ?_⟩
        rw [hb]
        simp (maxSteps := 1000000) (disch := first | (simp; done) | (simp only [IHeap.size_push', IHeap.size_set']; omega) | omega) []
end Go.Proofs.Ytmeonhnaadjamaa.Ideal
