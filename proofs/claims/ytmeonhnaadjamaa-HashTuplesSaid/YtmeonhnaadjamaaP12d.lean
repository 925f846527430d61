import Derived.Test.YtmeonhnaadjamaaP12c
noncomputable section
open Go.Proofs
namespace Go.Proofs.Ytmeonhnaadjamaa.Ideal
open Go.RowKit
set_option linter.unusedSimpArgs false
set_option linter.unusedVariables false
set_option linter.unusedSectionVars false
set_option linter.unnecessarySimpa false
set_option maxRecDepth 100000
set_option maxHeartbeats 2000000
attribute [-simp] IHeap.size_set IHeap.size_push
attribute [local simp ↓] Hid.ap_mk
attribute [local simp] scopeQ_normal scopeQ_ret scopeQ_exit WP_skip WP_label WP_exit WP_goto WP_ret WP_region WP_seq WP_cond WP_block WP_scope WP_loop WP_range thenQ_normal thenQ_ret thenQ_exit thenQ_goto loopQ_normal loopQ_ret loopQ_exit invQ_normal invQ_ret invQ_exit outOf_normal outOf_ret outOf_goto outOf_exit ev_tmp ev_const ev_func
  wops_nil wops_cons wantedE_none wantedE_some jgd_some wnx_eq niC_false wdo_move wdo_assign wdo_pick wdo_load wdo_store wdo_alloc wdo_box wdo_fieldAddr wdo_indexAddr wdo_field wdo_extract wdo_build wdo_buildSlice wdo_makeSlice wdo_binOp wdo_unOp wdo_makeFunc wdo_nilCheck wdo_callV wdo_len wdo_append wdo_copy wdo_delete wdo_max wdo_min wdo_convert jcvt_int
  xput_get put_n put_none put_dfr ibin finQ_n finQ_r finD_nil splice_one ires_nil ires_one ires_two ires_three ires1_tmp ires1_cell jcell_ptr rowLoad_row wrap64 wrapU64 wrapU8 wrapU16 wrapU32 callV_fn buildOf Instr.fill Value.cells Value.oneCell' kindOf slots_all splice_all IHeap.size_set' IHeap.size_push' IHeap.get_set_same IHeap.get_set_ne IHeap.get_pushed IHeap.get_push_ne IHeap.set_set IHeap.set_push IHeap.set_pushed IHeap.set_set3 getU_nil getU_same getU_ne jif_true jif_false pushH_eq setH_eq forceL_eq forceV_eq ibuildSlice
attribute [local simp] wdo_arrCut jopt_some u8_5 ni26
attribute [local simp high] wdo_str
/-- A tuple's numbers are bytes. -/
structure TU.okb (t : TU) : Prop extends t.ok where
  pr : 0 ≤ t.pr ∧ t.pr < 256
  bs : ∀ n ∈ t.s, 0 ≤ n ∧ n < 256
  bd : ∀ n ∈ t.d, 0 ≤ n ∧ n < 256
theorem TU.okb.bytes {t : TU} (ok : t.okb) : ∀ n ∈ t.bytes, 0 ≤ n ∧ n < 256 := by
  intro n hn
  have := ok.pr
  have := ok.sp
  have := ok.dp
  simp only [TU.bytes, List.mem_append, List.mem_cons, List.not_mem_nil, or_false] at hn
  rcases hn with (((rfl | rfl) | h) | h) | rfl | rfl | rfl | rfl
  · split <;> omega
  · omega
  · exact ok.bs _ (List.mem_of_mem_take h)
  · exact ok.bd _ (List.mem_of_mem_take h)
  all_goals omega
theorem TU.okb.bl {t : TU} (ok : t.okb) : t.bytes.length < 1000 := by
  have := TU.blen ok.took
  have := TU.n_le ok.took
  omega
theorem TU.bne (t : TU) : t.bytes ≠ [] := by simp [TU.bytes]
theorem tuple_c {h : IHeap} {t : TU} (ok : t.okb) : CT Try.prog 18 #[t.val] h (.int .u64 (hsh t.bytes)) [] := by
  refine FN.enter mixed (fn := Try.f18) (by kernel_rfl) rfl (by kernel_rfl) fun e hn hg hd => ?_
  simp [Try.f18] at hn
  have a0 : e.get 0 = t.val := hg 0 (by omega)
  clear hg
  simp (maxSteps := 1000000) (disch := first | (simp; done) | (simp only [IHeap.size_push', IHeap.size_set']; omega) | omega) [a0, hn, hd, TU.val, TU.all36 ok.took]
  refine FN.mono (bytes_c ok.took) ?_
  rintro v h1 ⟨fr, q, hq, rfl, gq⟩
  simp (maxSteps := 1000000) (disch := first | (simp; done) | (simp only [IHeap.size_push', IHeap.size_set']; omega) | omega) [hn, hd]
  refine FN.of (seeded_c gq t.bne ok.bl ok.bytes) ?_
  simp (maxSteps := 1000000) (disch := first | (simp; done) | (simp only [IHeap.size_push', IHeap.size_set']; omega) | omega) [hn, hd]
  exact ⟨by have sz0 := (fr).size; (try simp only [IHeap.size_push', IHeap.size_set'] at sz0); (try simp only [IHeap.size_push', IHeap.size_set']); omega, fun i hi => by have sz0 := (fr).size; (try simp only [IHeap.size_push', IHeap.size_set'] at sz0); have ge0 := (fr).get i (by (try simp only [IHeap.size_push', IHeap.size_set']); omega); (try simp only [IHeap.get_set_if, IHeap.get_push, IHeap.size_set', IHeap.size_push', getU,  getU] at ge0 ⊢); grind⟩
theorem rtuple_c {h : IHeap} {t : TU} (ok : t.okb) : CT Try.prog 19 #[t.val] h (.int .u64 (hsh t.bytes)) [] := by
  refine FN.enter mixed (fn := Try.f19) (by kernel_rfl) rfl (by kernel_rfl) fun e hn hg hd => ?_
  simp [Try.f19] at hn
  have a0 : e.get 0 = t.val := hg 0 (by omega)
  clear hg
  simp (maxSteps := 1000000) (disch := first | (simp; done) | (simp only [IHeap.size_push', IHeap.size_set']; omega) | omega) [a0, hn, hd, TU.val, TU.all36 ok.took]
  refine FN.mono (rbytes_c ok.took) ?_
  rintro v h1 ⟨fr, q, hq, rfl, gq⟩
  simp (maxSteps := 1000000) (disch := first | (simp; done) | (simp only [IHeap.size_push', IHeap.size_set']; omega) | omega) [hn, hd]
  refine FN.of (rseeded_c gq t.bne ok.bl ok.bytes) ?_
  simp (maxSteps := 1000000) (disch := first | (simp; done) | (simp only [IHeap.size_push', IHeap.size_set']; omega) | omega) [hn, hd]
  exact ⟨by have sz0 := (fr).size; (try simp only [IHeap.size_push', IHeap.size_set'] at sz0); (try simp only [IHeap.size_push', IHeap.size_set']); omega, fun i hi => by have sz0 := (fr).size; (try simp only [IHeap.size_push', IHeap.size_set'] at sz0); have ge0 := (fr).get i (by (try simp only [IHeap.size_push', IHeap.size_set']); omega); (try simp only [IHeap.get_set_if, IHeap.get_push, IHeap.size_set', IHeap.size_push', getU,  getU] at ge0 ⊢); grind⟩
end Go.Proofs.Ytmeonhnaadjamaa.Ideal
