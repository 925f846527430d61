import Derived.Test.YtkecaobcchnilaaP09b
noncomputable section
open Go.Proofs
namespace Go.Proofs.Ytkecaobcchnilaa.Ideal
set_option linter.unusedSimpArgs false
set_option linter.unusedVariables false
set_option linter.unusedSectionVars false
set_option linter.unnecessarySimpa false
set_option maxRecDepth 100000
set_option maxHeartbeats 2000000
attribute [-simp] IHeap.size_set IHeap.size_push
attribute [local simp ↓] Hid.ap_mk
attribute [local simp] scopeQ_normal scopeQ_ret scopeQ_exit WP_skip WP_label WP_exit WP_goto WP_ret WP_region WP_seq WP_cond WP_block WP_scope WP_loop WP_range thenQ_normal thenQ_ret thenQ_exit thenQ_goto loopQ_normal loopQ_ret loopQ_exit invQ_normal invQ_ret invQ_exit outOf_normal outOf_ret outOf_goto outOf_exit ev_tmp ev_const ev_func
  wops_nil wops_cons wantedE_none wantedE_some jgd_some wnx_eq niC_false wdo_move wdo_assign wdo_pick wdo_load wdo_store wdo_alloc wdo_box wdo_fieldAddr wdo_indexAddr wdo_field wdo_extract wdo_build wdo_buildSlice wdo_makeSlice wdo_binOp wdo_unOp wdo_makeFunc wdo_nilCheck wdo_callV wdo_len wdo_append wdo_copy wdo_delete wdo_max wdo_min wdo_convert jcvt_int
  xput_get put_n put_none put_dfr ibin finQ_n finQ_r finD_nil splice_one ires_nil ires_one ires_two ires_three ires1_tmp ires1_cell jcell_ptr rowLoad_row wrap64 wrapU64 wrapU8 wrapU16 wrapU32 callV_fn buildOf Instr.fill Value.cells Value.oneCell' kindOf slots_all splice_all IHeap.size_set' IHeap.size_push' IHeap.get_set_same IHeap.get_set_ne IHeap.get_pushed IHeap.get_push_ne IHeap.set_set IHeap.set_push IHeap.set_pushed IHeap.set_set3 getU_nil getU_same getU_ne jif_true jif_false pushH_eq setH_eq forceL_eq forceV_eq ibuildSlice
attribute [-simp] Value.oneCell'
def AR.freed (a : AR) (i : Int) : AR := { a with cs := a.cs.set i.toNat (0, a.free), free := i, live := a.live - 1 }
def AR.drop (a : AR) (i s : Int) : AR := if a.lives i s then a.freed i else a
theorem free_c {h : IHeap} {p q : Nat} {a : AR} (ok : a.ok) (x : a.at h p q) (i s : Int) : FN Try.prog 10 #[.pointer (some ⟨p, 0, none⟩), .agg #[.int .i64 i, .int .u64 s]] h (Q := ⟨fun v h' => v = .int .i64 (if a.lives i s then 0 else 14) ∧ (a.drop i s).at h' p q ∧ Keeps h h' p q⟩) := by
  refine FN.enter mixed (fn := Try.f10) (by kernel_rfl) rfl (by kernel_rfl) fun e hn hg hd => ?_
  simp [Try.f10] at hn
  have a0 : e.get 0 = .pointer (some ⟨p, 0, none⟩) := hg 0 (by omega)
  have a1 : e.get 1 = .agg #[.int .i64 i, .int .u64 s] := hg 1 (by omega)
  clear hg
  have hp := x.gp
  have hpz := IHeap.get_lt hp
  have x2 : a.at (h.push (.row false 0 [.int .i64 i, .int .u64 s])) p q := by
    refine ⟨by simp (maxSteps := 1000000) (disch := first | (simp; done) | (simp only [IHeap.size_push', IHeap.size_set']; omega) | omega) [hp], fun hc => ?_⟩
    obtain ⟨g1, g2⟩ := x.gq hc
    have := IHeap.get_lt g1
    exact ⟨by simp (maxSteps := 1000000) (disch := first | (simp; done) | (simp only [IHeap.size_push', IHeap.size_set']; omega) | omega) [g1], g2⟩
  have hlen := ok.len
  have hsz := ok.size
  have hser := ok.ser
  have hlive := ok.live
  have hfree := ok.free
  simp (maxSteps := 1000000) (disch := first | (simp; done) | (simp only [IHeap.size_push', IHeap.size_set']; omega) | omega) [a0, a1, hn, hd]
  refine FN.of (none_c ok x2) ?_
  simp (maxSteps := 1000000) (disch := first | (simp; done) | (simp only [IHeap.size_push', IHeap.size_set']; omega) | omega) [a0, a1, hn, hd]
  refine FN.ct (live_c ok x2 i s) ?_
  rintro h1 fr
  have hz := fr.size
  simp only [IHeap.size_push'] at hz
  have gp : h1.get p = some (.row false 0 (a.row q)) := by
    rw [fr.get _ (by simp only [IHeap.size_push']; omega)]; exact x2.gp
  have gb : h1.get h.size = some (.row false 0 [.int .i64 i, .int .u64 s]) := by
    rw [fr.get _ (by simp only [IHeap.size_push']; omega)]; simp (maxSteps := 1000000) (disch := first | (simp; done) | (simp only [IHeap.size_push', IHeap.size_set']; omega) | omega) []
  have go : ∀ j, j < h.size → h1.get j = h.get j := fun j hj => by
    rw [fr.get _ (by simp only [IHeap.size_push']; omega)]
    simp (maxSteps := 1000000) (disch := first | (simp; done) | (simp only [IHeap.size_push', IHeap.size_set']; omega) | omega) []
  cases hl : a.lives i s
  · simp (maxSteps := 1000000) (disch := first | (simp; done) | (simp only [IHeap.size_push', IHeap.size_set']; omega) | omega) [a0, a1, hn, hd]
    refine ⟨by simp [AR.drop, hl]; exact ⟨gp, fun hc => ⟨by rw [go _ (IHeap.get_lt (x.gq hc).1)]; exact (x.gq hc).1, (x.gq hc).2⟩⟩, ⟨by omega, fun j hj _ _ => go j hj⟩⟩
  · have hl2 := hl
    simp only [AR.lives, Bool.and_eq_true, decide_eq_true_eq] at hl2
    obtain ⟨k, rfl⟩ : ∃ k : Nat, i = k := ⟨i.toNat, by omega⟩
    have hkl : k < a.cs.length := by omega
    have hc : a.cs ≠ [] := fun h => by rw [h] at hkl; simp at hkl
    obtain ⟨hq0, hqp⟩ := x.gq hc
    have hqz := IHeap.get_lt hq0
    have hq : h1.get q = some (.row false 2 (flat a.cs)) := by rw [go _ hqz]; exact hq0
    have h3 : (k : Int) < a.cs.length := by omega
    have h6 : k * 2 + 2 ≤ (flat a.cs).length := by rw [flat_len]; omega
    simp (maxSteps := 1000000) (disch := first | (simp; done) | (simp only [IHeap.size_push', IHeap.size_set']; omega) | omega) [a0, a1, hn, hd, gp, gb, hq, AR.row, AR.slc, hc, h3, h6, one_int, flat_set, hkl, wrap64, hqp, Ne.symm hqp]
    have e1 : a.drop k s = { a with cs := a.cs.set k (0, a.free), free := k, live := a.live - 1 } := by simp [AR.drop, hl, AR.freed]
    have e2 : a.cs.set k (0, a.free) ≠ [] := by
      intro h
      have := congrArg List.length h
      simp at this
      exact hc this
    have hpz1 : p < h1.size := by omega
    have hqz1 : q < h1.size := by omega
    refine ⟨niC_pend [(13, 15)] (by kernel_rfl) ⟨?_, trivial⟩, ⟨?_, fun _ => ⟨?_, hqp⟩⟩, ⟨?_, fun i hi hip hiq => ?_⟩⟩
    · show (h1.set q _).get h.size = h1.get h.size
      exact IHeap.get_set_ne _ (by omega)
    · rw [e1]; simp (maxSteps := 1000000) (disch := first | (simp; done) | (simp only [IHeap.size_push', IHeap.size_set']; omega) | omega) [AR.row, AR.slc, e2]
    · rw [e1]; simp (maxSteps := 1000000) (disch := first | (simp; done) | (simp only [IHeap.size_push', IHeap.size_set']; omega) | omega) [hqp, Ne.symm hqp]
    · simp (maxSteps := 1000000) (disch := first | (simp; done) | (simp only [IHeap.size_push', IHeap.size_set']; omega) | omega) []
      omega
    · have := go i hi
      simp (maxSteps := 1000000) (disch := first | (simp; done) | (simp only [IHeap.size_push', IHeap.size_set']; omega) | omega) [hip, hiq, Ne.symm hip, Ne.symm hiq, this]
end Go.Proofs.Ytkecaobcchnilaa.Ideal
