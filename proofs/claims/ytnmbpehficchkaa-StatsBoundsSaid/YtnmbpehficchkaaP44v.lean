import Derived.Test.YtnmbpehficchkaaP44u
noncomputable section
open Go.Proofs
namespace Go.Proofs.Ytnmbpehficchkaa.Ideal
open Go.RowKit
set_option linter.unusedSimpArgs false
set_option linter.unusedVariables false
set_option linter.unusedSectionVars false
set_option maxRecDepth 100000
set_option maxHeartbeats 4000000
attribute [-simp] IHeap.size_set IHeap.size_push
attribute [local simp ↓] Hid.ap_mk
attribute [local simp] scopeQ_normal scopeQ_ret scopeQ_exit WP_skip WP_label WP_exit WP_goto WP_ret WP_region WP_seq WP_cond WP_block WP_scope WP_loop WP_range thenQ_normal thenQ_ret thenQ_exit thenQ_goto loopQ_normal loopQ_ret loopQ_exit invQ_normal invQ_ret invQ_exit outOf_normal outOf_ret outOf_goto outOf_exit ev_tmp ev_const ev_func
  wops_nil wops_cons wantedE_none wantedE_some jgd_some wnx_eq niC_false wdo_move wdo_assign wdo_pick wdo_load wdo_store wdo_alloc wdo_box wdo_fieldAddr wdo_indexAddr wdo_field wdo_extract wdo_build wdo_buildSlice wdo_makeSlice wdo_binOp wdo_unOp wdo_makeFunc wdo_nilCheck wdo_callV wdo_len wdo_append wdo_copy wdo_delete wdo_max wdo_min wdo_convert jcvt_int
  xput_get put_n put_none put_dfr ibin finQ_n finQ_r finD_nil splice_one ires_nil ires_one ires_two ires_three ires1_tmp ires1_cell jcell_ptr rowLoad_row wrap64 wrapU64 wrapU8 wrapU16 wrapU32 callV_fn buildOf Instr.fill Value.cells Value.oneCell' kindOf slots_all splice_all IHeap.size_set' IHeap.size_push' IHeap.get_set_same IHeap.get_set_ne IHeap.get_pushed IHeap.get_push_ne IHeap.set_set IHeap.set_push IHeap.set_pushed IHeap.set_set3 getU_nil getU_same getU_ne jif_true jif_false pushH_eq setH_eq forceL_eq forceV_eq ibuildSlice
attribute [local simp] wdo_index jopt_some
attribute [-simp] Value.oneCell'
attribute [local simp] one_int' one_slc'
attribute [-simp] ze80 ze47
attribute [local simp] ze80' ze47' zz80 zz47 bld47 bld47e bld80 bld45 fl80' fl47'
theorem bld47z : buildOf Try.prog 47 [] = some (.agg z39.tal.toArray) := by kernel_rfl
theorem tal_full (c : CN) : slots c.tal 0 38 = some c.tal := rfl
def GetQ (L : List CN) (d : Nat) (h : IHeap) (v : Value) (h' : IHeap) : Prop :=
  ((∃ c ∈ L, c.d = d ∧ v = .tuple #[.agg c.tal.toArray, .bool true]) ∨ ((∀ c ∈ L, c.d ≠ d) ∧ v = .tuple #[.agg z39.tal.toArray, .bool false])) ∧ Keep h h'
theorem get_c {h : IHeap} {T k turns total d : Nat} {sl : Value} {L : List CN} (hT : h.get T = some (.row false 0 (tkr k sl turns total))) (x : SlC h sl L) (hk : 1 ≤ k) (hL : L.length ≤ 200) :
    FN Try.prog 14 #[.pointer (some ⟨T, 0, none⟩), keyV d] h (Q := ⟨fun v h' => GetQ L d h v h'⟩) := by
  obtain ⟨A, cc, rfl⟩ := x.form
  have k1 := Keep.push h (.row false 0 (keyC d))
  have k2 := k1.push' (.row false 0 z39.tal)
  have nc := none_c (k2.get hT) hk
  have kf : slots (keyC d) 0 36 = some (keyC d) := slots_full _ (keyC_len d).symm
  have bx : ((h.push (.row false 0 (keyC d))).push (.row false 0 z39.tal)).get h.size = some (.row false 0 (keyC d)) := (Keep.push _ _).get (IHeap.get_pushed _ rfl)
  have oc := of_c (d := d) (k2.get hT) (x.keep k2) hL
  rw [keyV] at oc
  have b4 : ((h.push (.row false 0 (keyC d))).push (.row false 0 z39.tal)).get (h.size + 1) = some (.row false 0 z39.tal) := IHeap.get_pushed _ (by rw [IHeap.size_push'])
  refine FN.enter mixed (fn := Try.f14) (by kernel_rfl) rfl (by kernel_rfl) fun e hn hg hd => ?_
  simp [Try.f14] at hn
  have a0 : e.get 0 = .pointer (some ⟨T, 0, none⟩) := hg 0 (by omega)
  have a1 : e.get 1 = keyV d := hg 1 (by omega)
  clear hg
  simp (maxSteps := 1000000) (disch := first | (simp; done) | (simp only [IHeap.size_push', IHeap.size_set']; omega) | omega) [-buildOf, -Instr.fill, a0, a1, hn, hd, keyV, one_key, one_tal]
  refine FN.of nc ?_
  simp (maxSteps := 1000000) (disch := first | (simp; done) | (simp only [IHeap.size_push', IHeap.size_set']; omega) | omega) [-buildOf, -Instr.fill, a0, a1, hn, hd, bx, kf]
  refine FN.mono oc ?_
  rintro v h2 ⟨n, rfl, at', k3⟩
  have hT4 := k3.get (k2.get hT)
  have b5 := k3.get b4
  have z3 := k3.le
  simp only [IHeap.size_push'] at z3
  rw [tkr] at hT4
  rcases at' with ⟨i, hi, hd', rfl⟩ | ⟨nm, rfl⟩
  · have i0 : (0 : Int) ≤ i := by omega
    have i1 : (i : Int) < L.length := by omega
    obtain ⟨r, rfl, _, hr⟩ := ((x.keep k2).keep k3).at.2 i hi
    have st := fm_slots cn_len L i hi (cn_tal L[i])
    rw [Nat.add_zero] at st
    change slots (ccs L) _ _ = _ at st
    simp (maxSteps := 1000000) (disch := first | (simp; done) | (simp only [IHeap.size_push', IHeap.size_set']; omega) | omega) [-buildOf, -Instr.fill, a0, a1, hn, hd, i0, i1, hi, hT4, hr, st, b5, tal_len, tal_set, tal_full, one_tal]
    exact ⟨.inl ⟨L[i], List.getElem_mem hi, hd', rfl⟩, (k2.trans k3).set _ (by omega)⟩
  · simp (maxSteps := 1000000) (disch := first | (simp; done) | (simp only [IHeap.size_push', IHeap.size_set']; omega) | omega) [-buildOf, -Instr.fill, a0, a1, hn, hd, b5, bld47z, tal_len, tal_set, tal_full, one_tal]
    exact ⟨.inr ⟨nm, rfl⟩, (k2.trans k3).set _ (by omega)⟩
end Go.Proofs.Ytnmbpehficchkaa.Ideal
