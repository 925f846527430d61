import Derived.Test.YtgfemimlpbileaaP13c
noncomputable section
open Go.Proofs
namespace Go.Proofs.Ytgfemimlpbileaa.Ideal
open Go.RowKit
set_option linter.unusedSimpArgs false
set_option linter.unusedVariables false
set_option linter.unusedSectionVars false
set_option linter.unnecessarySimpa false
set_option maxRecDepth 100000
set_option maxHeartbeats 2000000
attribute [-simp] IHeap.size_set IHeap.size_push
attribute [local simp ↓] Hid.ap_mk
attribute [local simp] scopeQ_normal scopeQ_ret scopeQ_exit WP_skip WP_label WP_exit WP_goto WP_ret WP_region WP_seq WP_cond WP_block WP_scope WP_loop WP_range thenQ_normal thenQ_ret thenQ_exit thenQ_goto loopQ_normal loopQ_ret loopQ_exit invQ_normal invQ_ret invQ_exit outOf_normal outOf_ret outOf_goto outOf_exit ev_tmp ev_const ev_func
  wops_nil wops_cons wantedE_none wantedE_some jgd_some wnx_eq niC_false wdo_move wdo_assign wdo_pick wdo_load wdo_store wdo_alloc wdo_box wdo_fieldAddr wdo_indexAddr wdo_field wdo_extract wdo_build wdo_buildSlice wdo_makeSlice wdo_binOp wdo_unOp wdo_makeFunc wdo_nilCheck wdo_callV wdo_len wdo_append wdo_copy wdo_delete wdo_max wdo_min wdo_convert jcvt_int
  xput_get put_n put_none put_dfr ibin finQ_n finQ_r finD_nil splice_one ires_nil ires_one ires_two ires_three ires1_tmp ires1_cell jcell_ptr rowLoad_row wrap64 wrapU64 wrapU8 wrapU16 wrapU32 callV_fn buildOf Instr.fill Value.cells Value.oneCell' kindOf slots_all splice_all IHeap.size_set' IHeap.size_push' IHeap.get_set_same IHeap.get_set_ne IHeap.get_pushed IHeap.get_push_ne IHeap.set_set IHeap.set_push IHeap.set_pushed IHeap.set_set3 getU_nil getU_same getU_ne jif_true jif_false pushH_eq setH_eq forceL_eq forceV_eq ibuildSlice
attribute [-simp] Value.oneCell'
theorem ask_c {h : IHeap} {b : Nat} {hash what w : Int} (hb : h.get b = some (.row false 0 [.int .u64 hash, .int .u32 what])) : ICall Try.prog 28 #[.int .u32 w, .pointer (some ⟨b, 0, none⟩)] h (.bool (decide (w = what))) h := by
  refine ICall.of_FN ?_
  refine FN.enter mixed (fn := Try.f28) (by kernel_rfl) rfl (by kernel_rfl) fun e hn hg hd => ?_
  simp [Try.f28] at hn
  have a0 : e.get 0 = .int .u32 w := hg 0 (by omega)
  have a1 : e.get 1 = .pointer (some ⟨b, 0, none⟩) := hg 1 (by omega)
  clear hg
  simp (maxSteps := 1000000) (disch := first | (simp; done) | (simp only [IHeap.size_push', IHeap.size_set']; omega) | omega) [a0, a1, hn, hd, hb]
  by_cases hw : w = what <;> simp [hw]
theorem find_c {h : IHeap} {A : Option Addr} {q : Nat} {t : TB} (hll : t.ps.length ≤ 300000) (x : TIs h A t q) (hash what : Int) (hh : 0 ≤ hash ∧ hash < 18446744073709551616) :
    CT Try.prog 8 #[.pointer A, .agg #[.int .u64 hash, .int .u32 what]] h (findV (t.find hash (some fun w => decide (w = what)))) [] := by
  refine FN.enter mixed (fn := Try.f8) (by kernel_rfl) rfl (by kernel_rfl) fun e hn hg hd => ?_
  simp [Try.f8] at hn
  have a0 : e.get 0 = .pointer A := hg 0 (by omega)
  have a1 : e.get 1 = .agg #[.int .u64 hash, .int .u32 what] := hg 1 (by omega)
  clear hg
  simp (maxSteps := 1000000) (disch := first | (simp; done) | (simp only [IHeap.size_push', IHeap.size_set']; omega) | omega) [a0, a1, hn, hd]
  refine FN.ct (Find_c hll (x.inv (h' := h.push (.row false 0 [.int .u64 hash, .int .u32 what])) (fun i hi => by simp (maxSteps := 1000000) (disch := first | (simp; done) | (simp only [IHeap.size_push', IHeap.size_set']; omega) | omega) [])) hash hh _ (some fun w => decide (w = what)) (.inr ⟨28, #[], #[.pointer (some ⟨h.size, 0, none⟩)], _, rfl, rfl, by simp, fun h' w hk => ?_⟩)) ?_
  · have hb : h'.get h.size = some (.row false 0 [.int .u64 hash, .int .u32 what]) := by
      rw [hk _ (by simp only [IHeap.size_push']; omega)]; simp (maxSteps := 1000000) (disch := first | (simp; done) | (simp only [IHeap.size_push', IHeap.size_set']; omega) | omega) []
    exact FN.of (ask_c hb) ⟨rfl, Fr.refl _⟩
  · intro h2 fr
    have hfr : Fr h h2 [] := ⟨by have := fr.size; simp only [IHeap.size_push'] at this; omega, fun i hi => by
      rw [fr.get i (by simp only [IHeap.size_push']; omega)]
      simp (maxSteps := 1000000) (disch := first | (simp; done) | (simp only [IHeap.size_push', IHeap.size_set']; omega) | omega) []⟩
    cases t.find hash (some fun w => decide (w = what)) with
    | none => simp (maxSteps := 1000000) (disch := first | (simp; done) | (simp only [IHeap.size_push', IHeap.size_set']; omega) | omega) [a0, a1, hn, hd, findV, hfr]
    | some i => simp (maxSteps := 1000000) (disch := first | (simp; done) | (simp only [IHeap.size_push', IHeap.size_set']; omega) | omega) [a0, a1, hn, hd, findV, hfr]
theorem copy_nil {h : IHeap} {A : Option Addr} {q : Nat} {t : TB} (x : TIs h A t q) (hc : t.ps = []) : ICall Try.prog 20 #[.pointer A] h (.pointer none) h := by
  refine ICall.of_FN ?_
  refine FN.enter mixed (fn := Try.f20) (by kernel_rfl) rfl (by kernel_rfl) fun e hn hg hd => ?_
  simp [Try.f20] at hn
  have a0 : e.get 0 = .pointer A := hg 0 (by omega)
  clear hg
  simp (maxSteps := 1000000) (disch := first | (simp; done) | (simp only [IHeap.size_push', IHeap.size_set']; omega) | omega) [a0, hn, hd]
  refine FN.of (places_c x) ?_
  simp (maxSteps := 1000000) (disch := first | (simp; done) | (simp only [IHeap.size_push', IHeap.size_set']; omega) | omega) [a0, hn, hd, hc]
theorem all_c {h : IHeap} (A : Option Addr) : ICall Try.prog 26 #[.pointer A] h (.func (.func 38) #[] #[.pointer (some ⟨h.size, 0, none⟩)]) (h.push (.row false 0 [.pointer A])) := by
  refine ICall.of_FN ?_
  refine FN.enter mixed (fn := Try.f26) (by kernel_rfl) rfl (by kernel_rfl) fun e hn hg hd => ?_
  simp [Try.f26] at hn
  have a0 : e.get 0 = .pointer A := hg 0 (by omega)
  clear hg
  simp (maxSteps := 1000000) (disch := first | (simp; done) | (simp only [IHeap.size_push', IHeap.size_set']; omega) | omega) [a0, hn, hd]
def kfns : List Nat := [7, 6, 8, 28, 9, 10, 14, 25, 24, 27, 29, 39]
theorem kfns_ok : ∀ g ∈ kfns, fnB Try.prog g = true := by
  have : kfns.all (fnB Try.prog) = true := by kernel_rfl
  rwa [List.all_eq_true] at this
theorem known_c {h : IHeap} : ICall Try.prog 7 #[] h (.bool true) h := by
  refine ICall.of_below rfl fun ρ w args' ha hm => ?_
  obtain rfl : args' = #[] := Array.eq_empty_of_size_eq_zero ha.1.symm
  exact calls_run kfns_ok mixed (m := 100000) (n := 200) (by kernel_rfl) (by kernel_rfl) w
end Go.Proofs.Ytgfemimlpbileaa.Ideal
