import Derived.Test.YtkecaobcchnilaaP09h
noncomputable section
open Go.Proofs
namespace Go.Proofs.Ytkecaobcchnilaa.Ideal
open Go.RowKit
set_option linter.unusedSimpArgs false
set_option linter.unusedVariables false
set_option linter.unusedSectionVars false
set_option linter.unnecessarySimpa false
set_option maxRecDepth 100000
set_option maxHeartbeats 2000000
attribute [-simp] IHeap.size_set IHeap.size_push
attribute [local simp ↓] Hid.ap_mk
attribute [local simp] scopeQ_normal scopeQ_ret scopeQ_exit WP_skip WP_label WP_exit WP_goto WP_ret WP_region WP_seq WP_cond WP_block WP_scope WP_loop WP_range thenQ_normal thenQ_ret thenQ_exit thenQ_goto loopQ_normal loopQ_ret loopQ_exit invQ_normal invQ_ret invQ_exit outOf_normal outOf_ret outOf_goto outOf_exit ev_tmp ev_const ev_func
  wops_nil wops_cons wantedE_none wantedE_some jgd_some wnx_eq niC_false wdo_move wdo_assign wdo_pick wdo_load wdo_store wdo_alloc wdo_box wdo_fieldAddr wdo_indexAddr wdo_field wdo_extract wdo_build wdo_buildSlice wdo_makeSlice wdo_binOp wdo_unOp wdo_makeFunc wdo_nilCheck wdo_callV wdo_len wdo_append wdo_copy wdo_delete wdo_max wdo_min wdo_convert jcvt_int
  xput_get put_n put_none put_dfr ibin finQ_n finQ_r finD_nil splice_one ires_nil ires_one ires_two ires_three ires1_tmp ires1_cell jcell_ptr rowLoad_row wrap64 wrapU64 wrapU8 wrapU16 wrapU32 callV_fn buildOf Instr.fill Value.cells Value.oneCell' kindOf slots_all splice_all IHeap.size_set' IHeap.size_push' IHeap.get_set_same IHeap.get_set_ne IHeap.get_pushed IHeap.get_push_ne IHeap.set_set IHeap.set_push IHeap.set_pushed IHeap.set_set3 getU_nil getU_same getU_ne jif_true jif_false pushH_eq setH_eq forceL_eq forceV_eq ibuildSlice
attribute [-simp] Value.oneCell'
attribute [local simp] wdo_cutV jopt_some
theorem iter_c {h : IHeap} {l b p q : Nat} {a : AR} {Z : Nat} (hZ : a.size = Z) (ok : a.ok) (J : Nat → IHeap → Prop) (S : IHeap → Prop)
    (hb : ∀ k h, J k h → h.get b = some (.row false 0 [.pointer (some ⟨p, 0, none⟩)])) (hx : ∀ k h, J k h → a.at h p q)
    (hJ : ∀ (k : Nat) h, (k : Int) < a.size → a.get k ≠ 0 → J k h → RN Try.prog l #[.agg #[.int .i64 k, .int .u64 (a.get k)]] h (Q := ⟨fun v h' => (v = .bool true ∧ J (k + 1) h') ∨ (v = .bool false ∧ S h')⟩))
    (hN : ∀ (k : Nat) h, (k : Int) < a.size → a.get k = 0 → J k h → J (k + 1) h)
    (hF : ∀ k h h', J k h → Fr h h' [] → J k h') (h0 : J 0 h) :
    FN Try.prog 27 #[.func (.yield l) #[] #[], .pointer (some ⟨b, 0, none⟩)] h (Q := ⟨fun _ h' => J Z h' ∨ S h'⟩) := by
  refine FN.enter mixed (fn := Try.f27) (by kernel_rfl) rfl (by kernel_rfl) fun e hn hg hd => ?_
  simp [Try.f27] at hn
  have a0 : e.get 0 = .func (.yield l) #[] #[] := hg 0 (by omega)
  have a1 : e.get 1 = .pointer (some ⟨b, 0, none⟩) := hg 1 (by omega)
  clear hg
  have hsz := ok.size
  simp (maxSteps := 1000000) (disch := first | (simp; done) | (simp only [IHeap.size_push', IHeap.size_set']; omega) | omega) [a0, a1, hn, hd]
  refine WPL.by_inv mixed (by kernel_rfl) (fun k e h' => ∃ i : Nat, i + k = Z ∧ e.n = 25 ∧ e.dfr = [] ∧ e.get 0 = .func (.yield l) #[] #[] ∧ e.get 1 = .pointer (some ⟨b, 0, none⟩) ∧ e.get 3 = .int .i64 i ∧ J i h') Z ?_ ?_
  · refine ⟨0, ?_⟩
    simp (maxSteps := 1000000) (disch := first | (simp; done) | (simp only [IHeap.size_push', IHeap.size_set']; omega) | omega) [a0, a1, hn, hd, h0]
  clear hn hd a0 a1 e
  rintro k e h1 ⟨i, hi, hn, hd, e0, e1, e3, j⟩
  have gb := hb _ _ j
  have xx := hx _ _ j
  simp (maxSteps := 1000000) (disch := first | (simp; done) | (simp only [IHeap.size_push', IHeap.size_set']; omega) | omega) [e0, e1, e3, hn, hd, gb]
  refine FN.of (size_c xx) ?_
  cases k with
  | zero =>
    obtain rfl : i = Z := by omega
    simp (maxSteps := 1000000) (disch := first | (simp; done) | (simp only [IHeap.size_push', IHeap.size_set']; omega) | omega) [e0, e1, e3, hn, hd, hZ]
    exact .inl j
  | succ k =>
    have hlt : (i : Int) < a.size := by omega
    simp (maxSteps := 1000000) (disch := first | (simp; done) | (simp only [IHeap.size_push', IHeap.size_set']; omega) | omega) [e0, e1, e3, hn, hd, hlt, gb]
    refine FN.ct (at_c ok xx i) ?_
    intro h2 fr
    have j2 := hF _ _ _ j fr
    by_cases hz : a.get i = 0
    · have j3 := hN i _ hlt hz (hF _ _ _ j2 ((Fr.refl _).push (.row false 0 [.int .i64 0, .int .u64 0])))
      simp (maxSteps := 1000000) (disch := first | (simp; done) | (simp only [IHeap.size_push', IHeap.size_set']; omega) | omega) [e0, e1, e3, hn, hd, AR.atV, hz, one_int, zerosC, wrap64]
      exact ⟨k, by omega, i + 1, by omega, by omega, j3⟩
    · have j3 := hF _ _ _ j2 ((Fr.refl _).push (.row false 0 [.int .i64 i, .int .u64 (a.get i)]))
      simp (maxSteps := 1000000) (disch := first | (simp; done) | (simp only [IHeap.size_push', IHeap.size_set']; omega) | omega) [e0, e1, e3, hn, hd, AR.atV, hz, one_int, zerosC]
      refine RN.mono (hJ i _ hlt hz j3) ?_
      rintro v h4 (⟨rfl, j4⟩ | ⟨rfl, s4⟩)
      · simp (maxSteps := 1000000) (disch := first | (simp; done) | (simp only [IHeap.size_push', IHeap.size_set']; omega) | omega) [e0, e1, e3, hn, hd, wrap64]
        exact ⟨k, by omega, i + 1, by omega, by omega, j4⟩
      · simp (maxSteps := 1000000) (disch := first | (simp; done) | (simp only [IHeap.size_push', IHeap.size_set']; omega) | omega) [e0, e1, e3, hn, hd]
        exact .inr s4
theorem all_c {h : IHeap} (A : Option Addr) : ICall Try.prog 20 #[.pointer A] h (.func (.func 27) #[] #[.pointer (some ⟨h.size, 0, none⟩)]) (h.push (.row false 0 [.pointer A])) := by
  refine ICall.of_FN ?_
  refine FN.enter mixed (fn := Try.f20) (by kernel_rfl) rfl (by kernel_rfl) fun e hn hg hd => ?_
  simp [Try.f20] at hn
  have a0 : e.get 0 = .pointer A := hg 0 (by omega)
  clear hg
  simp (maxSteps := 1000000) (disch := first | (simp; done) | (simp only [IHeap.size_push', IHeap.size_set']; omega) | omega) [a0, hn, hd]
end Go.Proofs.Ytkecaobcchnilaa.Ideal
