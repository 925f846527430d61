import Derived.Test.YthaegngkkannjaaP48a
noncomputable section
open Go.Proofs
namespace Go.Proofs.Ythaegngkkannjaa.Ideal
set_option linter.unusedSimpArgs false
set_option linter.unusedVariables false
set_option maxRecDepth 100000
set_option maxHeartbeats 1000000
attribute [-simp] IHeap.size_set IHeap.size_push
attribute [local simp ↓] Hid.ap_mk
attribute [local simp] scopeQ_normal scopeQ_ret scopeQ_exit WP_skip WP_label WP_exit WP_goto WP_ret WP_region WP_seq WP_cond WP_block WP_scope WP_loop WP_range thenQ_normal thenQ_ret thenQ_exit thenQ_goto loopQ_normal loopQ_ret loopQ_exit invQ_normal invQ_ret invQ_exit outOf_normal outOf_ret outOf_goto outOf_exit ev_tmp ev_const ev_func
  wops_nil wops_cons wantedE_none wantedE_some jgd_some wnx_eq niC_false wdo_move wdo_assign wdo_pick wdo_load wdo_store wdo_alloc wdo_box wdo_fieldAddr wdo_indexAddr wdo_field wdo_extract wdo_build wdo_buildSlice wdo_makeSlice wdo_binOp wdo_unOp wdo_makeFunc wdo_nilCheck wdo_callV wdo_len wdo_append wdo_copy wdo_delete wdo_max wdo_min wdo_convert jcvt_int
  xput_get put_n put_none put_dfr ibin finQ_n finQ_r finD_nil splice_one ires_nil ires_one ires_two ires_three ires1_tmp ires1_cell jcell_ptr rowLoad_row wrap64 wrapU64 wrapU8 wrapU16 wrapU32 callV_fn buildOf Instr.fill Value.cells Value.oneCell' kindOf slots_all splice_all IHeap.size_set' IHeap.size_push' IHeap.get_set_same IHeap.get_set_ne IHeap.get_pushed IHeap.get_push_ne IHeap.set_set IHeap.set_push IHeap.set_pushed IHeap.set_set3 getU_nil getU_same getU_ne jif_true jif_false pushH_eq setH_eq forceL_eq forceV_eq ibuildSlice
def st (A B : PN) (lost : Bool) : Nat → PN × PN
  | 2 => (A, B)
  | 1 => half A B lost
  | _ => rnd A B lost
theorem round_c {h : IHeap} {p q : Nat} {A B : PN} {K : Int} (lost : Bool) (hK : K < 1000000) (hpq : p ≠ q) (okA : A.ok K) (okB : B.ok K) (nA : A.num = 0) (nB : B.num = 1) (hp : h.get p = some A.obj) (hq : h.get q = some B.obj) :
    CT Try.prog 9 #[.agg #[.pointer (some ⟨p, 0, none⟩), .pointer (some ⟨q, 0, none⟩)], .bool lost] h (.tuple #[]) [(p, (rnd A B lost).1.obj), (q, (rnd A B lost).2.obj)] := by
  refine FN.enter mixed (fn := Try.f9) (by kernel_rfl) rfl (by kernel_rfl) fun e hn hg hd => ?_
  simp [Try.f9] at hn
  have a0 : e.get 0 = .agg #[.pointer (some ⟨p, 0, none⟩), .pointer (some ⟨q, 0, none⟩)] := hg 0 (by omega)
  have a1 : e.get 1 = .bool lost := hg 1 (by omega)
  clear hg
  have hpz := IHeap.get_lt hp
  have hqz := IHeap.get_lt hq
  simp (maxSteps := 1000000) (disch := first | (simp; done) | (simp only [IHeap.size_push', IHeap.size_set']; omega) | omega) [a0, a1, hn, hd]
  refine WPL.by_inv mixed (by kernel_rfl) (fun n e h' => n ≤ 2 ∧ e.n = 29 ∧ e.dfr = [] ∧ e.get 1 = .bool lost ∧ e.get 2 = .pointer (some ⟨h.size, 0, none⟩) ∧ e.get 7 = .int .i64 (2 - n) ∧ h'.get h.size = some (.row false 0 [.pointer (some ⟨p, 0, none⟩), .pointer (some ⟨q, 0, none⟩)]) ∧ Fr h h' [(p, (st A B lost n).1.obj), (q, (st A B lost n).2.obj)]) 2 ?_ ?_
  · refine ⟨by omega, ?_⟩
    simp (maxSteps := 1000000) (disch := first | (simp; done) | (simp only [IHeap.size_push', IHeap.size_set']; omega) | omega) [a0, a1, hn, hd, st]
    exact ⟨by simp <;> omega, fun i hi => by simp only [IHeap.get_set_if, IHeap.get_push, IHeap.size_set', IHeap.size_push', getU, hp, hq]; grind⟩
  clear hn hd a0 a1 e
  rintro n e h0 ⟨hn2, hn, hd, e1, e2, e7, gb, fr⟩
  have z0 := fr.size
  have gp := fr.get p hpz
  have gq := fr.get q hqz
  simp [getU, hpq, Ne.symm hpq] at gp gq
  have hzb := IHeap.get_lt gb
  obtain rfl | rfl | rfl : n = 0 ∨ n = 1 ∨ n = 2 := by omega
  · simp (maxSteps := 1000000) (disch := first | (simp; done) | (simp only [IHeap.size_push', IHeap.size_set']; omega) | omega) [hn, hd, e1, e2, e7]
    exact fr
  · simp only [st] at gp gq fr
    have okH1 : (half A B lost).1.ok (K + 1) := okA.next
    have okH2 : (half A B lost).2.ok (K + 1) := by
      unfold half
      dsimp only
      split
      · exact PN.ok.hear (okB.mono (by omega)) okA.next.term.2
      · exact okB.mono (by omega)
    have nH2 : (half A B lost).2.num = 1 := by
      unfold half
      dsimp only
      split
      · rw [PN.hear_num, nB]
      · exact nB
    have nH1 : (half A B lost).1.num = 0 := by
      show A.next.num = 0
      rw [A.next_num, nA]
    have hst : st A B lost 0 = ((half (half A B lost).2 (half A B lost).1 lost).2, (half (half A B lost).2 (half A B lost).1 lost).1) := rfl
    generalize half A B lost = H at okH1 okH2 nH1 nH2 hst gp gq fr
    obtain ⟨Y, X⟩ := H
    simp only at okH1 okH2 nH1 nH2 hst gp gq fr
    simp (maxSteps := 1000000) (disch := first | (simp; done) | (simp only [IHeap.size_push', IHeap.size_set']; omega) | omega) [hn, hd, e1, e2, e7, gb]
    refine FN.ct (tick_c (n := X) (K := K + 1) (by omega) okH2 gq) fun h1 fr1 => ?_
    have z1 := fr1.size
    have g1x : h1.get q = some X.next.obj := by
      rw [fr1.get _ (by (try simp only [IHeap.size_push', IHeap.size_set']); omega)]
      simp (maxSteps := 1000000) (disch := first | (simp; done) | (simp only [IHeap.size_push', IHeap.size_set']; omega) | omega) []
    have g1y : h1.get p = some Y.obj := by
      rw [fr1.get _ (by (try simp only [IHeap.size_push', IHeap.size_set']); omega)]
      simp (maxSteps := 1000000) (disch := first | (simp; done) | (simp only [IHeap.size_push', IHeap.size_set']; omega) | omega) [gp]
    have g1b : h1.get h.size = some (.row false 0 [.pointer (some ⟨p, 0, none⟩), .pointer (some ⟨q, 0, none⟩)]) := by
      rw [fr1.get _ (by (try simp only [IHeap.size_push', IHeap.size_set']); omega)]
      simp (maxSteps := 1000000) (disch := first | (simp; done) | (simp only [IHeap.size_push', IHeap.size_set']; omega) | omega) [gb]
    have okn := okH2.next
    cases hs : X.says with
    | false =>
      simp (maxSteps := 1000000) (disch := first | (simp; done) | (simp only [IHeap.size_push', IHeap.size_set']; omega) | omega) [hn, hd, e1, e2, e7, g1b, noAdv, hs]
      exact ⟨by have sz0 := (fr).size; have sz1 := (fr1).size; (try simp only [IHeap.size_push', IHeap.size_set'] at sz0 sz1); (try simp only [IHeap.size_push', IHeap.size_set']); omega, fun i hi => by have sz0 := (fr).size; have sz1 := (fr1).size; (try simp only [IHeap.size_push', IHeap.size_set'] at sz0 sz1); have ge0 := (fr).get i (by (try simp only [IHeap.size_push', IHeap.size_set']); omega); have ge1 := (fr1).get i (by (try simp only [IHeap.size_push', IHeap.size_set']); omega); (try simp only [IHeap.get_set_if, IHeap.get_push, IHeap.size_set', IHeap.size_push', getU,  hst, half, hs] at ge0 ge1 ⊢); grind⟩
    | true =>
      cases hl : lost with
      | true =>
        simp (maxSteps := 1000000) (disch := first | (simp; done) | (simp only [IHeap.size_push', IHeap.size_set']; omega) | omega) [hn, hd, e1, e2, e7, g1b, PN.adv, hs, hl]
        rw [hl] at hst
        exact ⟨by have sz0 := (fr).size; have sz1 := (fr1).size; (try simp only [IHeap.size_push', IHeap.size_set'] at sz0 sz1); (try simp only [IHeap.size_push', IHeap.size_set']); omega, fun i hi => by have sz0 := (fr).size; have sz1 := (fr1).size; (try simp only [IHeap.size_push', IHeap.size_set'] at sz0 sz1); have ge0 := (fr).get i (by (try simp only [IHeap.size_push', IHeap.size_set']); omega); have ge1 := (fr1).get i (by (try simp only [IHeap.size_push', IHeap.size_set']); omega); (try simp only [IHeap.get_set_if, IHeap.get_push, IHeap.size_set', IHeap.size_push', getU,  hst, half, hs] at ge0 ge1 ⊢); grind⟩
      | false =>
        have en : X.next.num = 1 - Y.num := by rw [X.next_num]; omega
        simp (maxSteps := 1000000) (disch := first | (simp; done) | (simp only [IHeap.size_push', IHeap.size_set']; omega) | omega) [hn, hd, e1, e2, e7, g1b, PN.adv, hs, hl, en]
        refine FN.ct (hear_c (n := Y) X.next.pri X.next.term okH1.tost (by rw [X.next_pri]; have := okH2.pri; omega) (by simp (maxSteps := 1000000) (disch := first | (simp; done) | (simp only [IHeap.size_push', IHeap.size_set']; omega) | omega) [g1y])) fun h2 fr2 => ?_
        have e9 : (⟨1 - Y.num, X.next.pri, X.next.term⟩ : Ad) = X.next.ad := by rw [← en]; rfl
        rw [e9] at fr2
        have z2 := fr2.size
        simp only [IHeap.size_push'] at z2
        have g2b : h2.get h.size = some (.row false 0 [.pointer (some ⟨p, 0, none⟩), .pointer (some ⟨q, 0, none⟩)]) := by
          rw [fr2.get _ (by (try simp only [IHeap.size_push', IHeap.size_set']); omega)]
          simp (maxSteps := 1000000) (disch := first | (simp; done) | (simp only [IHeap.size_push', IHeap.size_set']; omega) | omega) [g1b]
        simp (maxSteps := 1000000) (disch := first | (simp; done) | (simp only [IHeap.size_push', IHeap.size_set']; omega) | omega) [hn, hd, e1, e2, e7, g2b]
        refine ⟨niC_of (by kernel_rfl), hl, ?_⟩
        rw [hl] at hst
        exact ⟨by have sz0 := (fr).size; have sz1 := (fr1).size; have sz2 := (fr2).size; (try simp only [IHeap.size_push', IHeap.size_set'] at sz0 sz1 sz2); (try simp only [IHeap.size_push', IHeap.size_set']); omega, fun i hi => by have sz0 := (fr).size; have sz1 := (fr1).size; have sz2 := (fr2).size; (try simp only [IHeap.size_push', IHeap.size_set'] at sz0 sz1 sz2); have ge0 := (fr).get i (by (try simp only [IHeap.size_push', IHeap.size_set']); omega); have ge1 := (fr1).get i (by (try simp only [IHeap.size_push', IHeap.size_set']); omega); have ge2 := (fr2).get i (by (try simp only [IHeap.size_push', IHeap.size_set']); omega); (try simp only [IHeap.get_set_if, IHeap.get_push, IHeap.size_set', IHeap.size_push', getU,  hst, half, hs] at ge0 ge1 ge2 ⊢); grind⟩
  · simp only [st] at gp gq fr
    simp (maxSteps := 1000000) (disch := first | (simp; done) | (simp only [IHeap.size_push', IHeap.size_set']; omega) | omega) [hn, hd, e1, e2, e7, gb]
    refine FN.ct (tick_c (n := A) (K := K) (by omega) okA gp) fun h1 fr1 => ?_
    have z1 := fr1.size
    have g1x : h1.get p = some A.next.obj := by
      rw [fr1.get _ (by (try simp only [IHeap.size_push', IHeap.size_set']); omega)]
      simp (maxSteps := 1000000) (disch := first | (simp; done) | (simp only [IHeap.size_push', IHeap.size_set']; omega) | omega) []
    have g1y : h1.get q = some B.obj := by
      rw [fr1.get _ (by (try simp only [IHeap.size_push', IHeap.size_set']); omega)]
      simp (maxSteps := 1000000) (disch := first | (simp; done) | (simp only [IHeap.size_push', IHeap.size_set']; omega) | omega) [gq]
    have g1b : h1.get h.size = some (.row false 0 [.pointer (some ⟨p, 0, none⟩), .pointer (some ⟨q, 0, none⟩)]) := by
      rw [fr1.get _ (by (try simp only [IHeap.size_push', IHeap.size_set']); omega)]
      simp (maxSteps := 1000000) (disch := first | (simp; done) | (simp only [IHeap.size_push', IHeap.size_set']; omega) | omega) [gb]
    have okn := okA.next
    cases hs : A.says with
    | false =>
      simp (maxSteps := 1000000) (disch := first | (simp; done) | (simp only [IHeap.size_push', IHeap.size_set']; omega) | omega) [hn, hd, e1, e2, e7, g1b, noAdv, hs]
      refine ⟨1, by omega, by omega, by omega, ?_⟩
      exact ⟨by have sz0 := (fr).size; have sz1 := (fr1).size; (try simp only [IHeap.size_push', IHeap.size_set'] at sz0 sz1); (try simp only [IHeap.size_push', IHeap.size_set']); omega, fun i hi => by have sz0 := (fr).size; have sz1 := (fr1).size; (try simp only [IHeap.size_push', IHeap.size_set'] at sz0 sz1); have ge0 := (fr).get i (by (try simp only [IHeap.size_push', IHeap.size_set']); omega); have ge1 := (fr1).get i (by (try simp only [IHeap.size_push', IHeap.size_set']); omega); (try simp only [IHeap.get_set_if, IHeap.get_push, IHeap.size_set', IHeap.size_push', getU,  st, half, hs] at ge0 ge1 ⊢); grind⟩
    | true =>
      cases hl : lost with
      | true =>
        simp (maxSteps := 1000000) (disch := first | (simp; done) | (simp only [IHeap.size_push', IHeap.size_set']; omega) | omega) [hn, hd, e1, e2, e7, g1b, PN.adv, hs, hl]
        refine ⟨1, by omega, by omega, by omega, ?_⟩
        exact ⟨by have sz0 := (fr).size; have sz1 := (fr1).size; (try simp only [IHeap.size_push', IHeap.size_set'] at sz0 sz1); (try simp only [IHeap.size_push', IHeap.size_set']); omega, fun i hi => by have sz0 := (fr).size; have sz1 := (fr1).size; (try simp only [IHeap.size_push', IHeap.size_set'] at sz0 sz1); have ge0 := (fr).get i (by (try simp only [IHeap.size_push', IHeap.size_set']); omega); have ge1 := (fr1).get i (by (try simp only [IHeap.size_push', IHeap.size_set']); omega); (try simp only [IHeap.get_set_if, IHeap.get_push, IHeap.size_set', IHeap.size_push', getU,  st, half, hs] at ge0 ge1 ⊢); grind⟩
      | false =>
        have en : A.next.num = 1 - B.num := by rw [A.next_num]; omega
        simp (maxSteps := 1000000) (disch := first | (simp; done) | (simp only [IHeap.size_push', IHeap.size_set']; omega) | omega) [hn, hd, e1, e2, e7, g1b, PN.adv, hs, hl, en]
        refine FN.ct (hear_c (n := B) A.next.pri A.next.term okB.tost (by rw [A.next_pri]; have := okA.pri; omega) (by simp (maxSteps := 1000000) (disch := first | (simp; done) | (simp only [IHeap.size_push', IHeap.size_set']; omega) | omega) [g1y])) fun h2 fr2 => ?_
        have e9 : (⟨1 - B.num, A.next.pri, A.next.term⟩ : Ad) = A.next.ad := by rw [← en]; rfl
        rw [e9] at fr2
        have z2 := fr2.size
        simp only [IHeap.size_push'] at z2
        have g2b : h2.get h.size = some (.row false 0 [.pointer (some ⟨p, 0, none⟩), .pointer (some ⟨q, 0, none⟩)]) := by
          rw [fr2.get _ (by (try simp only [IHeap.size_push', IHeap.size_set']); omega)]
          simp (maxSteps := 1000000) (disch := first | (simp; done) | (simp only [IHeap.size_push', IHeap.size_set']; omega) | omega) [g1b]
        simp (maxSteps := 1000000) (disch := first | (simp; done) | (simp only [IHeap.size_push', IHeap.size_set']; omega) | omega) [hn, hd, e1, e2, e7, g2b]
        refine ⟨niC_of (by kernel_rfl), 1, by omega, by omega, by omega, by omega, ?_⟩
        exact ⟨by have sz0 := (fr).size; have sz1 := (fr1).size; have sz2 := (fr2).size; (try simp only [IHeap.size_push', IHeap.size_set'] at sz0 sz1 sz2); (try simp only [IHeap.size_push', IHeap.size_set']); omega, fun i hi => by have sz0 := (fr).size; have sz1 := (fr1).size; have sz2 := (fr2).size; (try simp only [IHeap.size_push', IHeap.size_set'] at sz0 sz1 sz2); have ge0 := (fr).get i (by (try simp only [IHeap.size_push', IHeap.size_set']); omega); have ge1 := (fr1).get i (by (try simp only [IHeap.size_push', IHeap.size_set']); omega); have ge2 := (fr2).get i (by (try simp only [IHeap.size_push', IHeap.size_set']); omega); (try simp only [IHeap.get_set_if, IHeap.get_push, IHeap.size_set', IHeap.size_push', getU,  st, half, hs] at ge0 ge1 ge2 ⊢); grind⟩
end Go.Proofs.Ythaegngkkannjaa.Ideal
