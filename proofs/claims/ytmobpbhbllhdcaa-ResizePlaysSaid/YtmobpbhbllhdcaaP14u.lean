import Derived.Test.YtmobpbhbllhdcaaP14t
noncomputable section
open Go.Proofs
namespace Go.Proofs.Ytmobpbhbllhdcaa.Ideal
open Go.RowKit
set_option linter.unusedSimpArgs false
set_option linter.unusedVariables false
set_option linter.unusedSectionVars false
set_option maxRecDepth 100000
set_option maxHeartbeats 4000000
attribute [-simp] IHeap.size_set IHeap.size_push
attribute [local simp ↓] Hid.ap_mk
attribute [local simp] scopeQ_normal scopeQ_ret scopeQ_exit WP_skip WP_label WP_exit WP_goto WP_ret WP_region WP_seq WP_cond WP_block WP_scope WP_loop WP_range thenQ_normal thenQ_ret thenQ_exit thenQ_goto loopQ_normal loopQ_ret loopQ_exit invQ_normal invQ_ret invQ_exit outOf_normal outOf_ret outOf_goto outOf_exit ev_tmp ev_const ev_func
  wops_nil wops_cons wantedE_none wantedE_some jgd_some wnx_eq niC_false wdo_move wdo_assign wdo_pick wdo_load wdo_store wdo_alloc wdo_box wdo_fieldAddr wdo_indexAddr wdo_field wdo_extract wdo_build wdo_buildSlice wdo_makeSlice wdo_binOp wdo_unOp wdo_makeFunc wdo_nilCheck wdo_callV wdo_len wdo_append wdo_copy wdo_delete wdo_max wdo_min wdo_convert jcvt_int
  xput_get put_n put_none put_dfr ibin finQ_n finQ_r finD_nil splice_one ires_nil ires_one ires_two ires_three ires1_tmp ires1_cell jcell_ptr rowLoad_row wrap64 wrapU64 wrapU8 wrapU16 wrapU32 callV_fn buildOf Instr.fill Value.cells Value.oneCell' kindOf slots_all splice_all IHeap.size_set' IHeap.size_push' IHeap.get_set_same IHeap.get_set_ne IHeap.get_pushed IHeap.get_push_ne IHeap.set_set IHeap.set_push IHeap.set_pushed IHeap.set_set3 getU_nil getU_same getU_ne jif_true jif_false pushH_eq setH_eq forceL_eq forceV_eq ibuildSlice
attribute [local simp] wdo_index jopt_some
attribute [-simp] Value.oneCell'
attribute [local simp] one_int' one_ptr'
def WStepQ (g : GT) (h : IHeap) (W pw pw' : Nat) (v : Value) (h' : IHeap) : Prop := v = .bool g.step.nx.isSome ∧ (∃ p2 p3, WAt g.step h' W p2 p3 ∧ ∀ i, g.step.wown W p2 p3 i → g.wown W pw pw' i) ∧ KS (g.wown W pw pw') h h'
theorem wstep_c {g : GT} {h : IHeap} {W pw pw' : Nat} (x : WAt g h W pw pw') (ok : GOK g) (mv : g.mv) (hhs : ∀ c ∈ g.now.ps, 0 ≤ c.1 ∧ c.1 < 18446744073709551616) :
    FN Try.prog 18 #[.pointer (some ⟨W, 0, none⟩)] h (Q := ⟨fun v h' => WStepQ g h W pw pw' v h'⟩) := by
  have gW := x.gW
  have wl := IHeap.get_lt gW
  obtain ⟨rf, rm, re, xn⟩ := x.now
  have lb := ok.l.le
  refine FN.enter mixed (fn := Try.f18) (by kernel_rfl) rfl (by kernel_rfl) fun e hn hg hd => ?_
  simp [Try.f18] at hn
  have a0 : e.get 0 = .pointer (some ⟨W, 0, none⟩) := hg 0 (by omega)
  clear hg
  cases hx : g.nx with
  | none =>
    have st : g.step = g := by unfold GT.step; rw [hx]
    rw [hx] at gW
    simp (maxSteps := 1000000) (disch := first | (simp; done) | (simp only [IHeap.size_push', IHeap.size_set']; omega) | omega) [a0, hn, hd, gW]
    exact ⟨by rw [st, hx]; rfl, ⟨pw, pw', by rw [st]; exact x, fun i hi => by rw [st] at hi; exact hi⟩, KS.refl _ _⟩
  | some t =>
    obtain ⟨t1, t2, t3⟩ := ok.x t hx
    have hcl := mv (by rw [hx]; simp)
    have gc256 := ok.c
    rw [hx, nxA_some hx] at gW
    simp (maxSteps := 1000000) (disch := first | (simp; done) | (simp only [IHeap.size_push', IHeap.size_set']; omega) | omega) [a0, hn, hd, gW]
    obtain ⟨c, hc⟩ : ∃ c, g.now.ps[g.cur]? = some c := ⟨_, List.getElem?_eq_getElem hcl⟩
    obtain ⟨L1, L2⟩ := step1_len g t
    have own2 : ∀ i, ¬ g.wown W pw pw' i → i ≠ W ∧ i ≠ pw ∧ i ≠ pw' := fun i hn => ⟨fun e => hn (.inl e), fun e => hn (.inr (.inl e)), fun e => hn (.inr (.inr ⟨by rw [hx]; simp, e⟩))⟩
    have gc := rget_c xn (g.cur : Nat)
    by_cases c1 : c.2.2 = 1
    · rw [get_of hc c1] at gc
      refine FN.ct gc ?_
      intro h1 fr
      have z1 := fr.size
      obtain ⟨h2, hh2⟩ : ∃ h2, h2 = h1.push (.row false 0 [.int .u64 c.1, .int .u32 c.2.1]) := ⟨_, rfl⟩
      have z2 : h2.size = h1.size + 1 := by rw [hh2, IHeap.size_push']
      have k2 : ∀ i, i < h.size → h2.get i = h.get i := fun i hi => by rw [hh2, IHeap.get_push_ne _ (by omega), fr.get i hi, getU_nil]
      have bx : h2.get h1.size = some (.row false 0 [.int .u64 c.1, .int .u32 c.2.1]) := by rw [hh2]; exact IHeap.get_pushed _ rfl
      have x1 := x.inv k2
      have g1 := x1.gW
      rw [hx, nxA_some hx] at g1
      obtain ⟨⟨xa, xb, xc, xx⟩, ne⟩ := x1.nx t hx
      have hr := hhs c (List.mem_of_getElem? hc)
      simp (maxSteps := 1000000) (disch := first | (simp; done) | (simp only [IHeap.size_push', IHeap.size_set']; omega) | omega) [a0, hn, hd, ← hh2, g1, bx]
      refine ⟨niC_pend [] (by kernel_rfl) trivial, ?_⟩
      refine FN.mono (rput_c t1.dv xx c.1 c.2.1 hr) ?_
      rintro v h3 ⟨rfl, at3, kp3⟩
      have x3 := x1.stepX hx kp3 at3
      have z3 := kp3.size
      have g3 := x3.gW
      rw [nxA_some rfl] at g3
      obtain ⟨ya, yb, yc, yn⟩ := x3.now
      simp (maxSteps := 1000000) (disch := first | (simp; done) | (simp only [IHeap.size_push', IHeap.size_set']; omega) | omega) [a0, hn, hd, g3]
      refine ⟨niC_pend [] (by kernel_rfl) trivial, ?_⟩
      refine FN.mono (rdrop_c yn (g.cur : Nat)) ?_
      rintro v h4 ⟨rfl, at4, kp4⟩
      have x4' := x3.stepN kp4 at4
      have s1 : g.step1 t = (g.now.drop (g.cur : Nat), t.put c.1 c.2.1) := by unfold GT.step1; rw [hc]; simp only [c1, if_true]
      have x4 : WAt ⟨(g.step1 t).1, some (g.step1 t).2, g.most, g.cur⟩ h4 W pw pw' := by rw [s1]; exact x4'
      have z4 := kp4.size
      have ks3 : ∀ i, i < h.size → ¬ g.wown W pw pw' i → h4.get i = h.get i := fun i hi hn => by
        obtain ⟨o1, o2, o3⟩ := own2 i hn
        rw [kp4.get i (by omega) o2, kp3.get i (by omega) o3, k2 i hi]
      have zz := x4.gW
      rw [nxA_some rfl] at zz
      have gl4 := IHeap.get_lt zz
      obtain ⟨na, nb, nc, xn4⟩ := x4.now
      have gp4 := xn4.gp
      rw [L1] at gp4
      obtain ⟨⟨xa, xb, xc, xx4⟩, ne4⟩ := x4.nx _ rfl
      obtain ⟨r1, r2, r3, r4⟩ := rat_ne xn4 zz
      obtain ⟨s1', s2, s3, s4⟩ := rat_ne xx4 zz
      simp (maxSteps := 1000000) (disch := first | (simp; done) | (simp only [IHeap.size_push', IHeap.size_set']; omega) | omega) [a0, hn, hd, zz, wrap64, gp4, r1, Ne.symm r1]
      refine ⟨niC_pend [] (by kernel_rfl) trivial, ?_⟩
      by_cases fin : g.cur + 1 = g.now.ps.length
      · have st : g.step = ⟨(g.step1 t).2, none, g.most, g.cur + 1⟩ := by unfold GT.step; rw [hx]; simp only [fin, if_true]
        have fin' : (g.cur : Int) + 1 = g.now.ps.length := by omega
        simp (maxSteps := 1000000) (disch := first | (simp; done) | (simp only [IHeap.size_push', IHeap.size_set']; omega) | omega) [a0, hn, hd, zz, fin, fin', one_bool]
        refine ⟨niC_pend [] (by kernel_rfl) trivial, by rw [st]; rfl, ⟨pw', 0, ?_, fun i hi => ?_⟩, ⟨by simp only [IHeap.size_set']; omega, fun i hi hn => by rw [IHeap.get_set_ne _ (fun e => (own2 i hn).1 e.symm)]; exact ks3 i hi hn⟩⟩
        · rw [st]
          refine ⟨?_, ⟨xa, xb, xc, rat_set xx4 s1' s2 s3 s4⟩, fun s hs => by cases hs⟩
          simp (maxSteps := 1000000) (disch := first | (simp; done) | (simp only [IHeap.size_push', IHeap.size_set']; omega) | omega) [GT.nxA]
          omega
        · rw [st] at hi
          rcases hi with e | e | ⟨e, _⟩
          · exact .inl e
          · exact .inr (.inr ⟨by rw [hx]; simp, e⟩)
          · exact absurd rfl e
      · have st : g.step = g.mid t := by unfold GT.step; rw [hx]; simp only [fin, if_false]
        have fin' : ¬ (g.cur : Int) + 1 = g.now.ps.length := by omega
        simp (maxSteps := 1000000) (disch := first | (simp; done) | (simp only [IHeap.size_push', IHeap.size_set']; omega) | omega) [a0, hn, hd, zz, fin, fin']
        refine ⟨niC_pend [] (by kernel_rfl) trivial, by rw [st]; rfl, ⟨pw, pw', ?_, fun i hi => ?_⟩, ⟨by simp only [IHeap.size_set']; omega, fun i hi hn => by rw [IHeap.get_set_ne _ (fun e => (own2 i hn).1 e.symm)]; exact ks3 i hi hn⟩⟩
        · rw [st]
          refine ⟨?_, ⟨na, nb, nc, rat_set xn4 r1 r2 r3 r4⟩, fun s hs => ?_⟩
          · simp (maxSteps := 1000000) (disch := first | (simp; done) | (simp only [IHeap.size_push', IHeap.size_set']; omega) | omega) [GT.nxA, GT.mid]
          · cases hs
            exact ⟨⟨xa, xb, xc, rat_set xx4 s1' s2 s3 s4⟩, ne4⟩
        · rw [st] at hi
          exact hi.imp id (Or.imp id fun ⟨_, e⟩ => ⟨by rw [hx]; simp, e⟩)
    · rw [get_not (fun d hd => by rw [hc] at hd; cases hd; exact c1)] at gc
      refine FN.ct gc ?_
      intro h1 fr
      have z1 := fr.size
      obtain ⟨h4, hh4⟩ : ∃ h4, h4 = h1.push (.row false 0 [.int .u64 0, .int .u32 0]) := ⟨_, rfl⟩
      have z2 : h4.size = h1.size + 1 := by rw [hh4, IHeap.size_push']
      have k2 : ∀ i, i < h.size → h4.get i = h.get i := fun i hi => by rw [hh4, IHeap.get_push_ne _ (by omega), fr.get i hi, getU_nil]
      have bx : h4.get h1.size = some (.row false 0 [.int .u64 0, .int .u32 0]) := by rw [hh4]; exact IHeap.get_pushed _ rfl
      have s1 : g.step1 t = (g.now, t) := by unfold GT.step1; rw [hc]; simp only [c1, if_false]
      have x4 : WAt ⟨(g.step1 t).1, some (g.step1 t).2, g.most, g.cur⟩ h4 W pw pw' := by rw [s1, ← hx]; exact x.inv k2
      have ks3 : ∀ i, i < h.size → ¬ g.wown W pw pw' i → h4.get i = h.get i := fun i hi _ => k2 i hi
      subst hh4
      have x1 := x.keep fr
      have zz1 := x1.gW
      rw [hx, nxA_some hx, Option.isSome_some] at zz1
      obtain ⟨ma, mb, mc, xm⟩ := x1.now
      have gp1 := xm.gp
      have pl1 := IHeap.get_lt gp1
      have zz := x4.gW
      rw [nxA_some rfl] at zz
      have gl4 := IHeap.get_lt zz
      obtain ⟨na, nb, nc, xn4⟩ := x4.now
      have gp4 := xn4.gp
      rw [L1] at gp4
      obtain ⟨⟨xa, xb, xc, xx4⟩, ne4⟩ := x4.nx _ rfl
      obtain ⟨r1, r2, r3, r4⟩ := rat_ne xn4 zz
      obtain ⟨s1', s2, s3, s4⟩ := rat_ne xx4 zz
      simp (maxSteps := 1000000) (disch := first | (simp; done) | (simp only [IHeap.size_push', IHeap.size_set']; omega) | omega) [a0, hn, hd, zz1, gp1, zz, wrap64, gp4, r1, Ne.symm r1]
      refine ⟨niC_pend [] (by kernel_rfl) trivial, ?_⟩
      by_cases fin : g.cur + 1 = g.now.ps.length
      · have st : g.step = ⟨(g.step1 t).2, none, g.most, g.cur + 1⟩ := by unfold GT.step; rw [hx]; simp only [fin, if_true]
        have fin' : (g.cur : Int) + 1 = g.now.ps.length := by omega
        simp (maxSteps := 1000000) (disch := first | (simp; done) | (simp only [IHeap.size_push', IHeap.size_set']; omega) | omega) [a0, hn, hd, zz1, zz, fin, fin', one_bool]
        refine ⟨niC_pend [] (by kernel_rfl) trivial, ?_⟩
        rw [← IHeap.set_push (i := W) _ _ (by omega)]
        refine ⟨by rw [st]; rfl, ⟨pw', 0, ?_, fun i hi => ?_⟩, ⟨by simp only [IHeap.size_set', IHeap.size_push']; omega, fun i hi hn => by rw [IHeap.get_set_ne _ (fun e => (own2 i hn).1 e.symm)]; exact ks3 i hi hn⟩⟩
        · rw [st]
          refine ⟨?_, ⟨xa, xb, xc, rat_set xx4 s1' s2 s3 s4⟩, fun s hs => by cases hs⟩
          simp (maxSteps := 1000000) (disch := first | (simp; done) | (simp only [IHeap.size_push', IHeap.size_set']; omega) | omega) [GT.nxA]
          omega
        · rw [st] at hi
          rcases hi with e | e | ⟨e, _⟩
          · exact .inl e
          · exact .inr (.inr ⟨by rw [hx]; simp, e⟩)
          · exact absurd rfl e
      · have st : g.step = g.mid t := by unfold GT.step; rw [hx]; simp only [fin, if_false]
        have fin' : ¬ (g.cur : Int) + 1 = g.now.ps.length := by omega
        simp (maxSteps := 1000000) (disch := first | (simp; done) | (simp only [IHeap.size_push', IHeap.size_set']; omega) | omega) [a0, hn, hd, zz1, zz, fin, fin']
        refine ⟨niC_pend [] (by kernel_rfl) trivial, ?_⟩
        rw [← IHeap.set_push (i := W) _ _ (by omega)]
        refine ⟨by rw [st]; rfl, ⟨pw, pw', ?_, fun i hi => ?_⟩, ⟨by simp only [IHeap.size_set', IHeap.size_push']; omega, fun i hi hn => by rw [IHeap.get_set_ne _ (fun e => (own2 i hn).1 e.symm)]; exact ks3 i hi hn⟩⟩
        · rw [st]
          refine ⟨?_, ⟨na, nb, nc, rat_set xn4 r1 r2 r3 r4⟩, fun s hs => ?_⟩
          · simp (maxSteps := 1000000) (disch := first | (simp; done) | (simp only [IHeap.size_push', IHeap.size_set']; omega) | omega) [GT.nxA, GT.mid]
          · cases hs
            exact ⟨⟨xa, xb, xc, rat_set xx4 s1' s2 s3 s4⟩, ne4⟩
        · rw [st] at hi
          exact hi.imp id (Or.imp id fun ⟨_, e⟩ => ⟨by rw [hx]; simp, e⟩)
end Go.Proofs.Ytmobpbhbllhdcaa.Ideal
