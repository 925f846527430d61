import Derived.Test.YtmobpbhbllhdcaaP14r
noncomputable section
open Go.Proofs
namespace Go.Proofs.Ytmobpbhbllhdcaa.Ideal
open Go.RowKit
set_option linter.unusedSimpArgs false
set_option linter.unusedVariables false
set_option linter.unusedSectionVars false
set_option maxRecDepth 100000
set_option maxHeartbeats 4000000
attribute [-simp] IHeap.size_set IHeap.size_push
attribute [local simp ↓] Hid.ap_mk
attribute [local simp] scopeQ_normal scopeQ_ret scopeQ_exit WP_skip WP_label WP_exit WP_goto WP_ret WP_region WP_seq WP_cond WP_block WP_scope WP_loop WP_range thenQ_normal thenQ_ret thenQ_exit thenQ_goto loopQ_normal loopQ_ret loopQ_exit invQ_normal invQ_ret invQ_exit outOf_normal outOf_ret outOf_goto outOf_exit ev_tmp ev_const ev_func
  wops_nil wops_cons wantedE_none wantedE_some jgd_some wnx_eq niC_false wdo_move wdo_assign wdo_pick wdo_load wdo_store wdo_alloc wdo_box wdo_fieldAddr wdo_indexAddr wdo_field wdo_extract wdo_build wdo_buildSlice wdo_makeSlice wdo_binOp wdo_unOp wdo_makeFunc wdo_nilCheck wdo_callV wdo_len wdo_append wdo_copy wdo_delete wdo_max wdo_min wdo_convert jcvt_int
  xput_get put_n put_none put_dfr ibin finQ_n finQ_r finD_nil splice_one ires_nil ires_one ires_two ires_three ires1_tmp ires1_cell jcell_ptr rowLoad_row wrap64 wrapU64 wrapU8 wrapU16 wrapU32 callV_fn buildOf Instr.fill Value.cells Value.oneCell' kindOf slots_all splice_all IHeap.size_set' IHeap.size_push' IHeap.get_set_same IHeap.get_set_ne IHeap.get_pushed IHeap.get_push_ne IHeap.set_set IHeap.set_push IHeap.set_pushed IHeap.set_set3 getU_nil getU_same getU_ne jif_true jif_false pushH_eq setH_eq forceL_eq forceV_eq ibuildSlice
attribute [local simp] wdo_index jopt_some
attribute [-simp] Value.oneCell'
attribute [local simp] one_int' one_ptr'
def GT.wown (g : GT) (W pw pw' i : Nat) : Prop := i = W ∨ i = pw ∨ (g.nx ≠ none ∧ i = pw')
theorem Keep1.ks {h h' : IHeap} {p : Nat} (k : Keep1 h h' p) : KS (fun i => i = p) h h' := ⟨k.size, fun i hi hn => k.get i hi hn⟩
/-- The table of now is another one. -/
theorem WAt.stepN {g : GT} {h h' : IHeap} {W pw pw' : Nat} {t' : TB} (x : WAt g h W pw pw') (kp : Keep1 h h' pw) (at' : ∃ rf rm re, RAt t'.ps h' pw rf rm re) : WAt { g with now := t' } h' W pw pw' := by
  obtain ⟨rf, rm, re, xn⟩ := x.now
  obtain ⟨n1, _⟩ := rat_ne xn x.gW
  refine ⟨(kp.get W (IHeap.get_lt x.gW) n1).trans x.gW, at', fun t ht => ?_⟩
  obtain ⟨⟨a, b, c, xx⟩, ne⟩ := x.nx t ht
  exact ⟨⟨a, b, c, rat_keep xx xn.gp ne.symm kp.get⟩, ne⟩
/-- The next one is another one. -/
theorem WAt.stepX {g : GT} {h h' : IHeap} {W pw pw' : Nat} {t t' : TB} (x : WAt g h W pw pw') (hx : g.nx = some t) (kp : Keep1 h h' pw') (at' : ∃ rf rm re, RAt t'.ps h' pw' rf rm re) : WAt { g with nx := some t' } h' W pw pw' := by
  obtain ⟨rf, rm, re, xn⟩ := x.now
  obtain ⟨⟨a, b, c, xx⟩, ne⟩ := x.nx t hx
  obtain ⟨n1, _⟩ := rat_ne xx x.gW
  refine ⟨?_, ⟨rf, rm, re, rat_keep xn xx.gp ne kp.get⟩, fun s hs => ?_⟩
  · rw [kp.get W (IHeap.get_lt x.gW) n1, x.gW, nxA_some hx, hx]
    rfl
  · simp only [Option.some.injEq] at hs
    subst hs
    exact ⟨at', ne⟩
def WPutQ (g : GT) (h : IHeap) (W pw pw' : Nat) (hash what : Int) (v : Value) (h' : IHeap) : Prop := v = .int .i64 (g.putE hash) ∧ (∃ pw2, WAt (g.put hash what) h' W pw pw2 ∧ (pw2 = pw' ∨ h.size ≤ pw2)) ∧ KS (g.wown W pw pw') h h'
theorem wput_c {g : GT} {h : IHeap} {W pw pw' : Nat} {hash what : Int} (x : WAt g h W pw pw') (ok : GOK g) (hh : 0 ≤ hash ∧ hash < 18446744073709551616) :
    FN Try.prog 16 #[.pointer (some ⟨W, 0, none⟩), .agg #[.int .u64 hash, .int .u32 what]] h (Q := ⟨fun v h' => WPutQ g h W pw pw' hash what v h'⟩) := by
  obtain ⟨H, hH⟩ : ∃ H, H = h.push (.row false 0 [.int .u64 hash, .int .u32 what]) := ⟨_, rfl⟩
  have Hz : H.size = h.size + 1 := by rw [hH, IHeap.size_push']
  have Ho : ∀ i, i < h.size → H.get i = h.get i := fun i hi => by rw [hH]; exact IHeap.get_push_ne _ (by omega)
  have Hb : H.get h.size = some (.row false 0 [.int .u64 hash, .int .u32 what]) := by rw [hH]; exact IHeap.get_pushed _ rfl
  have xH := x.inv Ho
  have gH := xH.gW
  have wl := IHeap.get_lt x.gW
  have bc := wbegins_c xH ok
  have ob := ok.begin
  refine FN.enter mixed (fn := Try.f16) (by kernel_rfl) rfl (by kernel_rfl) fun e hn hg hd => ?_
  simp [Try.f16] at hn
  have a0 : e.get 0 = .pointer (some ⟨W, 0, none⟩) := hg 0 (by omega)
  have a1 : e.get 1 = .agg #[.int .u64 hash, .int .u32 what] := hg 1 (by omega)
  clear hg
  refine WP.cut2 (fun e' h1 => ∃ pw2, e'.n = 65 ∧ e'.dfr = [] ∧ e'.get 0 = .pointer (some ⟨W, 0, none⟩) ∧ e'.get 3 = .pointer (some ⟨h.size, 0, none⟩) ∧ WAt g.begin h1 W pw pw2 ∧ ((pw2 = pw' ∧ g.begin = g) ∨ h.size < pw2) ∧ KS (fun i => i = W) H h1) ?_ ?_
  · simp (maxSteps := 1000000) (disch := first | (simp; done) | (simp only [IHeap.size_push', IHeap.size_set']; omega) | omega) [a0, a1, hn, hd, ← hH]
    refine FN.of bc ?_
    cases hb : g.begins with
    | false =>
      have bg : g.begin = g := by unfold GT.begin; rw [hb]; rfl
      simp (maxSteps := 1000000) (disch := first | (simp; done) | (simp only [IHeap.size_push', IHeap.size_set']; omega) | omega) [a0, a1, hn, hd, hb, bg]
      exact ⟨pw', xH, .inl rfl, KS.refl _ _⟩
    | true =>
      have bg : g.begin = { g with nx := some (newTB (gsize g.now.en.toNat g.most 5 16)), cur := 0 } := by unfold GT.begin; rw [hb]; rfl
      have gp := gsize_P2 (e := g.now.en.toNat) ok.m 5 16 (.inl rfl) ok.m.le.1
      have gle := gp.1.le
      simp (maxSteps := 1000000) (disch := first | (simp; done) | (simp only [IHeap.size_push', IHeap.size_set']; omega) | omega) [a0, a1, hn, hd, hb]
      refine FN.of (wsize_c xH ok) ?_
      simp (maxSteps := 1000000) (disch := first | (simp; done) | (simp only [IHeap.size_push', IHeap.size_set']; omega) | omega) [a0, a1, hn, hd]
      refine FN.mono (rnew_c _ (by omega)) ?_
      rintro v h1 ⟨pw2, rf, rm, re, rfl, hpw, x2, fr⟩
      have k2 : ∀ i, i < H.size → h1.get i = H.get i := fun i hi => by rw [fr.get i hi, getU_nil]
      have g1 := (k2 W (by omega)).trans gH
      have xh1 := xH.inv k2
      have z1 := fr.size
      obtain ⟨rf', rm', re', xn⟩ := xh1.now
      obtain ⟨n1, n2, n3, n4⟩ := rat_ne xn g1
      obtain ⟨m1, m2, m3, m4⟩ := rat_ne x2 g1
      have pl := IHeap.get_lt (xH.now.choose_spec.choose_spec.choose_spec).gp
      simp (maxSteps := 1000000) (disch := first | (simp; done) | (simp only [IHeap.size_push', IHeap.size_set']; omega) | omega) [a0, a1, hn, hd, g1, one_bool]
      rw [bg]
      refine ⟨pw2, ⟨?_, ⟨rf', rm', re', ?_⟩, fun t ht => ?_⟩, .inr (by omega), ⟨by simp only [IHeap.size_set']; omega, fun i hi hn => ?_⟩⟩
      · simp (maxSteps := 1000000) (disch := first | (simp; done) | (simp only [IHeap.size_push', IHeap.size_set']; omega) | omega) [GT.nxA]
      · exact ⟨by rw [IHeap.get_set_ne _ n1]; exact xn.gp, by rw [IHeap.get_set_ne _ n2]; exact xn.gf, by rw [IHeap.get_set_ne _ n3]; exact xn.gm, by rw [IHeap.get_set_ne _ n4]; exact xn.ge, xn.ne, xn.len⟩
      · simp only [Option.some.injEq] at ht
        subst ht
        exact ⟨⟨rf, rm, re, ⟨by rw [IHeap.get_set_ne _ m1]; exact x2.gp, by rw [IHeap.get_set_ne _ m2]; exact x2.gf, by rw [IHeap.get_set_ne _ m3]; exact x2.gm, by rw [IHeap.get_set_ne _ m4]; exact x2.ge, x2.ne, x2.len⟩⟩, by omega⟩
      · rw [IHeap.get_set_ne _ (fun e => hn e.symm)]; exact k2 i hi
  clear hn hd a0 a1 e
  rintro e h1 ⟨pw2, hn, hd, a0, a3, xb, pq, ks⟩
  have gW := xb.gW
  have z1 := ks.size
  have hb1 : h1.get h.size = some (.row false 0 [.int .u64 hash, .int .u32 what]) := by rw [ks.get _ (by omega) (by omega)]; exact Hb
  have hS : ∀ i, i < h.size → ¬ g.wown W pw pw' i → h1.get i = h.get i := fun i hi hn => by
    rw [ks.get i (by omega) (fun e => hn (.inl e)), Ho i hi]
  obtain ⟨rf, rm, re, xn⟩ := xb.now
  have gp := xn.gp
  have ec := rentries_c xn
  have mc := rmarks_c xn
  rw [← ob.t.en] at ec
  rw [← ob.t.ma] at mc
  have eb := ob.t.enB
  have mb := ob.t.maB
  have pq2 : pw2 = pw' ∨ h.size ≤ pw2 := by omega
  cases hx : g.begin.nx with
  | some t =>
    obtain ⟨⟨rf2, rm2, re2, xx⟩, ne⟩ := xb.nx t hx
    obtain ⟨t1, t2, t3⟩ := ob.x t hx
    have gp2 := xx.gp
    have ec2 := rentries_c xx
    have mc2 := rmarks_c xx
    rw [← t1.en] at ec2
    rw [← t1.ma] at mc2
    have eb2 := t1.enB
    have mb2 := t1.maB
    have tl := t2.le
    have q4 : (t.ps.length : Int).tdiv 4 = (t.ps.length : Int) / 4 := Int.tdiv_eq_ediv_of_nonneg (by omega)
    rw [hx, nxA_some hx] at gW
    have own2 : ∀ i, i < h.size → i = pw2 → g.wown W pw pw' i := fun i hi he => by
      rcases pq with ⟨rfl, hb⟩ | h2
      · rw [hb] at hx
        exact .inr (.inr ⟨by rw [hx]; simp, he⟩)
      · omega
    simp (maxSteps := 1000000) (disch := first | (simp; done) | (simp only [IHeap.size_push', IHeap.size_set']; omega) | omega) [a0, a3, hn, hd, gW]
    refine FN.of ec ?_
    simp (maxSteps := 1000000) (disch := first | (simp; done) | (simp only [IHeap.size_push', IHeap.size_set']; omega) | omega) [a0, a3, hn, hd, gp2]
    refine FN.of ec2 ?_
    simp (maxSteps := 1000000) (disch := first | (simp; done) | (simp only [IHeap.size_push', IHeap.size_set']; omega) | omega) [a0, a3, hn, hd, gp2]
    refine FN.of mc2 ?_
    by_cases rm : (t.ps.length : Int) / 4 * 3 < t.en + t.ma + g.begin.now.en + 1
    · have rb : roomB t g.begin.now.en = false := by unfold roomB; exact decide_eq_false (by unfold P2 at t2; omega)
      have pe : g.putE hash = 9 := by unfold GT.putE; rw [hx]; simp only [rb]; rfl
      have pp : g.put hash what = g.begin := by unfold GT.put; rw [hx]; simp only [rb]; rfl
      simp (maxSteps := 1000000) (disch := first | (simp; done) | (simp only [IHeap.size_push', IHeap.size_set']; omega) | omega) [a0, a3, hn, hd, wrap64, q4, rm]
      exact ⟨by rw [pe], ⟨pw2, by rw [pp]; exact xb, pq2⟩, by omega, hS⟩
    · have rb : roomB t g.begin.now.en = true := by unfold roomB; exact decide_eq_true (by unfold P2 at t2; omega)
      have pe : g.putE hash = t.putE hash := by unfold GT.putE; rw [hx]; simp only [rb, if_true]
      have pp : g.put hash what = { g.begin with nx := some (t.put hash what) } := by unfold GT.put; rw [hx]; simp only [rb, if_true]
      obtain ⟨y, hv⟩ := putV_E t2.ne hash
      simp (maxSteps := 1000000) (disch := first | (simp; done) | (simp only [IHeap.size_push', IHeap.size_set']; omega) | omega) [a0, a3, hn, hd, wrap64, q4, rm, hb1]
      refine FN.mono (rput_c t1.dv xx hash what hh) ?_
      rintro v h2 ⟨rfl, at', kp⟩
      rw [hv]
      simp (maxSteps := 1000000) (disch := first | (simp; done) | (simp only [IHeap.size_push', IHeap.size_set']; omega) | omega) [a0, a3, hn, hd]
      have z2 := kp.size
      exact ⟨by rw [pe], ⟨pw2, by rw [pp]; exact xb.stepX hx kp at', pq2⟩, by omega, fun i hi hn => by rw [kp.get i (by omega) (fun e => hn (own2 i hi e))]; exact hS i hi hn⟩
  | none =>
    have t2 := ob.l
    have tl := t2.le
    have q4 : (g.begin.now.ps.length : Int).tdiv 4 = (g.begin.now.ps.length : Int) / 4 := Int.tdiv_eq_ediv_of_nonneg (by omega)
    rw [hx, nxA_none hx] at gW
    simp (maxSteps := 1000000) (disch := first | (simp; done) | (simp only [IHeap.size_push', IHeap.size_set']; omega) | omega) [a0, a3, hn, hd, gW, gp]
    refine FN.of ec ?_
    simp (maxSteps := 1000000) (disch := first | (simp; done) | (simp only [IHeap.size_push', IHeap.size_set']; omega) | omega) [a0, a3, hn, hd, gp]
    refine FN.of mc ?_
    by_cases rm : (g.begin.now.ps.length : Int) / 4 * 3 < g.begin.now.en + g.begin.now.ma + 1
    · have rb : roomB g.begin.now 0 = false := by unfold roomB; exact decide_eq_false (by unfold P2 at t2; omega)
      have pe : g.putE hash = 9 := by unfold GT.putE; rw [hx]; simp only [rb]; rfl
      have pp : g.put hash what = g.begin := by unfold GT.put; rw [hx]; simp only [rb]; rfl
      simp (maxSteps := 1000000) (disch := first | (simp; done) | (simp only [IHeap.size_push', IHeap.size_set']; omega) | omega) [a0, a3, hn, hd, wrap64, q4, rm]
      exact ⟨by rw [pe], ⟨pw2, by rw [pp]; exact xb, pq2⟩, by omega, hS⟩
    · have rb : roomB g.begin.now 0 = true := by unfold roomB; exact decide_eq_true (by unfold P2 at t2; omega)
      have pe : g.putE hash = g.begin.now.putE hash := by unfold GT.putE; rw [hx]; simp only [rb, if_true]
      have pp : g.put hash what = { g.begin with now := g.begin.now.put hash what } := by unfold GT.put; rw [hx]; simp only [rb, if_true]
      obtain ⟨y, hv⟩ := putV_E t2.ne hash
      simp (maxSteps := 1000000) (disch := first | (simp; done) | (simp only [IHeap.size_push', IHeap.size_set']; omega) | omega) [a0, a3, hn, hd, wrap64, q4, rm, hb1]
      refine FN.mono (rput_c ob.t.dv xn hash what hh) ?_
      rintro v h2 ⟨rfl, at', kp⟩
      rw [hv]
      simp (maxSteps := 1000000) (disch := first | (simp; done) | (simp only [IHeap.size_push', IHeap.size_set']; omega) | omega) [a0, a3, hn, hd]
      have z2 := kp.size
      exact ⟨by rw [pe], ⟨pw2, by rw [pp]; exact xb.stepN kp at', pq2⟩, by omega, fun i hi hn => by rw [kp.get i (by omega) (fun e => hn (.inr (.inl e)))]; exact hS i hi hn⟩
end Go.Proofs.Ytmobpbhbllhdcaa.Ideal
