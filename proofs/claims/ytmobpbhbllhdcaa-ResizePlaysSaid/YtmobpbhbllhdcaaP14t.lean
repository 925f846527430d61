import Derived.Test.YtmobpbhbllhdcaaP14s
noncomputable section
open Go.Proofs
namespace Go.Proofs.Ytmobpbhbllhdcaa.Ideal
open Go.RowKit
set_option linter.unusedSimpArgs false
set_option linter.unusedVariables false
set_option linter.unusedSectionVars false
set_option maxRecDepth 100000
set_option maxHeartbeats 4000000
attribute [-simp] IHeap.size_set IHeap.size_push
attribute [local simp ↓] Hid.ap_mk
attribute [local simp] scopeQ_normal scopeQ_ret scopeQ_exit WP_skip WP_label WP_exit WP_goto WP_ret WP_region WP_seq WP_cond WP_block WP_scope WP_loop WP_range thenQ_normal thenQ_ret thenQ_exit thenQ_goto loopQ_normal loopQ_ret loopQ_exit invQ_normal invQ_ret invQ_exit outOf_normal outOf_ret outOf_goto outOf_exit ev_tmp ev_const ev_func
  wops_nil wops_cons wantedE_none wantedE_some jgd_some wnx_eq niC_false wdo_move wdo_assign wdo_pick wdo_load wdo_store wdo_alloc wdo_box wdo_fieldAddr wdo_indexAddr wdo_field wdo_extract wdo_build wdo_buildSlice wdo_makeSlice wdo_binOp wdo_unOp wdo_makeFunc wdo_nilCheck wdo_callV wdo_len wdo_append wdo_copy wdo_delete wdo_max wdo_min wdo_convert jcvt_int
  xput_get put_n put_none put_dfr ibin finQ_n finQ_r finD_nil splice_one ires_nil ires_one ires_two ires_three ires1_tmp ires1_cell jcell_ptr rowLoad_row wrap64 wrapU64 wrapU8 wrapU16 wrapU32 callV_fn buildOf Instr.fill Value.cells Value.oneCell' kindOf slots_all splice_all IHeap.size_set' IHeap.size_push' IHeap.get_set_same IHeap.get_set_ne IHeap.get_pushed IHeap.get_push_ne IHeap.set_set IHeap.set_push IHeap.set_pushed IHeap.set_set3 getU_nil getU_same getU_ne jif_true jif_false pushH_eq setH_eq forceL_eq forceV_eq ibuildSlice
attribute [local simp] wdo_index jopt_some
attribute [-simp] Value.oneCell'
attribute [local simp] one_int' one_ptr'
theorem WAt.keep {g : GT} {h h' : IHeap} {W pw pw' : Nat} (x : WAt g h W pw pw') (fr : Fr h h' []) : WAt g h' W pw pw' := x.inv fun i hi => by rw [fr.get i hi, getU_nil]
theorem rfindk_c {t : TB} {h : IHeap} {pw rf rm re : Nat} (k : TOK t) (x : RAt t.ps h pw rf rm re) (hash what : Int) (hh : 0 ≤ hash ∧ hash < 18446744073709551616) :
    CT Try.prog 45 #[.pointer (some ⟨pw, 0, none⟩), .int .u64 hash, .int .u32 what] h (findV (t.find hash (fK what))) [] := rfind_c k.st k.dv x hash what hh
theorem whas_c {g : GT} {h : IHeap} {W pw pw' : Nat} {hash what : Int} (x : WAt g h W pw pw') (ok : GOK g) (hh : 0 ≤ hash ∧ hash < 18446744073709551616) :
    CT Try.prog 53 #[.pointer (some ⟨W, 0, none⟩), .agg #[.int .u64 hash, .int .u32 what]] h (.bool (g.hasB hash what)) [] := by
  obtain ⟨H, hH⟩ : ∃ H, H = h.push (.row false 0 [.int .u64 hash, .int .u32 what]) := ⟨_, rfl⟩
  have Hz : H.size = h.size + 1 := by rw [hH, IHeap.size_push']
  have Ho : ∀ i, i < h.size → H.get i = h.get i := fun i hi => by rw [hH]; exact IHeap.get_push_ne _ (by omega)
  have Hb : H.get h.size = some (.row false 0 [.int .u64 hash, .int .u32 what]) := by rw [hH]; exact IHeap.get_pushed _ rfl
  have xH := x.inv Ho
  have gH := xH.gW
  obtain ⟨rf, rm, re, xn⟩ := xH.now
  have fc := rfindk_c ok.t xn hash what hh
  refine FN.enter mixed (fn := Try.f53) (by kernel_rfl) rfl (by kernel_rfl) fun e hn hg hd => ?_
  simp [Try.f53] at hn
  have a0 : e.get 0 = .pointer (some ⟨W, 0, none⟩) := hg 0 (by omega)
  have a1 : e.get 1 = .agg #[.int .u64 hash, .int .u32 what] := hg 1 (by omega)
  clear hg
  simp (maxSteps := 1000000) (disch := first | (simp; done) | (simp only [IHeap.size_push', IHeap.size_set']; omega) | omega) [a0, a1, hn, hd, ← hH, gH, Hb]
  refine FN.ct fc ?_
  intro h2 fr
  have z2 := fr.size
  have k2 : ∀ i, i < H.size → h2.get i = H.get i := fun i hi => by rw [fr.get i hi, getU_nil]
  have fr2 : Fr h h2 [] := ⟨by omega, fun i hi => by rw [k2 i (by omega), Ho i hi, getU_nil]⟩
  have x2 := xH.keep fr
  have g2 := x2.gW
  have b2 := (k2 h.size (by omega)).trans Hb
  cases hf : g.now.find hash (fK what) with
  | some i =>
    have hb : g.hasB hash what = true := by unfold GT.hasB; rw [hf]; rfl
    simp (maxSteps := 1000000) (disch := first | (simp; done) | (simp only [IHeap.size_push', IHeap.size_set']; omega) | omega) [a0, a1, hn, hd, findV, undef, hb]
    exact ⟨niC_pend [] (by kernel_rfl) trivial, fr2⟩
  | none =>
    cases hx : g.nx with
    | none =>
      have hb : g.hasB hash what = false := by unfold GT.hasB; rw [hf, nxT_none hx, find_empty]; rfl
      rw [hx] at g2
      simp (maxSteps := 1000000) (disch := first | (simp; done) | (simp only [IHeap.size_push', IHeap.size_set']; omega) | omega) [a0, a1, hn, hd, findV, undef, hb, g2]
      exact ⟨niC_pend [] (by kernel_rfl) trivial, fr2⟩
    | some t =>
      have hb : g.hasB hash what = (t.find hash (fK what)).isSome := by unfold GT.hasB; rw [hf, nxT_some hx]; rfl
      obtain ⟨⟨a, b, c, xx⟩, ne⟩ := x2.nx t hx
      obtain ⟨t1, t2, t3⟩ := ok.x t hx
      rw [hx, nxA_some hx] at g2
      simp (maxSteps := 1000000) (disch := first | (simp; done) | (simp only [IHeap.size_push', IHeap.size_set']; omega) | omega) [a0, a1, hn, hd, findV, g2, b2]
      refine ⟨niC_pend [] (by kernel_rfl) trivial, ?_⟩
      refine FN.ct (rfindk_c t1 xx hash what hh) ?_
      intro h3 fr3
      have fr4 : Fr h h3 [] := ⟨by have := fr3.size; omega, fun i hi => by rw [fr3.get i (by omega), getU_nil, fr2.get i hi]⟩
      cases hf2 : t.find hash (fK what) with
      | some i =>
        rw [hf2] at hb
        simp (maxSteps := 1000000) (disch := first | (simp; done) | (simp only [IHeap.size_push', IHeap.size_set']; omega) | omega) [a0, a1, hn, hd, findV, hb]
        exact ⟨niC_pend [] (by kernel_rfl) trivial, fr4⟩
      | none =>
        rw [hf2] at hb
        simp (maxSteps := 1000000) (disch := first | (simp; done) | (simp only [IHeap.size_push', IHeap.size_set']; omega) | omega) [a0, a1, hn, hd, findV, hb]
        exact ⟨niC_pend [] (by kernel_rfl) trivial, fr4⟩
def WDropQ (g : GT) (h : IHeap) (W pw pw' : Nat) (hash what : Int) (v : Value) (h' : IHeap) : Prop := v = .int .i64 (g.dropE hash what) ∧ WAt (g.drop hash what) h' W pw pw' ∧ KS (g.wown W pw pw') h h'
theorem wdrop_c {g : GT} {h : IHeap} {W pw pw' : Nat} {hash what : Int} (x : WAt g h W pw pw') (ok : GOK g) (hh : 0 ≤ hash ∧ hash < 18446744073709551616) :
    FN Try.prog 17 #[.pointer (some ⟨W, 0, none⟩), .agg #[.int .u64 hash, .int .u32 what]] h (Q := ⟨fun v h' => WDropQ g h W pw pw' hash what v h'⟩) := by
  obtain ⟨H, hH⟩ : ∃ H, H = h.push (.row false 0 [.int .u64 hash, .int .u32 what]) := ⟨_, rfl⟩
  have Hz : H.size = h.size + 1 := by rw [hH, IHeap.size_push']
  have Ho : ∀ i, i < h.size → H.get i = h.get i := fun i hi => by rw [hH]; exact IHeap.get_push_ne _ (by omega)
  have Hb : H.get h.size = some (.row false 0 [.int .u64 hash, .int .u32 what]) := by rw [hH]; exact IHeap.get_pushed _ rfl
  have xH := x.inv Ho
  have gH := xH.gW
  obtain ⟨rf, rm, re, xn⟩ := xH.now
  have fc := rfindk_c ok.t xn hash what hh
  refine FN.enter mixed (fn := Try.f17) (by kernel_rfl) rfl (by kernel_rfl) fun e hn hg hd => ?_
  simp [Try.f17] at hn
  have a0 : e.get 0 = .pointer (some ⟨W, 0, none⟩) := hg 0 (by omega)
  have a1 : e.get 1 = .agg #[.int .u64 hash, .int .u32 what] := hg 1 (by omega)
  clear hg
  simp (maxSteps := 1000000) (disch := first | (simp; done) | (simp only [IHeap.size_push', IHeap.size_set']; omega) | omega) [a0, a1, hn, hd, ← hH, gH, Hb]
  refine FN.ct fc ?_
  intro h2 fr
  have z2 := fr.size
  have k2 : ∀ i, i < H.size → h2.get i = H.get i := fun i hi => by rw [fr.get i hi, getU_nil]
  have o2 : ∀ i, i < h.size → h2.get i = h.get i := fun i hi => by rw [k2 i (by omega), Ho i hi]
  have x2 := xH.keep fr
  have g2 := x2.gW
  have b2 := (k2 h.size (by omega)).trans Hb
  obtain ⟨rf, rm, re, xn2⟩ := x2.now
  cases hf : g.now.find hash (fK what) with
  | some i =>
    have hb : g.dropE hash what = 0 := by unfold GT.dropE GT.hasB; rw [hf]; rfl
    have hg : g.drop hash what = { g with now := g.now.drop i } := by unfold GT.drop; rw [hf]
    obtain ⟨c, hc, c1, c2, c3⟩ := find_inv hf
    simp (maxSteps := 1000000) (disch := first | (simp; done) | (simp only [IHeap.size_push', IHeap.size_set']; omega) | omega) [a0, a1, hn, hd, findV, g2]
    refine ⟨niC_pend [] (by kernel_rfl) trivial, ?_⟩
    refine FN.mono (rdrop_c xn2 i) ?_
    rintro v h3 ⟨rfl, at', kp⟩
    rw [dropV_at hc c1]
    simp (maxSteps := 1000000) (disch := first | (simp; done) | (simp only [IHeap.size_push', IHeap.size_set']; omega) | omega) [a0, a1, hn, hd]
    have z3 := kp.size
    exact ⟨by rw [hb], by rw [hg]; exact x2.stepN kp at', by omega, fun i hi hn => by rw [kp.get i (by omega) (fun e => hn (.inr (.inl e))), o2 i hi]⟩
  | none =>
    cases hx : g.nx with
    | none =>
      have hb : g.dropE hash what = 7 := by unfold GT.dropE GT.hasB; rw [hf, nxT_none hx, find_empty]; rfl
      have hg : g.drop hash what = g := by unfold GT.drop; rw [hf, nxT_none hx, find_empty]
      rw [hx] at g2
      simp (maxSteps := 1000000) (disch := first | (simp; done) | (simp only [IHeap.size_push', IHeap.size_set']; omega) | omega) [a0, a1, hn, hd, findV, g2]
      exact ⟨niC_pend [] (by kernel_rfl) trivial, by rw [hb], by rw [hg]; exact x2, by omega, fun i hi _ => o2 i hi⟩
    | some t =>
      obtain ⟨⟨a, b, c, xx⟩, ne⟩ := x2.nx t hx
      obtain ⟨t1, t2, t3⟩ := ok.x t hx
      rw [hx, nxA_some hx] at g2
      simp (maxSteps := 1000000) (disch := first | (simp; done) | (simp only [IHeap.size_push', IHeap.size_set']; omega) | omega) [a0, a1, hn, hd, findV, g2, b2]
      refine ⟨niC_pend [] (by kernel_rfl) trivial, ?_⟩
      refine FN.ct (rfindk_c t1 xx hash what hh) ?_
      intro h3 fr3
      have z3 := fr3.size
      have o3 : ∀ i, i < h2.size → h3.get i = h2.get i := fun i hi => by rw [fr3.get i hi, getU_nil]
      have x3 := x2.keep fr3
      have g3 := x3.gW
      obtain ⟨⟨a, b, c, xx3⟩, ne⟩ := x3.nx t hx
      rw [hx, nxA_some hx] at g3
      cases hf2 : t.find hash (fK what) with
      | some i =>
        have hb : g.dropE hash what = 0 := by unfold GT.dropE GT.hasB; rw [hf, nxT_some hx, hf2]; rfl
        have hg : g.drop hash what = { g with nx := some (t.drop i) } := by unfold GT.drop; rw [hf, nxT_some hx, hf2, hx]
        obtain ⟨c, hc, c1, c2, c3⟩ := find_inv hf2
        simp (maxSteps := 1000000) (disch := first | (simp; done) | (simp only [IHeap.size_push', IHeap.size_set']; omega) | omega) [a0, a1, hn, hd, findV, g3]
        refine ⟨niC_pend [] (by kernel_rfl) trivial, ?_⟩
        refine FN.mono (rdrop_c xx3 i) ?_
        rintro v h4 ⟨rfl, at', kp⟩
        rw [dropV_at hc c1]
        simp (maxSteps := 1000000) (disch := first | (simp; done) | (simp only [IHeap.size_push', IHeap.size_set']; omega) | omega) [a0, a1, hn, hd]
        have z4 := kp.size
        exact ⟨by rw [hb], by rw [hg]; exact x3.stepX hx kp at', by omega, fun i hi hn => by rw [kp.get i (by omega) (fun e => hn (.inr (.inr ⟨by rw [hx]; simp, e⟩))), o3 i (by omega), o2 i hi]⟩
      | none =>
        have hb : g.dropE hash what = 7 := by unfold GT.dropE GT.hasB; rw [hf, nxT_some hx, hf2]; rfl
        have hg : g.drop hash what = g := by unfold GT.drop; rw [hf, nxT_some hx, hf2]
        simp (maxSteps := 1000000) (disch := first | (simp; done) | (simp only [IHeap.size_push', IHeap.size_set']; omega) | omega) [a0, a1, hn, hd, findV, g3]
        exact ⟨niC_pend [] (by kernel_rfl) trivial, by rw [hb], by rw [hg]; exact x3, by omega, fun i hi _ => by rw [o3 i (by omega), o2 i hi]⟩
def WCopyQ (g : GT) (h : IHeap) (v : Value) (h' : IHeap) : Prop := ∃ W2 pw2 pw3, v = .pointer (some ⟨W2, 0, none⟩) ∧ h.size ≤ W2 ∧ h.size ≤ pw2 ∧ (g.nx ≠ none → h.size ≤ pw3) ∧ WAt g h' W2 pw2 pw3 ∧ Fr h h' []
theorem rat_set {l : List PL} {h : IHeap} {pw rf rm re W : Nat} {o : IObj} (x : RAt l h pw rf rm re) (n1 : W ≠ pw) (n2 : W ≠ rf) (n3 : W ≠ rm) (n4 : W ≠ re) : RAt l (h.set W o) pw rf rm re :=
  ⟨by rw [IHeap.get_set_ne _ n1]; exact x.gp, by rw [IHeap.get_set_ne _ n2]; exact x.gf, by rw [IHeap.get_set_ne _ n3]; exact x.gm, by rw [IHeap.get_set_ne _ n4]; exact x.ge, x.ne, x.len⟩
theorem wcopy_c {g : GT} {h : IHeap} {W pw pw' : Nat} (x : WAt g h W pw pw') (ok : GOK g) : FN Try.prog 20 #[.pointer (some ⟨W, 0, none⟩)] h (Q := ⟨fun v h' => WCopyQ g h v h'⟩) := by
  have gW := x.gW
  obtain ⟨H, hH⟩ : ∃ H, H = h.push (.row false 0 [.pointer (some ⟨pw, 0, none⟩), .pointer (g.nxA pw'), .bool g.nx.isSome, .int .i64 (g.most : Nat), .int .i64 (g.cur : Nat)]) := ⟨_, rfl⟩
  have Hz : H.size = h.size + 1 := by rw [hH, IHeap.size_push']
  have Ho : ∀ i, i < h.size → H.get i = h.get i := fun i hi => by rw [hH]; exact IHeap.get_push_ne _ (by omega)
  have Hb : H.get h.size = some (.row false 0 [.pointer (some ⟨pw, 0, none⟩), .pointer (g.nxA pw'), .bool g.nx.isSome, .int .i64 (g.most : Nat), .int .i64 (g.cur : Nat)]) := by rw [hH]; exact IHeap.get_pushed _ rfl
  have xH := x.inv Ho
  have gH := xH.gW
  have gl := IHeap.get_lt x.gW
  obtain ⟨rf, rm, re, xn⟩ := xH.now
  refine FN.enter mixed (fn := Try.f20) (by kernel_rfl) rfl (by kernel_rfl) fun e hn hg hd => ?_
  simp [Try.f20] at hn
  have a0 : e.get 0 = .pointer (some ⟨W, 0, none⟩) := hg 0 (by omega)
  clear hg
  simp (maxSteps := 1000000) (disch := first | (simp; done) | (simp only [IHeap.size_push', IHeap.size_set']; omega) | omega) [a0, hn, hd, gW, one_bool, ← hH, gH]
  refine FN.mono (rcopy_c xn) ?_
  rintro v h2 ⟨rfl, y2, fr2⟩
  have z2 := fr2.size
  have k2 : ∀ i, i < H.size → h2.get i = H.get i := fun i hi => by rw [fr2.get i hi, getU_nil]
  have x2 := xH.inv k2
  have g2 := x2.gW
  have b2 := (k2 h.size (by omega)).trans Hb
  obtain ⟨p1, p2, p3, p4⟩ := rat_ne y2 b2
  have l2 := IHeap.get_lt y2.gp
  cases hx : g.nx with
  | none =>
    have nA : g.nxA pw' = none := nxA_none hx pw'
    rw [nA, hx] at g2 b2
    simp (maxSteps := 1000000) (disch := first | (simp; done) | (simp only [IHeap.size_push', IHeap.size_set']; omega) | omega) [a0, hn, hd, g2, b2, show h.size ≠ W by omega, show W ≠ h.size by omega]
    refine ⟨h.size, H.size, 0, rfl, by omega, by omega, fun h => absurd hx h, ⟨?_, ⟨rf, rm, re, rat_set y2 p1 p2 p3 p4⟩, fun t ht => by rw [hx] at ht; cases ht⟩, ⟨by rw [IHeap.size_set']; omega, fun i hi => by rw [IHeap.get_set_ne _ (by omega), k2 i (by omega), Ho i hi, getU_nil]⟩⟩
    simp (maxSteps := 1000000) (disch := first | (simp; done) | (simp only [IHeap.size_push', IHeap.size_set']; omega) | omega) [nxA_none hx, hx]
  | some t =>
    have nA : g.nxA pw' = some ⟨pw', 0, none⟩ := nxA_some hx pw'
    obtain ⟨⟨a, b, c, xx⟩, ne⟩ := x2.nx t hx
    rw [nA, hx] at g2 b2
    rw [Option.isSome_some] at g2 b2
    obtain ⟨o3, ho3⟩ : ∃ o, o = IObj.row false 0 [.pointer (some ⟨H.size, 0, none⟩), .pointer (some ⟨pw', 0, none⟩), .bool true, .int .i64 (g.most : Nat), .int .i64 (g.cur : Nat)] := ⟨_, rfl⟩
    obtain ⟨q1, q2, q3, q4⟩ := rat_ne xx b2
    have xx3 := rat_set (o := o3) xx q1 q2 q3 q4
    simp (maxSteps := 1000000) (disch := first | (simp; done) | (simp only [IHeap.size_push', IHeap.size_set']; omega) | omega) [a0, hn, hd, g2, b2, show h.size ≠ W by omega, show W ≠ h.size by omega]
    rw [ho3] at xx3
    refine FN.mono (rcopy_c xx3) ?_
    rintro v h3 ⟨rfl, y3, fr3⟩
    have z3 := fr3.size
    rw [IHeap.size_set'] at z3
    have k3 : ∀ i, i < h2.size → i ≠ h.size → h3.get i = h2.get i := fun i hi hne => by rw [fr3.get i (by rw [IHeap.size_set']; omega), getU_nil, IHeap.get_set_ne _ (fun e => hne e.symm)]
    have b3 : h3.get h.size = some (.row false 0 [.pointer (some ⟨H.size, 0, none⟩), .pointer (some ⟨pw', 0, none⟩), .bool true, .int .i64 (g.most : Nat), .int .i64 (g.cur : Nat)]) := by
      rw [fr3.get _ (by rw [IHeap.size_set']; omega), getU_nil, IHeap.get_set_same _ (by omega)]
    have y2' : RAt g.now.ps h3 H.size rf rm re := ⟨by rw [k3 _ l2 (by omega)]; exact y2.gp, by rw [k3 _ (IHeap.get_lt y2.gf) p2.symm]; exact y2.gf, by rw [k3 _ (IHeap.get_lt y2.gm) p3.symm]; exact y2.gm, by rw [k3 _ (IHeap.get_lt y2.ge) p4.symm]; exact y2.ge, y2.ne, y2.len⟩
    rw [IHeap.size_set'] at y3
    obtain ⟨r1, r2, r3, r4⟩ := rat_ne y3 b3
    simp (maxSteps := 1000000) (disch := first | (simp; done) | (simp only [IHeap.size_push', IHeap.size_set']; omega) | omega) [a0, hn, hd, b3]
    refine ⟨h.size, H.size, h2.size, rfl, by omega, by omega, fun _ => by omega, ⟨?_, ⟨rf, rm, re, rat_set y2' p1 p2 p3 p4⟩, fun s hs => ?_⟩, ⟨by rw [IHeap.size_set']; omega, fun i hi => by rw [IHeap.get_set_ne _ (by omega), k3 i (by omega) (by omega), k2 i (by omega), Ho i hi, getU_nil]⟩⟩
    · simp (maxSteps := 1000000) (disch := first | (simp; done) | (simp only [IHeap.size_push', IHeap.size_set']; omega) | omega) [nxA_some hx, hx]
    · rw [hx] at hs
      cases hs
      exact ⟨⟨a, b, c, rat_set y3 r1 r2 r3 r4⟩, by omega⟩
end Go.Proofs.Ytmobpbhbllhdcaa.Ideal
