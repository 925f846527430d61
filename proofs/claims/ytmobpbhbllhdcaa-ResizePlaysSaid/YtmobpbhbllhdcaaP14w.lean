import Derived.Test.YtmobpbhbllhdcaaP14v
noncomputable section
open Go.Proofs
namespace Go.Proofs.Ytmobpbhbllhdcaa.Ideal
open Go.RowKit
set_option linter.unusedSimpArgs false
set_option linter.unusedVariables false
set_option linter.unusedSectionVars false
set_option maxRecDepth 100000
set_option maxHeartbeats 4000000
attribute [-simp] IHeap.size_set IHeap.size_push
attribute [local simp ↓] Hid.ap_mk
attribute [local simp] scopeQ_normal scopeQ_ret scopeQ_exit WP_skip WP_label WP_exit WP_goto WP_ret WP_region WP_seq WP_cond WP_block WP_scope WP_loop WP_range thenQ_normal thenQ_ret thenQ_exit thenQ_goto loopQ_normal loopQ_ret loopQ_exit invQ_normal invQ_ret invQ_exit outOf_normal outOf_ret outOf_goto outOf_exit ev_tmp ev_const ev_func
  wops_nil wops_cons wantedE_none wantedE_some jgd_some wnx_eq niC_false wdo_move wdo_assign wdo_pick wdo_load wdo_store wdo_alloc wdo_box wdo_fieldAddr wdo_indexAddr wdo_field wdo_extract wdo_build wdo_buildSlice wdo_makeSlice wdo_binOp wdo_unOp wdo_makeFunc wdo_nilCheck wdo_callV wdo_len wdo_append wdo_copy wdo_delete wdo_max wdo_min wdo_convert jcvt_int
  xput_get put_n put_none put_dfr ibin finQ_n finQ_r finD_nil splice_one ires_nil ires_one ires_two ires_three ires1_tmp ires1_cell jcell_ptr rowLoad_row wrap64 wrapU64 wrapU8 wrapU16 wrapU32 callV_fn buildOf Instr.fill Value.cells Value.oneCell' kindOf slots_all splice_all IHeap.size_set' IHeap.size_push' IHeap.get_set_same IHeap.get_set_ne IHeap.get_pushed IHeap.get_push_ne IHeap.set_set IHeap.set_push IHeap.set_pushed IHeap.set_set3 getU_nil getU_same getU_ne jif_true jif_false pushH_eq setH_eq forceL_eq forceV_eq ibuildSlice
attribute [local simp] wdo_index jopt_some
attribute [-simp] Value.oneCell'
attribute [local simp] one_int' one_ptr'
theorem fl_get {l : List PL} {k : Nat} {c : PL} (h : l[k]? = some c) (hz : c.2.2 = 1) : (fl l)[(fl (l.take k)).length]? = some (c.1, c.2.1) := by
  have e : l = l.take (k + 1) ++ l.drop (k + 1) := (List.take_append_drop _ _).symm
  have h2 : fl l = fl (l.take k) ++ ((c.1, c.2.1) :: fl (l.drop (k + 1))) := by
    conv => lhs; rw [e, fl_app, fl_take h, if_pos hz]
    simp
  rw [h2, List.getElem?_append_right (Nat.le_refl _), Nat.sub_self]
  rfl
theorem sum_en {g : GT} (ok : GOK g) : g.now.en + g.nxT.en = ((fl g.allP).length : Nat) := by
  unfold GT.allP
  rw [fl_app, List.length_append, fl_len, fl_len, ok.t.en]
  cases hx : g.nx with
  | none => rw [nxT_none hx]; simp [fullL]
  | some t => rw [nxT_some hx, (ok.x t hx).1.en]; omega
theorem nx_bounds {g : GT} (ok : GOK g) : (0 ≤ g.nxT.en ∧ g.nxT.en ≤ 256) ∧ (0 ≤ g.nxT.ma ∧ g.nxT.ma ≤ 256) ∧ g.nxT.ps.length ≤ 256 := by
  cases hx : g.nx with
  | none => rw [nxT_none hx]; simp
  | some t =>
    rw [nxT_some hx]
    obtain ⟨t1, t2, t3⟩ := ok.x t hx
    exact ⟨t1.enB, t1.maB, t2.le.2⟩
structure SgJ (N a11 : Nat) (H : IHeap) (z : Nat) (L : Loop) (ps : List PL) (k : Nat) (h : IHeap) : Prop where
  size : z + 2 ≤ h.size
  old : ∀ i, i < z → i ≠ a11 → h.get i = H.get i
  cnt : h.get a11 = some (.row false 0 [.int .i64 ((fl (ps.take k)).length : Nat)])
  gd : h.get z = some .defs
  gl : h.get (z + 1) = some (.loop L)
theorem same_c {g : GT} {h : IHeap} {G p q p' q' W pw pw' : Nat} {hash what : Int} (x : GAt g h G p q p' q') (w : WAt g h W pw pw') (ok : GOK g) (hh : 0 ≤ hash ∧ hash < 18446744073709551616) : CT Try.prog 21 #[.pointer (some ⟨G, 0, none⟩), .pointer (some ⟨W, 0, none⟩), .agg #[.int .u64 hash, .int .u32 what]] h (.bool true) [] := by
  obtain ⟨H, hH⟩ : ∃ H, H = (h.push (.row false 0 [.int .u64 hash, .int .u32 what])).push (.row false 0 [.bool false]) := ⟨_, rfl⟩
  have Hz : H.size = h.size + 2 := by rw [hH]; simp only [IHeap.size_push']
  have Ho : ∀ i, i < h.size → H.get i = h.get i := fun i hi => by rw [hH]; simp (maxSteps := 1000000) (disch := first | (simp; done) | (simp only [IHeap.size_push', IHeap.size_set']; omega) | omega) []
  have H0 : H.get h.size = some (.row false 0 [.int .u64 hash, .int .u32 what]) := by rw [hH]; simp (maxSteps := 1000000) (disch := first | (simp; done) | (simp only [IHeap.size_push', IHeap.size_set']; omega) | omega) []
  have H1 : H.get (h.size + 1) = some (.row false 0 [.bool false]) := by rw [hH]; simp (maxSteps := 1000000) (disch := first | (simp; done) | (simp only [IHeap.size_push', IHeap.size_set']; omega) | omega) []
  have xH := x.inv Ho
  have wH := w.inv Ho
  have gW := wH.gW
  obtain ⟨rf, rm, re, xn⟩ := wH.now
  have gp := xn.gp
  have lb := ok.l.le
  have eb := ok.t.enB
  have mb := ok.t.maB
  have cb := ok.c
  obtain ⟨eb2, mb2, lb2⟩ := nx_bounds ok
  refine FN.enter mixed (fn := Try.f21) (by kernel_rfl) rfl (by kernel_rfl) fun e hn hg hd => ?_
  simp [Try.f21] at hn
  have a0 : e.get 0 = .pointer (some ⟨G, 0, none⟩) := hg 0 (by omega)
  have a1 : e.get 1 = .pointer (some ⟨W, 0, none⟩) := hg 1 (by omega)
  have a2 : e.get 2 = .agg #[.int .u64 hash, .int .u32 what] := hg 2 (by omega)
  clear hg
  refine WP.cut3 (fun e' h' => h' = H ∧ e'.n = 103 ∧ e'.dfr = [] ∧ e'.get 0 = .pointer (some ⟨G, 0, none⟩) ∧ e'.get 1 = .pointer (some ⟨W, 0, none⟩) ∧ e'.get 5 = .pointer (some ⟨h.size, 0, none⟩) ∧ e'.get 6 = .pointer (some ⟨h.size + 1, 0, none⟩) ∧ e'.get 7 = .int .i64 g.now.ps.length ∧ e'.get 8 = .int .i64 g.nxT.ps.length ∧ e'.get 9 = .int .i64 0) ?_ ?_
  · simp (maxSteps := 1000000) (disch := first | (simp; done) | (simp only [IHeap.size_push', IHeap.size_set']; omega) | omega) [a0, a1, a2, hn, hd, ← hH]
    refine FN.of (gplaces_c xH) ?_
    simp (maxSteps := 1000000) (disch := first | (simp; done) | (simp only [IHeap.size_push', IHeap.size_set']; omega) | omega) [a0, a1, a2, hn, hd]
  clear hn hd a0 a1 a2 e
  rintro e h' ⟨rfl, hn, hd, a0, a1, a5, a6, a7, a8, a9⟩
  refine WP.cut1 (fun e' h'' => h'' = h' ∧ e'.n = 103 ∧ e'.dfr = [] ∧ e'.get 0 = .pointer (some ⟨G, 0, none⟩) ∧ e'.get 1 = .pointer (some ⟨W, 0, none⟩) ∧ e'.get 5 = .pointer (some ⟨h.size, 0, none⟩) ∧ e'.get 6 = .pointer (some ⟨h.size + 1, 0, none⟩) ∧ e'.get 7 = .int .i64 g.now.ps.length ∧ e'.get 8 = .int .i64 g.nxT.ps.length ∧ e'.get 9 = .int .i64 g.nxT.ps.length) ?_ ?_
  · cases hx : g.nx with
    | none =>
      rw [hx] at gW
      rw [nxT_none hx] at a8 ⊢
      simp (maxSteps := 1000000) (disch := first | (simp; done) | (simp only [IHeap.size_push', IHeap.size_set']; omega) | omega) [a0, a1, a5, a6, a7, a8, a9, hn, hd, gW]
    | some t =>
      obtain ⟨⟨rf, rm, re, xx⟩, ne⟩ := wH.nx t hx
      have gp2 := xx.gp
      rw [hx, nxA_some hx] at gW
      rw [nxT_some hx] at a8 ⊢
      simp (maxSteps := 1000000) (disch := first | (simp; done) | (simp only [IHeap.size_push', IHeap.size_set']; omega) | omega) [a0, a1, a5, a6, a7, a8, hn, hd, gW, gp2]
  clear hn hd a0 a1 a5 a6 a7 a8 a9 e
  rintro e h'' ⟨rfl, hn, hd, a0, a1, a5, a6, a7, a8, a9⟩
  simp (maxSteps := 1000000) (disch := first | (simp; done) | (simp only [IHeap.size_push', IHeap.size_set']; omega) | omega) [a0, a1, a5, a6, a7, a8, a9, hn, hd]
  refine FN.mono (wall_c wH ok) ?_
  rintro v h2 ⟨fr2, r, rfl, hr⟩
  rw [slcE_eq]
  simp (maxSteps := 1000000) (disch := first | (simp; done) | (simp only [IHeap.size_push', IHeap.size_set']; omega) | omega) [a0, a1, a5, a6, a7, a8, a9, hn, hd, one_slc]
  obtain ⟨H3, hH3⟩ : ∃ H3, H3 = (h2.push (.row false 0 [.slice (adrE (fl g.allP) r) (fl g.allP).length (fl g.allP).length])).push (.row false 0 [.int .i64 0]) := ⟨_, rfl⟩
  rw [← hH3]
  have z2 := fr2.size
  have z3 : H3.size = h2.size + 2 := by rw [hH3]; simp only [IHeap.size_push']
  have o3 : ∀ i, i < h2.size → H3.get i = h2.get i := fun i hi => by rw [hH3]; simp (maxSteps := 1000000) (disch := first | (simp; done) | (simp only [IHeap.size_push', IHeap.size_set']; omega) | omega) []
  have k3 : ∀ i, i < h''.size → H3.get i = h''.get i := fun i hi => by rw [o3 i (by omega), fr2.get i hi, getU_nil]
  have A3 : H3.get h2.size = some (.row false 0 [.slice (adrE (fl g.allP) r) (fl g.allP).length (fl g.allP).length]) := by rw [hH3]; simp (maxSteps := 1000000) (disch := first | (simp; done) | (simp only [IHeap.size_push', IHeap.size_set']; omega) | omega) []
  have N3 : H3.get (h2.size + 1) = some (.row false 0 [.int .i64 0]) := by rw [hH3]; simp (maxSteps := 1000000) (disch := first | (simp; done) | (simp only [IHeap.size_push', IHeap.size_set']; omega) | omega) []
  have hr3 : fl g.allP ≠ [] → r < h2.size ∧ H3.get r = some (.row false 2 (ents (fl g.allP))) := fun hc => by
    have := hr hc
    have rl := IHeap.get_lt this
    exact ⟨rl, (o3 r rl).trans this⟩
  clear hH3 hr hH
  have x3 := xH.inv k3
  have w3 := wH.inv k3
  have E3 := (k3 h.size (by omega)).trans H0
  have R3 := (k3 (h.size + 1) (by omega)).trans H1
  have gW3 := w3.gW
  obtain ⟨rf, rm, re, xn3⟩ := w3.now
  have gp3 := xn3.gp
  have se := sum_en ok
  simp (maxSteps := 1000000) (disch := first | (simp; done) | (simp only [IHeap.size_push', IHeap.size_set']; omega) | omega) [a0, a1, a5, a6, a7, a8, a9, hn, hd, gW3, gp3]
  refine FN.of (gleft_c x3 (by omega) (by omega)) ?_
  simp (maxSteps := 1000000) (disch := first | (simp; done) | (simp only [IHeap.size_push', IHeap.size_set']; omega) | omega) [a0, a1, hn, hd]
  refine FN.of (wleft_c w3 ok) ?_
  simp (maxSteps := 1000000) (disch := first | (simp; done) | (simp only [IHeap.size_push', IHeap.size_set']; omega) | omega) [a0, a1, hn, hd]
  refine FN.of (gentries_c x3 (by omega) (by omega)) ?_
  simp (maxSteps := 1000000) (disch := first | (simp; done) | (simp only [IHeap.size_push', IHeap.size_set']; omega) | omega) [a0, a1, hn, hd, A3, se]
  refine FN.of (gmarks_c x3 (by omega) (by omega)) ?_
  simp (maxSteps := 1000000) (disch := first | (simp; done) | (simp only [IHeap.size_push', IHeap.size_set']; omega) | omega) [a0, a1, hn, hd, A3]
  refine FN.of (wmarks_c w3 ok) ?_
  simp (maxSteps := 1000000) (disch := first | (simp; done) | (simp only [IHeap.size_push', IHeap.size_set']; omega) | omega) [a0, a1, a5, hn, hd, E3]
  refine FN.ct (has_c x3 ok hh) ?_
  intro h4 fr4
  have k4 : ∀ i, i < H3.size → h4.get i = H3.get i := fun i hi => by rw [fr4.get i hi, getU_nil]
  have z4 := fr4.size
  have w4 := w3.keep fr4
  have x4 := x3.inv k4
  have kE : h4.get h.size = H3.get h.size := k4 _ (by omega)
  have E4 := kE.trans E3
  simp (maxSteps := 1000000) (disch := first | (simp; done) | (simp only [IHeap.size_push', IHeap.size_set']; omega) | omega) [a0, a1, a5, hn, hd, E4]
  refine FN.ct (whas_c w4 ok hh) ?_
  intro h5 fr5
  have k5 : ∀ i, i < H3.size → h5.get i = H3.get i := fun i hi => by rw [fr5.get i (by omega), getU_nil, k4 i hi]
  have z5 := fr5.size
  have x5 := x3.inv k5
  simp (maxSteps := 1000000) (disch := first | (simp; done) | (simp only [IHeap.size_push', IHeap.size_set']; omega) | omega) [a0, a1, a5, hn, hd]
  refine FN.of (gall_c G) ?_
  simp (maxSteps := 1000000) (disch := first | (simp; done) | (simp only [IHeap.size_push', IHeap.size_set']; omega) | omega) [a0, a1, a5, a6, hn, hd]
  refine ⟨niC_pend [(24, 25), (24, 26), (39, 41)] (by kernel_rfl) ⟨rfl, trivial, kE, trivial⟩, ?_⟩
  refine FN.of (gall_c G) ?_
  simp (maxSteps := 1000000) (disch := first | (simp; done) | (simp only [IHeap.size_push', IHeap.size_set']; omega) | omega) [a0, a1, a5, a6, hn, hd]
  refine WPR.gen fun E H6 hE hH6 => ?_
  have En : E.n = 103 := by rw [hE]; simp (maxSteps := 1000000) (disch := first | (simp; done) | (simp only [IHeap.size_push', IHeap.size_set']; omega) | omega) [hn]
  have Ed : E.dfr = [] := by rw [hE]; simp (maxSteps := 1000000) (disch := first | (simp; done) | (simp only [IHeap.size_push', IHeap.size_set']; omega) | omega) [hd]
  have E6 : E.get 6 = .pointer (some ⟨h.size + 1, 0, none⟩) := by rw [hE]; simp (maxSteps := 1000000) (disch := first | (simp; done) | (simp only [IHeap.size_push', IHeap.size_set']; omega) | omega) [hn, a6]
  have E10 : E.get 10 = .pointer (some ⟨h2.size, 0, none⟩) := by rw [hE]; simp (maxSteps := 1000000) (disch := first | (simp; done) | (simp only [IHeap.size_push', IHeap.size_set']; omega) | omega) [hn]
  have E11 : E.get 11 = .pointer (some ⟨h2.size + 1, 0, none⟩) := by rw [hE]; simp (maxSteps := 1000000) (disch := first | (simp; done) | (simp only [IHeap.size_push', IHeap.size_set']; omega) | omega) [hn]
  have E83 : E.get 83 = .func (.func 55) #[] #[.pointer (some ⟨h5.size + 1, 0, none⟩)] := by rw [hE]; simp (maxSteps := 1000000) (disch := first | (simp; done) | (simp only [IHeap.size_push', IHeap.size_set']; omega) | omega) [hn]
  have z6 : H6.size = h5.size + 2 := by rw [hH6]; simp only [IHeap.size_push']
  have k6 : ∀ i, i < h5.size → H6.get i = h5.get i := fun i hi => by rw [hH6]; simp (maxSteps := 1000000) (disch := first | (simp; done) | (simp only [IHeap.size_push', IHeap.size_set']; omega) | omega) []
  have B6 : H6.get (h5.size + 1) = some (.row false 0 [.pointer (some ⟨G, 0, none⟩)]) := by rw [hH6]; simp (maxSteps := 1000000) (disch := first | (simp; done) | (simp only [IHeap.size_push', IHeap.size_set']; omega) | omega) []
  clear hH6 hE hn hd a0 a1 a5 a6 a7 a8 a9 e
  have o6 : ∀ i, i < H3.size → H6.get i = H3.get i := fun i hi => by rw [k6 i (by omega), k5 i hi]
  have oh : ∀ i, i < h.size → H6.get i = h.get i := fun i hi => by rw [o6 i (by omega), k3 i (by omega), Ho i hi]
  have x6 := x.inv oh
  have A6 := (o6 h2.size (by omega)).trans A3
  have N6 := (o6 (h2.size + 1) (by omega)).trans N3
  have R6 := (o6 (h.size + 1) (by omega)).trans R3
  have gl := IHeap.get_lt x.gG
  refine WPR.intro2 (cs := #[.pointer (some ⟨h5.size + 1, 0, none⟩)]) (fs := #[]) rfl E83 (by simp) rfl ?_
  intro L Lp Lt LA LB Ls Ln
  have eL : ({ state := .ready, pending := none, fn := L.fn, tmps := L.tmps, params := L.params, assign := L.assign, body := L.body, defers := L.defers } : Loop) = L := by
    rw [← Ls, ← Ln]
  have xJ : ∀ k h', SgJ (H6.size + 2) (h2.size + 1) H6 H6.size L g.allP k h' → GAt g h' G p q p' q' := fun k h' j => x.inv fun i hi => by rw [j.old i (by omega) (by omega), oh i hi]
  refine FN.mono (galls_it (b := h5.size + 1) (G := G) (p := p) (q := q) (p' := p') (q' := q') ok (fun k h' => SgJ (H6.size + 2) (h2.size + 1) H6 H6.size L g.allP k h') (fun k h' j => by rw [j.old _ (by omega) (by omega)]; exact B6) xJ ?_ ?_ ?_ ?_) ?_
  · intro k h7 c hcc hz hs7 j
    have gl7 := j.gl
    have jz := j.size
    have jc := j.cnt
    refine RN.one mixed (E := E) gl7 Lp Lt LA LB (by kernel_rfl) (by kernel_rfl) ?_
    intro rr rn rd rg
    have r6 := rg 6
    have r10 := rg 10
    have r11 := rg 11
    rw [E6] at r6; rw [E10] at r10; rw [E11] at r11
    rw [En] at rn
    have A7 := (j.old h2.size (by omega) (by omega)).trans A6
    have fg := fl_get hcc hz
    have fgl := (List.getElem?_eq_some_iff.1 fg).1
    have hne : fl g.allP ≠ [] := fun e => by rw [e] at fgl; simp at fgl
    obtain ⟨rl, rg3⟩ := hr3 hne
    have rg7 := (j.old r (by omega) (by omega)).trans ((o6 r (by omega)).trans rg3)
    have es := ents_slots fg
    have ad : adrE (fl g.allP) r = some ⟨r, 0, none⟩ := by unfold adrE; rw [if_neg hne]
    rw [ad] at A7
    have lt1 : ((fl (g.allP.take k)).length : Int) < (fl g.allP).length := by omega
    have lt2 : ¬ ((fl g.allP).length ≤ (fl (g.allP.take k)).length) := by omega
    have lel : (fl g.allP).length ≤ 1000 := by
      have h1 := fl_le g.allP
      have h2 : g.allP.length = g.now.ps.length + g.nxT.ps.length := by simp [GT.allP]
      omega
    simp (maxSteps := 1000000) (disch := first | (simp; done) | (simp only [IHeap.size_push', IHeap.size_set']; omega) | omega) [rn, rd, r6, r10, r11, assignQ, one_int, zeros, A7, jc, lt1, lt2, fgl, rg7, es, eqE, arr_mk]
    have s1 : (fl (g.allP.take (k + 1))).length = (fl (g.allP.take k)).length + 1 := by
      rw [fl_take hcc, if_pos hz]
      simp
    refine ⟨L, gl7, Ls, niC_pend [] (by kernel_rfl) trivial, ?_⟩
    simp (maxSteps := 1000000) (disch := first | (simp; done) | (simp only [IHeap.size_push', IHeap.size_set']; omega) | omega) [bodyQ, wrap64, gl7]
    rw [eL]
    refine ⟨⟨by simp only [IHeap.size_set', IHeap.size_push']; omega, fun i hi hne => ?_, ?_, ?_, ?_⟩, fun i h1 h2 => ?_⟩
    · rw [IHeap.get_push_ne _ (by simp only [IHeap.size_set']; omega)]
      have := j.old i hi hne
      simp (maxSteps := 1000000) (disch := first | (simp; done) | (simp only [IHeap.size_push', IHeap.size_set']; omega) | omega) [this, hne, Ne.symm hne]
    · rw [s1]
      simp (maxSteps := 1000000) (disch := first | (simp; done) | (simp only [IHeap.size_push', IHeap.size_set']; omega) | omega) []
    · have := j.gd
      simp (maxSteps := 1000000) (disch := first | (simp; done) | (simp only [IHeap.size_push', IHeap.size_set']; omega) | omega) [this]
    · simp (maxSteps := 1000000) (disch := first | (simp; done) | (simp only [IHeap.size_push', IHeap.size_set']; omega) | omega) []
    · simp (maxSteps := 1000000) (disch := first | (simp; done) | (simp only [IHeap.size_push', IHeap.size_set']; omega) | omega) []
  · intro k h7 c hcc hz j
    exact ⟨j.size, j.old, by rw [fl_take hcc, if_neg hz, List.append_nil]; exact j.cnt, j.gd, j.gl⟩
  · intro k h7 h8 j hs o
    simp only [IHeap.size_push'] at o
    have jz := j.size
    exact ⟨by omega, fun i hi hne => by rw [o i (by omega)]; exact j.old i hi hne, by rw [o _ (by omega)]; exact j.cnt, by rw [o _ (by omega)]; exact j.gd, by rw [o _ (by omega)]; exact j.gl⟩
  · refine ⟨by simp only [IHeap.size_push']; omega, fun i hi hne => ?_, ?_, ?_, ?_⟩
    · rw [IHeap.get_push_ne _ (by simp only [IHeap.size_push']; omega), IHeap.get_push_ne _ (by omega)]
    · rw [IHeap.get_push_ne _ (by simp only [IHeap.size_push']; omega), IHeap.get_push_ne _ (by omega), N6]
      simp [fl]
    · rw [IHeap.get_push_ne _ (by simp only [IHeap.size_push']; omega)]
      exact IHeap.get_pushed _ rfl
    · exact IHeap.get_pushed _ (by simp only [IHeap.size_push'])
  · rintro v h7 j
    simp only [Hid.ap_mk] at j ⊢
    have jz := j.size
    have gl7 := j.gl
    refine ⟨L, gl7, by rw [Ls]; simp, .normal, by rw [Ln]; rfl, ?_⟩
    simp only [Hid.ap_mk, outOf_normal]
    obtain ⟨E', hE', n', d', g'⟩ := XEnv.withd E (markOf H6.size :: E.dfr)
    rw [hE']
    have E6' := g' 6
    have E10' := g' 10
    have E11' := g' 11
    rw [E6] at E6'; rw [E10] at E10'; rw [E11] at E11'; rw [En] at n'; rw [Ed] at d'
    obtain ⟨h8, hh8⟩ : ∃ h8, h8 = h7.set (H6.size + 1) (.loop { L with state := .exhausted }) := ⟨_, rfl⟩
    rw [← hh8]
    have z8 : h8.size = h7.size := by rw [hh8]; simp only [IHeap.size_set']
    have o8 : ∀ i, i ≠ H6.size + 1 → h8.get i = h7.get i := fun i hi => by rw [hh8]; exact IHeap.get_set_ne _ (fun e => hi e.symm)
    have A8 := (o8 h2.size (by omega)).trans ((j.old h2.size (by omega) (by omega)).trans A6)
    have N8 := (o8 (h2.size + 1) (by omega)).trans j.cnt
    rw [List.take_length] at N8
    have R8 := (o8 (h.size + 1) (by omega)).trans ((j.old (h.size + 1) (by omega) (by omega)).trans R6)
    have D8 := (o8 H6.size (by omega)).trans j.gd
    have D8' : (h8.set (h.size + 1) (.row false 0 [.bool true])).get H6.size = some .defs := by
      rw [IHeap.get_set_ne _ (by omega)]; exact D8
    simp (maxSteps := 1000000) (disch := first | (simp; done) | (simp only [IHeap.size_push', IHeap.size_set']; omega) | omega) [E6', E10', E11', n', d', A8, N8, R8, one_bool, finD_one D8']
    refine ⟨by simp only [IHeap.size_set']; omega, fun i hi => ?_⟩
    rw [IHeap.get_set_ne _ (by omega), IHeap.get_set_ne _ (by omega), o8 i (by omega), j.old i (by omega) (by omega), oh i hi, getU_nil]
end Go.Proofs.Ytmobpbhbllhdcaa.Ideal
