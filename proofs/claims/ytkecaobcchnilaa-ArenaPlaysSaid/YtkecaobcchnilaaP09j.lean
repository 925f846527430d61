import Derived.Test.YtkecaobcchnilaaP09i
noncomputable section
open Go.Proofs
namespace Go.Proofs.Ytkecaobcchnilaa.Ideal
open Go.RowKit
set_option linter.unusedSimpArgs false
set_option linter.unusedVariables false
set_option linter.unusedSectionVars false
set_option linter.unnecessarySimpa false
set_option maxRecDepth 100000
set_option maxHeartbeats 2000000
attribute [-simp] IHeap.size_set IHeap.size_push
attribute [local simp ↓] Hid.ap_mk
attribute [local simp] scopeQ_normal scopeQ_ret scopeQ_exit WP_skip WP_label WP_exit WP_goto WP_ret WP_region WP_seq WP_cond WP_block WP_scope WP_loop WP_range thenQ_normal thenQ_ret thenQ_exit thenQ_goto loopQ_normal loopQ_ret loopQ_exit invQ_normal invQ_ret invQ_exit outOf_normal outOf_ret outOf_goto outOf_exit ev_tmp ev_const ev_func
  wops_nil wops_cons wantedE_none wantedE_some jgd_some wnx_eq niC_false wdo_move wdo_assign wdo_pick wdo_load wdo_store wdo_alloc wdo_box wdo_fieldAddr wdo_indexAddr wdo_field wdo_extract wdo_build wdo_buildSlice wdo_makeSlice wdo_binOp wdo_unOp wdo_makeFunc wdo_nilCheck wdo_callV wdo_len wdo_append wdo_copy wdo_delete wdo_max wdo_min wdo_convert jcvt_int
  xput_get put_n put_none put_dfr ibin finQ_n finQ_r finD_nil splice_one ires_nil ires_one ires_two ires_three ires1_tmp ires1_cell jcell_ptr rowLoad_row wrap64 wrapU64 wrapU8 wrapU16 wrapU32 callV_fn buildOf Instr.fill Value.cells Value.oneCell' kindOf slots_all splice_all IHeap.size_set' IHeap.size_push' IHeap.get_set_same IHeap.get_set_ne IHeap.get_pushed IHeap.get_push_ne IHeap.set_set IHeap.set_push IHeap.set_pushed IHeap.set_set3 getU_nil getU_same getU_ne jif_true jif_false pushH_eq setH_eq forceL_eq forceV_eq ibuildSlice
attribute [-simp] Value.oneCell'
attribute [local simp] wdo_cutV jopt_some
/-- What both tell is the same. -/
structure Same (a : AR) (w : RA) : Prop where
  size : a.size = w.has.length
  live : a.live = (allI w.has 0).length
  get : ∀ k : Nat, a.get k = w.has.getD k 0
  lives : ∀ i s, 0 ≤ s → a.lives i s = w.lives i s
  pos : ∀ x ∈ w.has, 0 ≤ x
theorem hat_inv {h : IHeap} {p rh : Nat} {fv : Value} {w : RA} (x : w.at h p rh fv) {h' : IHeap} (k : ∀ i, i < h.size → h'.get i = h.get i) : w.at h' p rh fv := by
  obtain ⟨A, c, hv, hc, hA, hA2⟩ := x.gf
  refine ⟨(k _ (IHeap.get_lt x.gp)).trans x.gp, (k _ (IHeap.get_lt x.gh)).trans x.gh, ⟨A, c, hv, hc, hA, fun a ha => ?_⟩, x.ne⟩
  obtain ⟨r, rest, e1, e2, e3⟩ := hA2 a ha
  exact ⟨r, rest, e1, e2, (k _ (IHeap.get_lt e3)).trans e3⟩
theorem aat_inv {h : IHeap} {p q : Nat} {a : AR} (x : a.at h p q) {h' : IHeap} (k : ∀ i, i < h.size → h'.get i = h.get i) : a.at h' p q := by
  refine ⟨(k _ (IHeap.get_lt x.gp)).trans x.gp, fun hc => ?_⟩
  obtain ⟨g1, g2⟩ := x.gq hc
  exact ⟨(k _ (IHeap.get_lt g1)).trans g1, g2⟩
theorem arr_mk (l : List Value) : (⟨l⟩ : Array Value) = l.toArray := rfl
theorem slcH_len (l : List (Int × Int)) (r : Nat) : slcH l r = .slice (adrH l r) l.length l.length := slcH_eq l r
structure SaJ (z : Nat) (h3 : IHeap) (p : Nat) (has : List Int) (L : Loop) (k : Nat) (h : IHeap) : Prop where
  size : z + 5 ≤ h.size
  old : ∀ i, i < z → h.get i = h3.get i
  cnt : h.get (z + 1) = some (.row false 0 [.int .i64 (allI (has.take k) 0).length])
  box : h.get (z + 2) = some (.row false 0 [.pointer (some ⟨p, 0, none⟩)])
  gd : h.get (z + 3) = some .defs
  gl : h.get (z + 4) = some (.loop L)
theorem allI_at {l : List Int} {k : Nat} (h : k < l.length) (h0 : 0 < l[k]) : (allI l 0)[(allI (l.take k) 0).length]? = some ((k : Int), l[k]) := by
  have h1 : allI l 0 = allI (l.take (k + 1)) 0 ++ allI (l.drop (k + 1)) (k + 1) := by
    have := allI_app (l.take (k + 1)) (l.drop (k + 1)) 0
    rw [List.take_append_drop] at this
    rw [this]
    congr 2
    simp; omega
  rw [h1, allI_take h, if_pos h0]
  simp
theorem eq32 (a b x y : Int) : aggEq Try.prog 32 .eql (.agg #[.int .i64 a, .int .u64 b]) (.agg #[.int .i64 x, .int .u64 y]) = some (.bool (a == x && b == y)) ∧ aggEq Try.prog 32 .neq (.agg #[.int .i64 a, .int .u64 b]) (.agg #[.int .i64 x, .int .u64 y]) = some (.bool (!(a == x && b == y))) := by
  obtain ⟨fs, h1, h2⟩ := Option.map_eq_some_iff.mp (show (fldsOf Try.prog 32).map (·.map fldSig) = some [(true, 3, 0), (true, 30, 1)] by kernel_rfl)
  have ag3 : pureVal Try.prog (isAgg 3) = some false := by kernel_rfl
  have ag30 : pureVal Try.prog (isAgg 30) = some false := by kernel_rfl
  have := aggEq_ints h1 (by kernel_rfl) (by kernel_rfl) [(3, .i64, a, x), (30, .u64, b, y)] h2 (fun p hp => by
    simp only [List.mem_cons, List.not_mem_nil, or_false] at hp
    rcases hp with rfl | rfl
    · exact ⟨by simp, ag3⟩
    · exact ⟨by simp, ag30⟩)
  simpa using this
theorem same_c {h : IHeap} {p q pw rh : Nat} {fv : Value} {a : AR} {w : RA} (aok : a.ok) (wok : w.ok) (xa : a.at h p q) (xw : w.at h pw rh fv) (sm : Same a w) (i s : Int) (hs : 0 ≤ s) :
    CT Try.prog 18 #[.pointer (some ⟨p, 0, none⟩), .pointer (some ⟨pw, 0, none⟩), .agg #[.int .i64 i, .int .u64 s]] h (.bool true) [] := by
  refine FN.enter mixed (fn := Try.f18) (by kernel_rfl) rfl (by kernel_rfl) fun e hn hg hd => ?_
  simp [Try.f18] at hn
  have a0 : e.get 0 = .pointer (some ⟨p, 0, none⟩) := hg 0 (by omega)
  have a1 : e.get 1 = .pointer (some ⟨pw, 0, none⟩) := hg 1 (by omega)
  have a2 : e.get 2 = .agg #[.int .i64 i, .int .u64 s] := hg 2 (by omega)
  clear hg
  have hlen := wok.len
  simp (maxSteps := 1000000) (disch := first | (simp; done) | (simp only [IHeap.size_push', IHeap.size_set']; omega) | omega) [a0, a1, a2, hn, hd]
  obtain ⟨H, hH⟩ : ∃ H, H = ((h.push (.row false 0 [.pointer (some ⟨p, 0, none⟩)])).push (.row false 0 [.int .i64 i, .int .u64 s])).push (.row false 0 [.bool false]) := ⟨_, rfl⟩
  rw [← hH]
  have Hz : H.size = h.size + 3 := by rw [hH]; simp only [IHeap.size_push']
  have Ho : ∀ i, i < h.size → H.get i = h.get i := fun i hi => by rw [hH]; simp (maxSteps := 1000000) (disch := first | (simp; done) | (simp only [IHeap.size_push', IHeap.size_set']; omega) | omega) []
  have H0 : H.get h.size = some (.row false 0 [.pointer (some ⟨p, 0, none⟩)]) := by rw [hH]; simp (maxSteps := 1000000) (disch := first | (simp; done) | (simp only [IHeap.size_push', IHeap.size_set']; omega) | omega) []
  have H1 : H.get (h.size + 1) = some (.row false 0 [.int .i64 i, .int .u64 s]) := by rw [hH]; simp (maxSteps := 1000000) (disch := first | (simp; done) | (simp only [IHeap.size_push', IHeap.size_set']; omega) | omega) []
  have H2 : H.get (h.size + 2) = some (.row false 0 [.bool false]) := by rw [hH]; simp (maxSteps := 1000000) (disch := first | (simp; done) | (simp only [IHeap.size_push', IHeap.size_set']; omega) | omega) []
  clear hH
  refine FN.mono (rall_c wok (hat_inv xw Ho)) ?_
  rintro v h1 ⟨fr1, r, rfl, hr⟩
  have hz1 := fr1.size
  rw [slcH_len]
  generalize hU : allI w.has 0 = U at hr ⊢
  have g1 : ∀ i, i < H.size → h1.get i = H.get i := fun i hi => fr1.get i hi
  have go1 : ∀ i, i < h.size → h1.get i = h.get i := fun i hi => (g1 i (by omega)).trans (Ho i hi)
  have g10 := (g1 h.size (by omega)).trans H0
  simp (maxSteps := 1000000) (disch := first | (simp; done) | (simp only [IHeap.size_push', IHeap.size_set']; omega) | omega) [a0, a1, a2, hn, hd, one_slc, g10]
  have xa1 : a.at (h1.push (.row false 0 [.slice (adrH U r) U.length U.length])) p q := aat_inv xa (fun i hi => by have := go1 i hi; simp (maxSteps := 1000000) (disch := first | (simp; done) | (simp only [IHeap.size_push', IHeap.size_set']; omega) | omega) [this])
  refine FN.of (len_c aok xa1) ?_
  have hll : a.live = U.length := by rw [← hU]; exact sm.live
  simp (maxSteps := 1000000) (disch := first | (simp; done) | (simp only [IHeap.size_push', IHeap.size_set']; omega) | omega) [a0, a1, a2, hn, hd, one_slc, g10, hll]
  refine FN.of (size_c xa1) ?_
  have xw1 : w.at (h1.push (.row false 0 [.slice (adrH U r) U.length U.length])) pw rh fv := hat_inv xw (fun i hi => by have := go1 i hi; simp (maxSteps := 1000000) (disch := first | (simp; done) | (simp only [IHeap.size_push', IHeap.size_set']; omega) | omega) [this])
  have gw1 := xw1.gp
  have g11 := (g1 (h.size + 1) (by omega)).trans H1
  simp (maxSteps := 1000000) (disch := first | (simp; done) | (simp only [IHeap.size_push', IHeap.size_set']; omega) | omega) [a0, a1, a2, hn, hd, one_slc, g10, g11, gw1, sm.size]
  refine FN.ct (live_c aok xa1 i s) ?_
  intro h2 fr2
  have hz2 := fr2.size
  simp only [IHeap.size_push'] at hz2
  have g2 : ∀ i, i < h1.size → h2.get i = h1.get i := fun i hi => by rw [fr2.get i (by simp only [IHeap.size_push']; omega)]; simp (maxSteps := 1000000) (disch := first | (simp; done) | (simp only [IHeap.size_push', IHeap.size_set']; omega) | omega) []
  have g21 := (g2 (h.size + 1) (by omega)).trans g11
  have g20 := (g2 h.size (by omega)).trans g10
  have g23 : h2.get h1.size = some (.row false 0 [.slice (adrH U r) U.length U.length]) := by rw [fr2.get _ (by simp only [IHeap.size_push']; omega)]; simp (maxSteps := 1000000) (disch := first | (simp; done) | (simp only [IHeap.size_push', IHeap.size_set']; omega) | omega) []
  have go2 : ∀ i, i < h.size → h2.get i = h.get i := fun i hi => (g2 i (by omega)).trans (go1 i hi)
  simp (maxSteps := 1000000) (disch := first | (simp; done) | (simp only [IHeap.size_push', IHeap.size_set']; omega) | omega) [a0, a1, a2, hn, hd, one_slc, g20, g21]
  refine FN.ct (rlive_c wok (hat_inv xw go2) i s) ?_
  intro h3 fr3
  have hz3 := fr3.size
  have g3 : ∀ i, i < h2.size → h3.get i = h2.get i := fun i hi => fr3.get i hi
  have g30 := (g3 h.size (by omega)).trans g20
  rw [sm.lives i s hs]
  simp (maxSteps := 1000000) (disch := first | (simp; done) | (simp only [IHeap.size_push', IHeap.size_set']; omega) | omega) [a0, a1, a2, hn, hd, one_slc, g30]
  refine FN.of (all_c _) ?_
  simp (maxSteps := 1000000) (disch := first | (simp; done) | (simp only [IHeap.size_push', IHeap.size_set']; omega) | omega) [a0, a1, a2, hn, hd, one_slc, one_int, g30]
  have k1 : h2.get (h.size + 1) = (h1.push (.row false 0 [.slice (adrH U r) U.length U.length])).get (h.size + 1) := by rw [g21]; simp (maxSteps := 1000000) (disch := first | (simp; done) | (simp only [IHeap.size_push', IHeap.size_set']; omega) | omega) [g11]
  refine ⟨niC_pend [(1, 2), (7, 11), (18, 20)] (by kernel_rfl) ⟨rfl, rfl, k1, trivial⟩, ?_⟩
  refine FN.of (all_c _) ?_
  simp (maxSteps := 1000000) (disch := first | (simp; done) | (simp only [IHeap.size_push', IHeap.size_set']; omega) | omega) [a0, a1, a2, hn, hd, one_slc, one_int, g30]
  refine WPR.gen fun E H4 hE hH => ?_
  have E1 : E.get 1 = .pointer (some ⟨pw, 0, none⟩) := by rw [hE]; simp (maxSteps := 1000000) (disch := first | (simp; done) | (simp only [IHeap.size_push', IHeap.size_set']; omega) | omega) [hn, a1]
  have E3 : E.get 3 = .pointer (some ⟨h.size, 0, none⟩) := by rw [hE]; simp (maxSteps := 1000000) (disch := first | (simp; done) | (simp only [IHeap.size_push', IHeap.size_set']; omega) | omega) [hn]
  have E6 : E.get 6 = .pointer (some ⟨h.size + 2, 0, none⟩) := by rw [hE]; simp (maxSteps := 1000000) (disch := first | (simp; done) | (simp only [IHeap.size_push', IHeap.size_set']; omega) | omega) [hn]
  have E7 : E.get 7 = .pointer (some ⟨h1.size, 0, none⟩) := by rw [hE]; simp (maxSteps := 1000000) (disch := first | (simp; done) | (simp only [IHeap.size_push', IHeap.size_set']; omega) | omega) [hn]
  have E8 : E.get 8 = .pointer (some ⟨h3.size + 1, 0, none⟩) := by rw [hE]; simp (maxSteps := 1000000) (disch := first | (simp; done) | (simp only [IHeap.size_push', IHeap.size_set']; omega) | omega) [hn]
  have E45 : E.get 45 = .func (.func 27) #[] #[.pointer (some ⟨h3.size + 2, 0, none⟩)] := by rw [hE]; simp (maxSteps := 1000000) (disch := first | (simp; done) | (simp only [IHeap.size_push', IHeap.size_set']; omega) | omega) [hn]
  have En : E.n = 127 := by rw [hE]; simp (maxSteps := 1000000) (disch := first | (simp; done) | (simp only [IHeap.size_push', IHeap.size_set']; omega) | omega) [hn]
  have Ed : E.dfr = [] := by rw [hE]; simp (maxSteps := 1000000) (disch := first | (simp; done) | (simp only [IHeap.size_push', IHeap.size_set']; omega) | omega) [hd]
  have Gz : H4.size = h3.size + 3 := by rw [hH]; simp only [IHeap.size_set', IHeap.size_push']
  have Go4 : ∀ i, i < h3.size → H4.get i = h3.get i := fun i hi => by rw [hH]; simp (maxSteps := 1000000) (disch := first | (simp; done) | (simp only [IHeap.size_push', IHeap.size_set']; omega) | omega) []
  have G1 : H4.get (h3.size + 1) = some (.row false 0 [.int .i64 0]) := by rw [hH]; simp (maxSteps := 1000000) (disch := first | (simp; done) | (simp only [IHeap.size_push', IHeap.size_set']; omega) | omega) []
  have G2 : H4.get (h3.size + 2) = some (.row false 0 [.pointer (some ⟨p, 0, none⟩)]) := by rw [hH]; simp (maxSteps := 1000000) (disch := first | (simp; done) | (simp only [IHeap.size_push', IHeap.size_set']; omega) | omega) []
  clear hH hE hn hd a0 a1 a2
  have go3 : ∀ i, i < h.size → h3.get i = h.get i := fun i hi => (g3 i (by omega)).trans (go2 i hi)
  have g33 : h3.get h1.size = some (.row false 0 [.slice (adrH U r) U.length U.length]) := by rw [g3 _ (by omega)]; exact g23
  have gU : U ≠ [] → r < h3.size ∧ h3.get r = some (.row false 2 (hflat U)) := fun hc => by
    obtain ⟨r1, r2⟩ := hr hc
    have := IHeap.get_lt r2
    exact ⟨by omega, by rw [g3 _ (by omega), g2 _ this]; exact r2⟩
  refine WPR.intro2 (cs := #[.pointer (some ⟨h3.size + 2, 0, none⟩)]) (fs := #[]) rfl E45 (by simp) rfl ?_
  intro L Lp Lt LA LB Ls Ln
  refine FN.mono (iter_c (p := p) (q := q) (a := a) (Z := w.has.length) sm.size aok (fun k h' => SaJ h3.size h3 p w.has L k h') (fun _ => False) (fun k h' j => j.box) (fun k h' j => aat_inv xa (fun i hi => (j.old i (by omega)).trans (go3 i hi))) ?_ ?_ ?_ ?_) ?_
  · intro k h4 hk hz j
    have gl := j.gl
    refine RN.one mixed (E := E) (by rw [Gz]; exact gl) Lp Lt LA LB (by kernel_rfl) (by kernel_rfl) ?_
    intro rr rn rd rg
    have r3 := rg 3
    have r6 := rg 6
    have r7 := rg 7
    have r8 := rg 8
    rw [E3] at r3; rw [E6] at r6; rw [E7] at r7; rw [E8] at r8
    rw [En] at rn
    simp (maxSteps := 1000000) (disch := first | (simp; done) | (simp only [IHeap.size_push', IHeap.size_set']; omega) | omega) [rn, rd, r3, r6, r7, r8, assignQ, one_int, zerosC]
    have jz := j.size
    have hsz := sm.size
    have kl : k < w.has.length := by omega
    have hx : a.get k = w.has[k] := by rw [sm.get k]; simp [kl]
    have hp0 := sm.pos _ (List.getElem_mem kl)
    have hx0 : 0 < w.has[k] := by rw [hx] at hz; omega
    have hat := allI_at kl hx0
    rw [hU] at hat
    have hUn : U ≠ [] := fun h => by rw [h] at hat; simp at hat
    obtain ⟨gr1, gr2⟩ := gU hUn
    have ad : adrH U r = some ⟨r, 0, none⟩ := by simp [adrH, hUn]
    have hcl := (List.getElem?_eq_some_iff.1 hat).1
    have hcg : ¬ U.length ≤ (allI (w.has.take k) 0).length := Nat.not_le.2 hcl
    have hcl2 : ((allI (w.has.take k) 0).length : Int) < U.length := by omega
    have hs4 := hflat_slots hat
    have f0 : h4.get h.size = some (.row false 0 [.pointer (some ⟨p, 0, none⟩)]) := by rw [j.old _ (by omega)]; exact g30
    have f7 : h4.get h1.size = some (.row false 0 [.slice (some ⟨r, 0, none⟩) U.length U.length]) := by rw [j.old _ (by omega), g33, ad]
    have fr' : h4.get r = some (.row false 2 (hflat U)) := by rw [j.old _ gr1]; exact gr2
    have fc := j.cnt
    rw [hx]
    refine ⟨L, by rw [Gz]; simp (maxSteps := 1000000) (disch := first | (simp; done) | (simp only [IHeap.size_push', IHeap.size_set']; omega) | omega) [gl], Ls, ?_⟩
    have hUl := allI_len w.has 0
    rw [hU] at hUl
    have lv : a.lives k w.has[k] = true := by
      rw [sm.lives _ _ hp0]
      have : ¬ w.has[k] = 0 := by omega
      simp [RA.lives, kl, this]
    simp (maxSteps := 1000000) (disch := first | (simp; done) | (simp only [IHeap.size_push', IHeap.size_set']; omega) | omega) [rn, rd, r3, r6, r7, r8, Gz, fc, f0, f7, fr', hcl, hcl2, hs4, eq32, arr_mk]
    have xa5 : a.at ((h4.set (h3.size + 3 + 1) (.loop { L with state := .busy })).push (.row false 0 [.int .i64 k, .int .u64 w.has[k]])) p q := aat_inv xa (fun i hi => by
      have := (j.old i (by omega)).trans (go3 i hi)
      simp (maxSteps := 1000000) (disch := first | (simp; done) | (simp only [IHeap.size_push', IHeap.size_set']; omega) | omega) [this])
    refine FN.ct (live_c aok xa5 k w.has[k]) ?_
    intro h6 fr6
    have hz6 := fr6.size
    simp only [IHeap.size_push', IHeap.size_set'] at hz6
    have g6 : ∀ i, i < h4.size → i ≠ h3.size + 3 + 1 → h6.get i = h4.get i := fun i hi hne => by
      rw [fr6.get i (by simp only [IHeap.size_push', IHeap.size_set']; omega)]; simp (maxSteps := 1000000) (disch := first | (simp; done) | (simp only [IHeap.size_push', IHeap.size_set']; omega) | omega) [hne, Ne.symm hne]
    have g6l : h6.get (h3.size + 3 + 1) = some (.loop { L with state := .busy }) := by
      rw [fr6.get _ (by simp only [IHeap.size_push', IHeap.size_set']; omega)]; simp (maxSteps := 1000000) (disch := first | (simp; done) | (simp only [IHeap.size_push', IHeap.size_set']; omega) | omega) []
    have g6c := (g6 (h3.size + 1) (by omega) (by omega)).trans fc
    rw [lv]
    simp (maxSteps := 1000000) (disch := first | (simp; done) | (simp only [IHeap.size_push', IHeap.size_set']; omega) | omega) [rn, rd, r3, r6, r7, r8, Gz, g6c, bodyQ, one_int, g6l, wrap64, hcl, hcl2, hcg]
    have eL : ({ state := .ready, pending := none, fn := L.fn, tmps := L.tmps, params := L.params, assign := L.assign, body := L.body, defers := L.defers } : Loop) = L := by
      rw [← Ls, ← Ln]
    rw [eL]
    have hcn : (allI (w.has.take (k + 1)) 0).length = (allI (w.has.take k) 0).length + 1 := by
      rw [allI_take kl, if_pos hx0]; simp
    refine ⟨niC_pend [] (by kernel_rfl) trivial, ⟨by simp only [IHeap.size_set']; omega, fun i hi => ?_, ?_, ?_, ?_, ?_⟩⟩
    · have := (g6 i (by omega) (by omega)).trans (j.old i hi)
      simp (maxSteps := 1000000) (disch := first | (simp; done) | (simp only [IHeap.size_push', IHeap.size_set']; omega) | omega) [this]
    · rw [hcn]; simp (maxSteps := 1000000) (disch := first | (simp; done) | (simp only [IHeap.size_push', IHeap.size_set']; omega) | omega) []
    · have := (g6 (h3.size + 2) (by omega) (by omega)).trans j.box
      simp (maxSteps := 1000000) (disch := first | (simp; done) | (simp only [IHeap.size_push', IHeap.size_set']; omega) | omega) [this]
    · have := (g6 (h3.size + 3) (by omega) (by omega)).trans j.gd
      simp (maxSteps := 1000000) (disch := first | (simp; done) | (simp only [IHeap.size_push', IHeap.size_set']; omega) | omega) [this]
    · simp (maxSteps := 1000000) (disch := first | (simp; done) | (simp only [IHeap.size_push', IHeap.size_set']; omega) | omega) []
  · rintro k h4 hk hz j
    have hsz := sm.size
    have kl : k < w.has.length := by omega
    have hx : a.get k = w.has[k] := by rw [sm.get k]; simp [kl]
    have hcn : (allI (w.has.take (k + 1)) 0).length = (allI (w.has.take k) 0).length := by
      rw [allI_take kl, if_neg (by omega)]; simp
    exact ⟨j.size, j.old, by rw [hcn]; exact j.cnt, j.box, j.gd, j.gl⟩
  · rintro k h4 h5 j fr
    have jz := j.size
    refine ⟨by have := fr.size; omega, fun i hi => ?_, ?_, ?_, ?_, ?_⟩
    · rw [fr.get i (by omega)]; exact j.old i hi
    · rw [fr.get _ (by omega)]; exact j.cnt
    · rw [fr.get _ (by omega)]; exact j.box
    · rw [fr.get _ (by omega)]; exact j.gd
    · rw [fr.get _ (by omega)]; exact j.gl
  · refine ⟨by simp only [IHeap.size_push']; omega, fun i hi => ?_, ?_, ?_, ?_, ?_⟩
    · have := Go4 i hi
      simp (maxSteps := 1000000) (disch := first | (simp; done) | (simp only [IHeap.size_push', IHeap.size_set']; omega) | omega) [this]
    · simp (maxSteps := 1000000) (disch := first | (simp; done) | (simp only [IHeap.size_push', IHeap.size_set']; omega) | omega) [G1, allI]
    · simp (maxSteps := 1000000) (disch := first | (simp; done) | (simp only [IHeap.size_push', IHeap.size_set']; omega) | omega) [G2]
    · simp (maxSteps := 1000000) (disch := first | (simp; done) | (simp only [IHeap.size_push', IHeap.size_set']; omega) | omega) [Gz]
    · simp (maxSteps := 1000000) (disch := first | (simp; done) | (simp only [IHeap.size_push', IHeap.size_set']; omega) | omega) [Gz]
  · rintro v h5 hp
    simp only [Hid.ap_mk] at hp ⊢
    rcases hp with j | hp
    · have jz := j.size
      have gl := j.gl
      refine ⟨L, by rw [Gz]; exact gl, by rw [Ls]; simp, .normal, by rw [Ln]; rfl, ?_⟩
      simp only [Hid.ap_mk, outOf_normal]
      obtain ⟨E', hE', n', d', g'⟩ := XEnv.withd E (markOf H4.size :: E.dfr)
      rw [hE']
      have E1' := g' 1
      have E3' := g' 3
      have E6' := g' 6
      have E7' := g' 7
      have E8' := g' 8
      rw [E1] at E1'; rw [E3] at E3'; rw [E6] at E6'; rw [E7] at E7'; rw [E8] at E8'; rw [En] at n'; rw [Ed] at d'
      rw [Gz] at d' ⊢
      have jc := j.cnt
      rw [List.take_length, hU] at jc
      obtain ⟨h6, hh6⟩ : ∃ h6, h6 = h5.set (h3.size + 3 + 1) (.loop { L with state := .exhausted }) := ⟨_, rfl⟩
      rw [← hh6]
      have hz6 : h6.size = h5.size := by rw [hh6]; simp only [IHeap.size_set']
      have g6 : ∀ i, i < h3.size → h6.get i = h3.get i := fun i hi => by
        have := j.old i hi
        rw [hh6]; simp (maxSteps := 1000000) (disch := first | (simp; done) | (simp only [IHeap.size_push', IHeap.size_set']; omega) | omega) [this]
      have go6 : ∀ i, i < h.size → h6.get i = h.get i := fun i hi => (g6 i (by omega)).trans (go3 i hi)
      have g60 := (g6 h.size (by omega)).trans g30
      have g63 := (g6 h1.size (by omega)).trans g33
      have g6c : h6.get (h3.size + 1) = some (.row false 0 [.int .i64 U.length]) := by rw [hh6]; simp (maxSteps := 1000000) (disch := first | (simp; done) | (simp only [IHeap.size_push', IHeap.size_set']; omega) | omega) [jc]
      have g6d : h6.get (h3.size + 3) = some .defs := by have := j.gd; rw [hh6]; simp (maxSteps := 1000000) (disch := first | (simp; done) | (simp only [IHeap.size_push', IHeap.size_set']; omega) | omega) [this]
      have g62 : h6.get (h.size + 2) = some (.row false 0 [.bool false]) := by
        rw [g6 _ (by omega), g3 _ (by omega), g2 _ (by omega), g1 _ (by omega)]; exact H2
      clear hh6 j jc gl
      simp (maxSteps := 1000000) (disch := first | (simp; done) | (simp only [IHeap.size_push', IHeap.size_set']; omega) | omega) [E1', E3', E6', E7', E8', n', d']
      refine WPL.by_inv mixed (by kernel_rfl) (fun k e h' => ∃ i : Nat, i + k = w.has.length + 2 ∧ e.n = 127 ∧ e.dfr = [markOf (h3.size + 3)] ∧ e.get 1 = .pointer (some ⟨pw, 0, none⟩) ∧ e.get 3 = .pointer (some ⟨h.size, 0, none⟩) ∧ e.get 6 = .pointer (some ⟨h.size + 2, 0, none⟩) ∧ e.get 7 = .pointer (some ⟨h1.size, 0, none⟩) ∧ e.get 8 = .pointer (some ⟨h3.size + 1, 0, none⟩) ∧ e.get 10 = .int .i64 ((i : Int) - 1) ∧ h6.size ≤ h'.size ∧ ∀ i, i < h6.size → h'.get i = h6.get i) (w.has.length + 2) ?_ ?_
      · refine ⟨0, ?_⟩
        simp (maxSteps := 1000000) (disch := first | (simp; done) | (simp only [IHeap.size_push', IHeap.size_set']; omega) | omega) [E1', E3', E6', E7', E8', n', d']
      clear n' d' g' E1' E3' E6' E7' E8' hE' E'
      rintro k e h7 ⟨i', hi, hn, hd, e1, e3, e6, e7, e8, e10, hz7, g7⟩
      have xw7 := hat_inv xw (fun i hi => (g7 i (by omega)).trans (go6 i hi))
      have xa7 := aat_inv xa (fun i hi => (g7 i (by omega)).trans (go6 i hi))
      have gw7 := xw7.gp
      have gwh := xw7.gh
      have g70 := (g7 h.size (by omega)).trans g60
      cases k with
      | zero =>
        obtain rfl : i' = w.has.length + 2 := by omega
        have hlt : ¬ ((w.has.length : Int) + 2 - 1 ≤ w.has.length) := by omega
        have g7c := (g7 (h3.size + 1) (by omega)).trans g6c
        have g73 := (g7 h1.size (by omega)).trans g63
        have g72 := (g7 (h.size + 2) (by omega)).trans g62
        have g7d := (g7 (h3.size + 3) (by omega)).trans g6d
        have g7d' : (h7.set (h.size + 2) (.row false 0 [.bool true])).get (h3.size + 3) = some .defs := by simp (maxSteps := 1000000) (disch := first | (simp; done) | (simp only [IHeap.size_push', IHeap.size_set']; omega) | omega) [g7d]
        simp (maxSteps := 1000000) (disch := first | (simp; done) | (simp only [IHeap.size_push', IHeap.size_set']; omega) | omega) [e1, e3, e6, e7, e8, e10, hn, hd, gw7, hlt, g7c, g73, g72, one_bool, finD_one g7d']
        refine ⟨by simp only [IHeap.size_set']; omega, fun i hi => ?_⟩
        rw [IHeap.get_set_ne _ (by omega), IHeap.get_set_ne _ (by omega), g7 i (by omega)]; exact go6 i hi
      | succ k =>
        have hlt : ((i' : Int) - 1 ≤ w.has.length) := by omega
        simp (maxSteps := 1000000) (disch := first | (simp; done) | (simp only [IHeap.size_push', IHeap.size_set']; omega) | omega) [e1, e3, e6, e7, e8, e10, hn, hd, gw7, hlt, g70]
        refine FN.ct (at_c aok xa7 _) ?_
        intro h8 fr8
        have hz8 := fr8.size
        have g8 : ∀ i, i < h7.size → h8.get i = h7.get i := fun i hi => fr8.get i hi
        have gw8 := (g8 pw (IHeap.get_lt gw7)).trans gw7
        have gwh8 := (g8 rh (IHeap.get_lt gwh)).trans gwh
        have hpw8 := IHeap.get_lt gw8
        have hrh8 := IHeap.get_lt gwh8
        by_cases hz : a.get ((i' : Int) - 1) = 0
        · by_cases hneg : (i' : Int) - 1 < 0
          · obtain rfl : i' = 0 := by omega
            have hn0 : ¬ (0 : Int) ≤ ((0 : Nat) : Int) - 1 := by omega
            have hz' : a.get (-1) = 0 := by simpa using hz
            have e10' : e.get 10 = .int .i64 (-1) := by simpa using e10
            simp (maxSteps := 1000000) (disch := first | (simp; done) | (simp only [IHeap.size_push', IHeap.size_set']; omega) | omega) [e1, e3, e6, e7, e8, e10', hn, hd, AR.atV, hz', zerosC, one_int, eq32, arr_mk, wrap64]
            exact ⟨k, by omega, 1, by omega, by omega, by omega, fun i hi => by have := (g8 i (by omega)).trans (g7 i hi); simp (maxSteps := 1000000) (disch := first | (simp; done) | (simp only [IHeap.size_push', IHeap.size_set']; omega) | omega) [this]⟩
          · obtain ⟨I, hI⟩ : ∃ I : Nat, (i' : Int) - 1 = I := ⟨i' - 1, by omega⟩
            have hI0 : (0 : Int) ≤ I := by omega
            rw [hI] at hz hlt e10 ⊢
            by_cases hge : (I : Int) < w.has.length
            · have hge2 : I < w.has.length := by omega
              have gI := u64s_get (List.getElem?_eq_getElem hge2)
              have hx : w.has[I] = 0 := by have := sm.get I; rw [hz] at this; simpa [hge2] using this.symm
              rw [hx] at gI
              simp (maxSteps := 1000000) (disch := first | (simp; done) | (simp only [IHeap.size_push', IHeap.size_set']; omega) | omega) [e1, e3, e6, e7, e8, e10, hn, hd, AR.atV, hz, zerosC, one_int, eq32, arr_mk, wrap64, gw8, gwh8, hge, hge2, gI]
              exact ⟨k, by omega, i' + 1, by omega, by omega, by omega, fun i hi => by have := (g8 i (by omega)).trans (g7 i hi); simp (maxSteps := 1000000) (disch := first | (simp; done) | (simp only [IHeap.size_push', IHeap.size_set']; omega) | omega) [this]⟩
            · simp (maxSteps := 1000000) (disch := first | (simp; done) | (simp only [IHeap.size_push', IHeap.size_set']; omega) | omega) [e1, e3, e6, e7, e8, e10, hn, hd, AR.atV, hz, zerosC, one_int, eq32, arr_mk, wrap64, gw8, gwh8, hge]
              exact ⟨k, by omega, i' + 1, by omega, by omega, by omega, fun i hi => by have := (g8 i (by omega)).trans (g7 i hi); simp (maxSteps := 1000000) (disch := first | (simp; done) | (simp only [IHeap.size_push', IHeap.size_set']; omega) | omega) [this]⟩
        · obtain ⟨I, hI⟩ : ∃ I : Nat, (i' : Int) - 1 = I := ⟨i' - 1, by
            by_cases h : (i' : Int) - 1 < 0
            · exact absurd (by unfold AR.get; rw [if_neg (by omega)]) hz
            · omega⟩
          rw [hI] at hz hlt e10 ⊢
          have hx := sm.get I
          have hge2 : I < w.has.length := by
            by_cases h : I < w.has.length
            · exact h
            · rw [List.getD_eq_getElem?_getD, List.getElem?_eq_none (by omega)] at hx
              exact absurd hx hz
          have hge : (I : Int) < w.has.length := by omega
          have hx2 : a.get I = w.has[I] := by rw [hx]; simp [hge2]
          have hp0 := sm.pos _ (List.getElem_mem hge2)
          have hx0 : 0 < w.has[I] := by rw [hx2] at hz; omega
          have gI := u64s_get (List.getElem?_eq_getElem hge2)
          have lv : w.lives I w.has[I] = true := by
            have : ¬ w.has[I] = 0 := by omega
            simp [RA.lives, hge2, this]
          have hxn : ¬ w.has[I] = 0 := by omega
          simp (maxSteps := 1000000) (disch := first | (simp; done) | (simp only [IHeap.size_push', IHeap.size_set']; omega) | omega) [e1, e3, e6, e7, e8, e10, hn, hd, AR.atV, hx2, hxn, zerosC, one_int, eq32, arr_mk, wrap64, gw8, gwh8, hge, hge2, gI, hx0]
          refine FN.ct (rlive_c wok (hat_inv xw (fun i hi => by have := (g8 i (by omega)).trans ((g7 i (by omega)).trans (go6 i hi)); simp (maxSteps := 1000000) (disch := first | (simp; done) | (simp only [IHeap.size_push', IHeap.size_set']; omega) | omega) [this])) I w.has[I]) ?_
          intro h9 fr9
          rw [lv]
          simp (maxSteps := 1000000) (disch := first | (simp; done) | (simp only [IHeap.size_push', IHeap.size_set']; omega) | omega) [e1, e3, e6, e7, e8, e10, hn, hd, wrap64]
          have hz9 := fr9.size
          simp only [IHeap.size_push'] at hz9
          exact ⟨k, by omega, i' + 1, by omega, by omega, by omega, fun i hi => by
            have := (g8 i (by omega)).trans (g7 i hi)
            rw [fr9.get i (by simp only [IHeap.size_push']; omega)]
            simp (maxSteps := 1000000) (disch := first | (simp; done) | (simp only [IHeap.size_push', IHeap.size_set']; omega) | omega) [this]⟩
    · exact hp.elim
end Go.Proofs.Ytkecaobcchnilaa.Ideal
