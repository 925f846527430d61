import Derived.Test.YtkpbdhfaobmbpaaP43k
noncomputable section
open Go.Proofs
namespace Go.Proofs.Ytkpbdhfaobmbpaa.Ideal
open Go.RowKit
set_option linter.unusedSimpArgs false
set_option linter.unusedVariables false
set_option linter.unusedSectionVars false
set_option maxRecDepth 100000
set_option maxHeartbeats 4000000
attribute [-simp] IHeap.size_set IHeap.size_push
attribute [local simp ↓] Hid.ap_mk
attribute [local simp] scopeQ_normal scopeQ_ret scopeQ_exit WP_skip WP_label WP_exit WP_goto WP_ret WP_region WP_seq WP_cond WP_block WP_scope WP_loop WP_range thenQ_normal thenQ_ret thenQ_exit thenQ_goto loopQ_normal loopQ_ret loopQ_exit invQ_normal invQ_ret invQ_exit outOf_normal outOf_ret outOf_goto outOf_exit ev_tmp ev_const ev_func
  wops_nil wops_cons wantedE_none wantedE_some jgd_some wnx_eq niC_false wdo_move wdo_assign wdo_pick wdo_load wdo_store wdo_alloc wdo_box wdo_fieldAddr wdo_indexAddr wdo_field wdo_extract wdo_build wdo_buildSlice wdo_makeSlice wdo_binOp wdo_unOp wdo_makeFunc wdo_nilCheck wdo_callV wdo_len wdo_append wdo_copy wdo_delete wdo_max wdo_min wdo_convert jcvt_int
  xput_get put_n put_none put_dfr ibin finQ_n finQ_r finD_nil splice_one ires_nil ires_one ires_two ires_three ires1_tmp ires1_cell jcell_ptr rowLoad_row wrap64 wrapU64 wrapU8 wrapU16 wrapU32 callV_fn buildOf Instr.fill Value.cells Value.oneCell' kindOf slots_all splice_all IHeap.size_set' IHeap.size_push' IHeap.get_set_same IHeap.get_set_ne IHeap.get_pushed IHeap.get_push_ne IHeap.set_set IHeap.set_push IHeap.set_pushed IHeap.set_set3 getU_nil getU_same getU_ne jif_true jif_false pushH_eq setH_eq forceL_eq forceV_eq ibuildSlice
attribute [local simp] wdo_index jopt_some wdo_cutV
attribute [-simp] Value.oneCell'
attribute [local simp] one_int' one_slc' one_bool'
attribute [local simp high] wdo_str26
theorem nil_app {h : IHeap} {x : Value} (sr : srcOf h 4 x = some (0, [])) : iappend Try.prog h 23 23 (.slice none 0 0) x = some (.slice none 0 0, h) := by
  simp only [iappend, sl23, ze31, bt31, asrcOf, ni23', if_true, sr]
  simp
/-- Shots behind one's own. -/
theorem app_list {lo : Nat} {h : IHeap} {v : Value} {M W : List SH} {A : Option Addr} {c : Nat} (o : OwnS lo h v M) (y : ShS h (.slice A W.length c) W) (l4 : ∀ t ∈ W, t.xs.length ≤ 400) (hl : lo ≤ h.size) (hx : M.length + W.length ≤ 1000) :
    ∃ v' h', iappend Try.prog h 23 23 v (.slice A W.length c) = some (v', h') ∧ OwnS lo h' v' (M ++ W) ∧ (∀ i, i < lo → h'.get i = h.get i) ∧ h.size ≤ h'.size ∧ KB h h' := by
  obtain ⟨o, q⟩ := o
  have yo : ∀ t ∈ W, t.ok h := by
    obtain ⟨_, _, _, _, _, _, y6⟩ := id y
    exact y6
  rcases o with ⟨rfl, rfl⟩ | ⟨j, hj, rfl, hg⟩
  · by_cases hy : W = []
    · subst hy
      exact ⟨_, _, nil_app y.src, ⟨.inl ⟨rfl, rfl⟩, fun t ht => by simp at ht⟩, fun _ _ => rfl, Nat.le_refl _, KB.refl h⟩
    · have hl0 : W.length ≠ 0 := fun h => hy (List.eq_nil_of_length_eq_zero h)
      refine ⟨_, _, iapp_nil sl23 ze31 bt31 rfl (by omega) ni23' y.src (shc_one yo) hl0 (by simp only [List.length_nil] at hx; omega), ⟨.inr ⟨h.size, hl, rfl, IHeap.get_pushed _ rfl⟩, fun t ht => ⟨(yo t ht).keep (Keep.push _ _), l4 t ht⟩⟩, fun i hi => (Keep.push _ _).eq i (by omega), (Keep.push _ _).le, (Keep.push _ _).kb⟩
  · have hjs := IHeap.get_lt hg
    obtain ⟨h2, k, ap, r2, k2, z2, f2⟩ := iapp_any (P := Try.prog) (h := h) (t := 23) (t2 := 23) (i := j) (n := M.length) (m := W.length) (cs := shc M) (news := shc W) sl23 ze31 bt31 (by rfl) (by omega) ni23' y.src (shc_one yo) (shc_len W) (by omega) hg (shc_len M)
    have kb : KB h h2 := fun r ro z cs hz e => by
      have hr := IHeap.get_lt e
      rw [k2 r (by omega) (fun er => by
        subst er
        rw [hg] at e
        cases e
        rcases hz with h | h
        · cases h
        · omega)]
      exact e
    refine ⟨_, h2, ap, ⟨.inr ⟨k, by omega, ?_, ?_⟩, ?_⟩, fun i hi => k2 i (by omega) (by omega), z2, kb⟩
    · rw [List.length_append]
    · rw [r2, shc_app]
    · intro t ht
      rcases List.mem_append.1 ht with ht | ht
      · exact ⟨(q t ht).1.kb kb, (q t ht).2⟩
      · exact ⟨(yo t ht).kb kb, l4 t ht⟩
theorem OwnS.low {lo l2 : Nat} {h : IHeap} {v : Value} {T : List SH} (x : OwnS l2 h v T) (hl : lo ≤ l2) : OwnS lo h v T := ⟨x.1.imp id fun ⟨j, h1, h2, h3⟩ => ⟨j, by omega, h2, h3⟩, x.2⟩
theorem OwnT.low {lo l2 : Nat} {h : IHeap} {T : List SH} (x : OwnT l2 h T) (hl : lo ≤ l2) : OwnT lo h T := fun t ht => (x t ht).low hl
theorem OwnT.kb {lo : Nat} {h h' : IHeap} {T : List SH} (x : OwnT lo h T) (k : KB h h') : OwnT lo h' T := fun t ht => (x t ht).kb k
/-- Shots whose bytes are written over. -/
structure Lp (h0 h : IHeap) (v : Value) (N : List SH) : Prop where
  kp : Keep h0 h
  r : (v = .slice none 0 0 ∧ N = []) ∨ ∃ j, h0.size ≤ j ∧ v = .slice (some ⟨j, 0, none⟩) N.length N.length ∧ h.get j = some (.row false 4 (shc N))
  o : ∀ t ∈ N, ∃ ys, ys.length = t.xs.length ∧ OwnB h0.size h t.sl ys
theorem Lp.push {h0 h : IHeap} {v : Value} {N : List SH} (x : Lp h0 h v N) (o : IObj) : Lp h0 (h.push o) v N := by
  refine ⟨x.kp.push' o, x.r.imp id fun ⟨j, h1, h2, h3⟩ => ⟨j, h1, h2, (Keep.push h o).get h3⟩, fun t ht => ?_⟩
  obtain ⟨ys, h1, h2⟩ := x.o t ht
  exact ⟨ys, h1, h2.keep (Keep.push h o)⟩
theorem Lp.poke {h0 h : IHeap} {v : Value} {N : List SH} (x : Lp h0 h v N) {r : Nat} {ys zs : List Nat} (hr : h0.size ≤ r) (hg : h.get r = some (.row false 1 (bys ys))) (hl : zs.length = ys.length) : Lp h0 (h.set r (.row false 1 (bys zs))) v N := by
  have e2' : ∀ us, (IObj.row false 1 (bys ys)) = .row false 1 (bys us) → ys.length = us.length := fun us e => by
    have := congrArg (fun o => match o with | IObj.row _ _ cs => cs.length | _ => 0) e
    simp only [bys_len] at this
    exact this
  refine ⟨x.kp.set _ hr, ?_, ?_⟩
  · rcases x.r with h1 | ⟨j, h1, h2, h3⟩
    · exact .inl h1
    · refine .inr ⟨j, h1, h2, ?_⟩
      rw [IHeap.get_set_ne _ (fun e => by
        subst e
        rw [hg] at h3
        cases h3)]
      exact h3
  · intro t ht
    obtain ⟨us, h1, h2⟩ := x.o t ht
    rcases h2 with ⟨h2, rfl⟩ | ⟨j, hj, h2, h3⟩
    · exact ⟨[], h1, .inl ⟨h2, rfl⟩⟩
    · by_cases e : r = j
      · subst e
        rw [hg] at h3
        have e3 := e2' us (Option.some.inj h3)
        refine ⟨zs, by omega, .inr ⟨r, hj, ?_, IHeap.get_set_same _ (IHeap.get_lt hg)⟩⟩
        rw [h2, hl, e3]
      · exact ⟨us, h1, .inr ⟨j, hj, h2, by rw [IHeap.get_set_ne _ e]; exact h3⟩⟩
theorem writes_c {h : IHeap} {va vb : Value} {S T : List SH} {most lo hi : Nat} {high : Bool} (x : ShS h va S) (y : ShS h vb T) (hS : S.length ≤ 9223372036854775807) (hT : T.length ≤ 9223372036854775807) (hh : ∀ s ∈ S ++ T, s.had < 4294967296) (hm : most < 4294967296) (bl : lo < 18446744073709551616) (bh : hi < 18446744073709551616) : FN Try.prog 5 #[.int .u32 most, .bool high, va, vb, .int .u64 lo, .int .u64 hi] h (Q := ⟨fun v _ => v = .bool true⟩) := by
  obtain ⟨A, c, rfl, _⟩ := id x
  obtain ⟨B, d, rfl, _⟩ := id y
  refine FN.enter mixed (fn := Try.f5) (by kernel_rfl) rfl (by kernel_rfl) fun e hn hg hd => ?_
  simp [Try.f5] at hn
  have a0 : e.get 0 = .int .u32 most := hg 0 (by omega)
  have a1 : e.get 1 = .bool high := hg 1 (by omega)
  have a2 : e.get 2 = .slice A S.length c := hg 2 (by omega)
  have a3 : e.get 3 = .slice B T.length d := hg 3 (by omega)
  have a4 : e.get 4 = .int .u64 lo := hg 4 (by omega)
  have a5 : e.get 5 = .int .u64 hi := hg 5 (by omega)
  clear hg
  simp (maxSteps := 1000000) (disch := first | (simp; done) | (simp only [IHeap.size_push', IHeap.size_set']; omega) | omega) [a0, a1, a2, a3, a4, a5, hn, hd]
  refine FN.mono (great_c x hS) ?_
  rintro v h1 ⟨b1, rfl, g1, k1⟩
  cases b1 with
  | true =>
    simp (maxSteps := 1000000) (disch := first | (simp; done) | (simp only [IHeap.size_push', IHeap.size_set']; omega) | omega) [a0, a1, a2, a3, a4, a5, hn, hd, undef]
    refine FN.of known_c ?_
    simp (maxSteps := 1000000) (disch := first | (simp; done) | (simp only [IHeap.size_push', IHeap.size_set']; omega) | omega) [a0, a1, a2, a3, a4, a5, hn, hd, undef]
  | false =>
    simp (maxSteps := 1000000) (disch := first | (simp; done) | (simp only [IHeap.size_push', IHeap.size_set']; omega) | omega) [a0, a1, a2, a3, a4, a5, hn, hd, undef]
    refine FN.mono (great_c (y.keep k1) hT) ?_
    rintro v h2 ⟨b2, rfl, g2, k2⟩
    cases b2 with
    | true =>
      simp (maxSteps := 1000000) (disch := first | (simp; done) | (simp only [IHeap.size_push', IHeap.size_set']; omega) | omega) [a0, a1, a2, a3, a4, a5, hn, hd, undef]
      refine FN.of known_c ?_
      simp (maxSteps := 1000000) (disch := first | (simp; done) | (simp only [IHeap.size_push', IHeap.size_set']; omega) | omega) [a0, a1, a2, a3, a4, a5, hn, hd, undef]
    | false =>
      simp (maxSteps := 1000000) (disch := first | (simp; done) | (simp only [IHeap.size_push', IHeap.size_set']; omega) | omega) [a0, a1, a2, a3, a4, a5, hn, hd, undef]
      obtain ⟨gs, gs4⟩ := g1 rfl
      obtain ⟨gt, gt4⟩ := g2 rfl
      have K2 := k1.trans k2
      refine FN.mono (Q := ⟨_⟩) (write_c (x.keep K2) gs gs4 (fun s hs => hh s (by simp [hs])) hm) ?_
      rintro v1 h3 ⟨sl1, rfl, ob1, k3⟩
      have K3 := K2.trans k3
      obtain ⟨wr, hwr⟩ : ∃ w, wres most high S = w := ⟨_, rfl⟩
      rw [hwr] at ob1 ⊢
      simp (maxSteps := 1000000) (disch := first | (simp; done) | (simp only [IHeap.size_push', IHeap.size_set']; omega) | omega) [a0, a1, a2, a3, a4, a5, hn, hd, undef]
      refine FN.mono (Q := ⟨_⟩) (rwrite_c (x.keep K3) gs gs4 (fun s hs => hh s (by simp [hs])) hm) ?_
      rintro v2 h4 ⟨sl2, rfl, ob2, k4⟩
      have K4 := K3.trans k4
      rw [hwr] at ob2 ⊢
      obtain ⟨c1, q1, t1⟩ := str_slb (ob1.keep k4).slb
      obtain ⟨c2, q2, t2⟩ := str_slb ob2.slb
      simp (maxSteps := 1000000) (disch := first | (simp; done) | (simp only [IHeap.size_push', IHeap.size_set']; omega) | omega) [a0, a1, a2, a3, a4, a5, hn, hd, undef, t1, t2, beqS]
      refine FN.mono (Q := ⟨_⟩) (merge2_c (x.keep K4) (y.keep K4) gs gt (fun s hs => (List.mem_append.1 hs).elim (gs4 s) (gt4 s))) ?_
      rintro vm h5 ⟨M, om, tm, em, k5⟩
      have K5 := K4.trans k5
      simp (maxSteps := 1000000) (disch := first | (simp; done) | (simp only [IHeap.size_push', IHeap.size_set']; omega) | omega) [a0, a1, a2, a3, a4, a5, hn, hd, undef]
      refine FN.mono (Q := ⟨_⟩) (window2_c (x.keep K5) (by omega) gs4) ?_
      rintro vw h6 ⟨W, ow, tw, ew, k6⟩
      have K6 := K5.trans k6
      simp (maxSteps := 1000000) (disch := first | (simp; done) | (simp only [IHeap.size_push', IHeap.size_set']; omega) | omega) [a0, a1, a2, a3, a4, a5, hn, hd, undef]
      refine FN.mono (Q := ⟨_⟩) (rmerge_c _ (x.keep K6) (y.keep K6) (Nat.le_refl _) (by omega)) ?_
      rintro vr h7 ⟨xr, k7⟩
      have K7 := K6.trans k7
      simp (maxSteps := 1000000) (disch := first | (simp; done) | (simp only [IHeap.size_push', IHeap.size_set']; omega) | omega) [a0, a1, a2, a3, a4, a5, hn, hd, undef]
      have ml : M.length = S.length + T.length := by
        rw [ct_len em.symm, mg_len _ _ _ (Nat.le_refl _)]
      have wl : W.length ≤ S.length := by
        rw [ct_len ew.symm]
        exact List.length_filter_le _ _
      refine FN.of (same_c (om.keep (k6.trans k7)).sh xr (by omega) em) ?_
      simp (maxSteps := 1000000) (disch := first | (simp; done) | (simp only [IHeap.size_push', IHeap.size_set']; omega) | omega) [a0, a1, a2, a3, a4, a5, hn, hd, undef]
      refine FN.mono (Q := ⟨_⟩) (rwindow_c (lo := lo) (hi := hi) (x.keep K7) (by omega) gs4) ?_
      rintro vs h8 ⟨os, k8⟩
      have K8 := K7.trans k8
      simp (maxSteps := 1000000) (disch := first | (simp; done) | (simp only [IHeap.size_push', IHeap.size_set']; omega) | omega) [a0, a1, a2, a3, a4, a5, hn, hd, undef]
      refine FN.of (same_c (ow.keep (k7.trans k8)).sh os.sh (by omega) ew) ?_
      obtain ⟨Aw, cw, rfl, _⟩ := id ow.sh
      have z4 := K4.le
      have z5 := K5.le
      have z8 := K8.le
      obtain ⟨vN, h9, ap, oN, f9, z9, kb9⟩ := app_list ((om.keep ((k6.trans k7).trans k8)).low (lo := h.size) z4) ((ow.keep (k7.trans k8)).sh) (fun t ht => (ow.2 t ht).2) z8 (by omega)
      have K9 : Keep h h9 := ⟨by omega, fun i hi => (f9 i hi).trans (K8.eq i hi)⟩
      have tN : OwnT h.size h9 (M ++ W) := fun t ht => by
        rcases List.mem_append.1 ht with ht | ht
        · exact ((tm t ht).low z4).kb (((k6.trans k7).trans k8).kb.trans kb9)
        · exact ((tw t ht).low z5).kb ((k7.trans k8).kb.trans kb9)
      have NL : (M ++ W).length ≤ 200 := by
        rw [List.length_append]
        omega
      obtain ⟨N, hN⟩ : ∃ N, M ++ W = N := ⟨_, rfl⟩
      rw [hN] at oN tN NL
      have lp : Lp h h9 vN N := ⟨K9, oN.1, fun t ht => ⟨t.xs, rfl, tN t ht⟩⟩
      have nb : ∀ t ∈ N, t.sec < 4294967296 ∧ t.micro < 4294967296 ∧ t.xs.length ≤ 400 := fun t ht => ⟨(oN.2 t ht).1.s1, (oN.2 t ht).1.m1, (oN.2 t ht).2⟩
      obtain ⟨An, cn, rfl, _⟩ := id oN.sh
      simp (maxSteps := 1000000) (disch := first | (simp; done) | (simp only [IHeap.size_push', IHeap.size_set']; omega) | omega) [a0, a1, a2, a3, a4, a5, hn, hd, undef, ap]
      refine WPL.by_inv mixed (by kernel_rfl) (fun k e h' => ∃ (j : Nat), j + k = N.length ∧ e.n = 113 ∧ e.dfr = [] ∧ e.get 2 = .slice A S.length c ∧ e.get 3 = .slice B T.length d ∧ e.get 77 = .slice An N.length cn ∧ e.get 78 = .int .i64 N.length ∧ e.get 79 = .int .i64 j ∧ Lp h h' (.slice An N.length cn) N) N.length ?_ ?_
      · refine ⟨0, ?_⟩
        simp (maxSteps := 1000000) (disch := first | (simp; done) | (simp only [IHeap.size_push', IHeap.size_set']; omega) | omega) [a0, a1, a2, a3, a4, a5, hn, hd]
        exact lp
      clear hn hd a0 a1 a2 a3 a4 a5 e
      rintro k e g1 ⟨j, hj, hn, hd, a2, a3, a77, a78, a79, lq⟩
      cases k with
      | zero =>
        obtain rfl : j = N.length := by omega
        simp (maxSteps := 1000000) (disch := first | (simp; done) | (simp only [IHeap.size_push', IHeap.size_set']; omega) | omega) [a2, a3, a77, a78, a79, hn, hd]
        have K1 := lq.kp
        refine FN.mono (Q := ⟨_⟩) (merge2_c (x.keep K1) (y.keep K1) gs gt (fun s hs => (List.mem_append.1 hs).elim (gs4 s) (gt4 s))) ?_
        rintro vm g2 ⟨M2, om2, tm2, em2, n2⟩
        simp (maxSteps := 1000000) (disch := first | (simp; done) | (simp only [IHeap.size_push', IHeap.size_set']; omega) | omega) [a2, a3, a77, a78, a79, hn, hd]
        refine FN.mono (Q := ⟨_⟩) (rmerge_c _ (x.keep (K1.trans n2)) (y.keep (K1.trans n2)) (Nat.le_refl _) (by omega)) ?_
        rintro vr g3 ⟨xr2, n3⟩
        have ml2 : M2.length = S.length + T.length := by
          rw [ct_len em2.symm, mg_len _ _ _ (Nat.le_refl _)]
        simp (maxSteps := 1000000) (disch := first | (simp; done) | (simp only [IHeap.size_push', IHeap.size_set']; omega) | omega) [a2, a3, a77, a78, a79, hn, hd]
        refine FN.of (same_c (om2.keep n3).sh xr2 (by omega) em2) ?_
        simp (maxSteps := 1000000) (disch := first | (simp; done) | (simp only [IHeap.size_push', IHeap.size_set']; omega) | omega) [a2, a3, a77, a78, a79, hn, hd]
        refine FN.of known_c ?_
        simp (maxSteps := 1000000) (disch := first | (simp; done) | (simp only [IHeap.size_push', IHeap.size_set']; omega) | omega) [a2, a3, a77, a78, a79, hn, hd]
      | succ k =>
        have j2 : j < N.length := by omega
        have j1 : (j : Int) < N.length := by omega
        obtain ⟨s, es⟩ : ∃ s, N[j] = s := ⟨_, rfl⟩
        have sm : s ∈ N := es ▸ List.getElem_mem j2
        obtain ⟨s1, m1, l4⟩ := nb s sm
        have hs := shc_at N j j2
        rw [es] at hs
        obtain ⟨J, rfl, hJ⟩ : ∃ J, An = some ⟨J, 0, none⟩ ∧ g1.get J = some (.row false 4 (shc N)) := by
          rcases lq.r with ⟨_, e⟩ | ⟨J, _, e, hg⟩
          · rw [e] at j2
            simp at j2
          · cases e
            exact ⟨J, rfl, hg⟩
        obtain ⟨ys, yl, oy⟩ := lq.o s sm
        have ok1 : SH.ok { s with xs := ys } g1 := ⟨oy.slb, s1, m1⟩
        obtain ⟨D, d1, eb, _⟩ := id ok1.b
        dsimp only at eb
        have tc := time_c (ok1.keep (Keep.push g1 (.row false 0 s.cells)))
        have tr := rtime_c (ok1.keep ((Keep.push g1 (.row false 0 s.cells)).push' (.row false 0 s.cells)))
        have bx : ((g1.push (.row false 0 s.cells)).push (.row false 0 s.cells)).get g1.size = some (.row false 0 s.cells) := (Keep.push _ _).get (IHeap.get_pushed _ rfl)
        have bx0 : (g1.push (.row false 0 s.cells)).get g1.size = some (.row false 0 s.cells) := IHeap.get_pushed _ rfl
        have lq3 := ((lq.push (.row false 0 s.cells)).push (.row false 0 s.cells)).push (.row false 0 s.cells)
        have bx3 : (((g1.push (.row false 0 s.cells)).push (.row false 0 s.cells)).push (.row false 0 s.cells)).get g1.size = some (.row false 0 s.cells) := (Keep.push _ _).get bx
        simp only [SH.val, SH.cells, eb] at tc tr bx bx0 lq3 bx3
        simp (maxSteps := 1000000) (disch := first | (simp; done) | (simp only [IHeap.size_push', IHeap.size_set']; omega) | omega) [a2, a3, a77, a78, a79, hn, hd, j1, j2, hJ, hs, SH.cells, eb]
        refine FN.of tc ?_
        simp (maxSteps := 1000000) (disch := first | (simp; done) | (simp only [IHeap.size_push', IHeap.size_set']; omega) | omega) [a2, a3, a77, a78, a79, hn, hd, j1, j2, hJ, hs, SH.cells, eb, bx]
        refine FN.of tr ?_
        simp (maxSteps := 1000000) (disch := first | (simp; done) | (simp only [IHeap.size_push', IHeap.size_set']; omega) | omega) [a2, a3, a77, a78, a79, hn, hd, j1, j2, hJ, hs, SH.cells, eb, bx, SH.time]
        refine ⟨niC_pend [(1, 2)] (by kernel_rfl) ⟨bx.trans bx0.symm, trivial⟩, ?_⟩
        refine WPL.by_inv mixed (by kernel_rfl) (fun k2 e' h' => ∃ (i : Nat), i + k2 = ys.length ∧ e'.n = 113 ∧ e'.dfr = [] ∧ e'.get 2 = .slice A S.length c ∧ e'.get 3 = .slice B T.length d ∧ e'.get 20 = .pointer (some ⟨g1.size, 0, none⟩) ∧ e'.get 77 = .slice (some ⟨J, 0, none⟩) N.length cn ∧ e'.get 78 = .int .i64 N.length ∧ e'.get 79 = .int .i64 j ∧ e'.get 90 = .int .i64 ys.length ∧ e'.get 91 = .int .i64 i ∧ Lp h h' (.slice (some ⟨J, 0, none⟩) N.length cn) N ∧ h'.get g1.size = some (.row false 0 [.int .u32 s.sec, .int .u32 s.micro, .int .u32 s.had, .slice D ys.length d1])) ys.length ?_ ?_
        · refine ⟨0, ?_⟩
          simp (maxSteps := 1000000) (disch := first | (simp; done) | (simp only [IHeap.size_push', IHeap.size_set']; omega) | omega) [a2, a3, a77, a78, a79, hn, hd]
          exact lq3
        clear hn hd a2 a3 a77 a78 a79 e
        rintro k2 e g2 ⟨i, hi, hn, hd, a2, a3, a20, a77, a78, a79, a90, a91, lq4, bx4⟩
        cases k2 with
        | zero =>
          obtain rfl : i = ys.length := by omega
          simp (maxSteps := 1000000) (disch := first | (simp; done) | (simp only [IHeap.size_push', IHeap.size_set']; omega) | omega) [a2, a3, a20, a77, a78, a79, a90, a91, hn, hd]
          exact ⟨k, by omega, j + 1, by omega, by omega, lq4⟩
        | succ k2 =>
          have i2 : i < ys.length := by omega
          have i1 : (i : Int) < ys.length := by omega
          obtain ⟨zs, zl, oz⟩ := lq4.o s sm
          obtain ⟨r, rfl, hr, hg⟩ : ∃ r, D = some ⟨r, 0, none⟩ ∧ h.size ≤ r ∧ g2.get r = some (.row false 1 (bys zs)) := by
            rcases oz with ⟨_, e⟩ | ⟨r, hr, e, hg⟩
            · rw [e] at zl
              rw [← zl] at yl
              simp at yl
              rw [yl] at i2
              simp at i2
            · rw [eb] at e
              simp only [Value.slice.injEq] at e
              exact ⟨r, e.1, hr, hg⟩
          have i3 : i < zs.length := by omega
          have i4 : i + 1 ≤ zs.length := by omega
          obtain ⟨z, ez⟩ : ∃ z, zs[i] = z := ⟨_, rfl⟩
          have bz : (bys zs)[i]? = some (.int .u8 (z : Nat)) := by
            simp [bys, i3, ez]
          have bz' : ∀ hh, (bys zs)[i]'hh = .int .u8 (z : Nat) := fun hh => by
            simp [bys, ez]
          obtain ⟨w, ew⟩ : ∃ w : Nat, w = (z + 1) % 256 := ⟨_, rfl⟩
          have cw : IntKind.u8.wrap ((z : Int) + 1) = (w : Nat) := by
            rw [ew]
            simp [IntKind.wrap, IntKind.signed, IntKind.bits]
          have sp : splice (bys zs) i [.int .u8 (w : Nat)] = bys (zs.set i w) := by
            rw [splice_one _ (by rw [bys_len]; exact i3), bys_set]
          have lq5 := lq4.poke (zs := zs.set i w) hr hg (by simp)
          have rj : r ≠ g1.size := fun e => by
            rw [e, bx4] at hg
            cases hg
          have bx5 : (g2.set r (.row false 1 (bys (zs.set i w)))).get g1.size = _ := (IHeap.get_set_ne _ rj).trans bx4
          simp (maxSteps := 1000000) (disch := first | (simp; done) | (simp only [IHeap.size_push', IHeap.size_set']; omega) | omega) [a2, a3, a20, a77, a78, a79, a90, a91, hn, hd, i1, i2, bx4, hg, bz, bz', cw, sp, bys_len, i3, i4, -splice_one]
          exact ⟨k2, by omega, i + 1, by omega, by omega, lq5⟩
end Go.Proofs.Ytkpbdhfaobmbpaa.Ideal
