import Derived.Test.YtkpbdhfaobmbpaaP43y
import Derived.Test.YtkpbdhfaobmbpaaP43u
noncomputable section
open Go.Proofs
namespace Go.Proofs.Ytkpbdhfaobmbpaa.Ideal
open Go.RowKit
set_option linter.unusedSimpArgs false
set_option linter.unusedVariables false
set_option linter.unusedSectionVars false
set_option maxRecDepth 100000
set_option maxHeartbeats 4000000
theorem wres_cases (most : Nat) (high : Bool) (S : List SH) : ((wres most high S).2 ≠ 0 ∧ (wres most high S).1 = []) ∨ (1 ≤ most ∧ most ≤ 65535 ∧ (∀ s ∈ S, badS s = false) ∧ wres most high S = (baseL high most ++ S.flatMap (recL high most), 0)) := by
  unfold wres
  by_cases c1 : most = 0 ∨ 65535 < most
  · rw [if_pos c1]
    exact .inl ⟨by decide, rfl⟩
  · rw [if_neg c1]
    by_cases c2 : S.any badS = true
    · rw [if_pos c2]
      exact .inl ⟨by decide, rfl⟩
    · rw [if_neg c2]
      refine .inr ⟨by omega, by omega, fun s hs => ?_, rfl⟩
      cases hb : badS s with
      | false => rfl
      | true => exact absurd (List.any_eq_true.2 ⟨s, hs, hb⟩) c2
/-- A place for a shot. -/
def Z0 : SH := ⟨0, 0, 0, [], .slice none 0 0⟩
theorem shc_rep (n : Nat) : zeros #[Value.int .u32 0, Value.int .u32 0, Value.int .u32 0, Value.slice none 0 0] n = shc (List.replicate n Z0) := by
  induction n with
  | zero => rfl
  | succ n ih =>
    rw [List.replicate_succ, shc_cons, ← ih]
    rfl
theorem splice_shc {T G : List SH} {s z : SH} : splice (shc (T ++ z :: G)) (T.length * 4) s.cells = shc (T ++ s :: G) := by
  unfold splice
  rw [shc_app, shc_app, shc_cons, shc_cons, List.take_left' (shc_len T), show s.cells.length = 4 from rfl, ← List.append_assoc, List.drop_left' (by rw [List.length_append, shc_len]; rfl), List.append_assoc]
attribute [-simp] IHeap.size_set IHeap.size_push
attribute [local simp ↓] Hid.ap_mk
attribute [local simp] scopeQ_normal scopeQ_ret scopeQ_exit WP_skip WP_label WP_exit WP_goto WP_ret WP_region WP_seq WP_cond WP_block WP_scope WP_loop WP_range thenQ_normal thenQ_ret thenQ_exit thenQ_goto loopQ_normal loopQ_ret loopQ_exit invQ_normal invQ_ret invQ_exit outOf_normal outOf_ret outOf_goto outOf_exit ev_tmp ev_const ev_func
  wops_nil wops_cons wantedE_none wantedE_some jgd_some wnx_eq niC_false wdo_move wdo_assign wdo_pick wdo_load wdo_store wdo_alloc wdo_box wdo_fieldAddr wdo_indexAddr wdo_field wdo_extract wdo_build wdo_buildSlice wdo_makeSlice wdo_binOp wdo_unOp wdo_makeFunc wdo_nilCheck wdo_callV wdo_len wdo_append wdo_copy wdo_delete wdo_max wdo_min wdo_convert jcvt_int
  xput_get put_n put_none put_dfr ibin finQ_n finQ_r finD_nil splice_one ires_nil ires_one ires_two ires_three ires1_tmp ires1_cell jcell_ptr rowLoad_row wrap64 wrapU64 wrapU8 wrapU16 wrapU32 callV_fn buildOf Instr.fill Value.cells Value.oneCell' kindOf slots_all splice_all IHeap.size_set' IHeap.size_push' IHeap.get_set_same IHeap.get_set_ne IHeap.get_pushed IHeap.get_push_ne IHeap.set_set IHeap.set_push IHeap.set_pushed IHeap.set_set3 getU_nil getU_same getU_ne jif_true jif_false pushH_eq setH_eq forceL_eq forceV_eq ibuildSlice
attribute [local simp high] wdo_str26
attribute [local simp] wdo_index jopt_some wdo_toArr wdo_cut26
attribute [-simp] Value.oneCell'
attribute [local simp] one_int' one_slc' one_bool' one_func' one_nilF'
/-- The law's round: a bytes are fed. -/
def BkI (high : Bool) (most R st : Nat) (Hb : IHeap) (S : List SH) (bs : List Nat) (bv wv : Value) (k : Nat) (e : XEnv) (h' : IHeap) : Prop :=
  ∃ (a : Nat) (V V' U : List SH) (bg : Bool) (w : Value), k = bs.length - a ∧ S = V ++ U ∧ V'.map SH.ct = V.map (fun s => (cutS most s).ct) ∧ e.n = 112 ∧ e.dfr = [] ∧ e.get 0 = .int .u32 most ∧ e.get 9 = bv ∧ e.get 11 = wv ∧ e.get 14 = .pointer (some ⟨R, 0, none⟩) ∧ e.get 15 = w ∧ e.get 16 = .int .i64 st ∧ e.get 17 = .int .i64 a ∧
    OwnS Hb.size h' w V' ∧ RdS high most R (bs.drop a) U bg h' ∧ KR R Hb h'
theorem mk_shots {h : IHeap} (n : Nat) (hn : n ≤ 60) : imakeSlice Try.prog h 23 (.int .i64 n) (.int .i64 n) = some (.slice (some ⟨h.size, 0, none⟩) n n, h.push (.row false 4 (shc (List.replicate n Z0))), .alloc) := by
  have h2 : (0 : Int) ≤ n := by omega
  have h3 : (n : Int) < 9223372036854775808 := by omega
  have h4 : (n : Int) ≤ 140737488355328 := by omega
  rw [← shc_rep]
  unfold imakeSlice
  simp [h2, h3, h4]
  omega
theorem back_c {h : IHeap} {va : Value} {S : List SH} {most part : Nat} {high : Bool} (x : ShS h va S) (hS : S.length ≤ 9223372036854775807) (hh : ∀ s ∈ S, s.had < 4294967296) (hm : most < 4294967296) (hp : part < 256) : FN Try.prog 3 #[.int .u32 most, .bool high, va, .int .u8 part] h (Q := ⟨fun v _ => v = .bool true⟩) := by
  obtain ⟨A, c, rfl, _⟩ := id x
  refine FN.enter mixed (fn := Try.f3) (by kernel_rfl) rfl (by kernel_rfl) fun e hn hg hd => ?_
  simp [Try.f3] at hn
  have a0 : e.get 0 = .int .u32 most := hg 0 (by omega)
  have a1 : e.get 1 = .bool high := hg 1 (by omega)
  have a2 : e.get 2 = .slice A S.length c := hg 2 (by omega)
  have a3 : e.get 3 = .int .u8 part := hg 3 (by omega)
  clear hg
  simp (maxSteps := 1000000) (disch := first | (simp; done) | (simp only [IHeap.size_push', IHeap.size_set']; omega) | omega) [a0, a1, a2, a3, hn, hd]
  refine FN.mono (great_c x hS) ?_
  rintro v h1 ⟨b1, rfl, g1, k1⟩
  cases b1 with
  | true =>
    simp (maxSteps := 1000000) (disch := first | (simp; done) | (simp only [IHeap.size_push', IHeap.size_set']; omega) | omega) [a0, a1, a2, a3, hn, hd, undef]
    refine FN.of known_c ?_
    simp (maxSteps := 1000000) (disch := first | (simp; done) | (simp only [IHeap.size_push', IHeap.size_set']; omega) | omega) [a0, a1, a2, a3, hn, hd, undef]
  | false =>
    simp (maxSteps := 1000000) (disch := first | (simp; done) | (simp only [IHeap.size_push', IHeap.size_set']; omega) | omega) [a0, a1, a2, a3, hn, hd, undef]
    obtain ⟨gs, gs4⟩ := g1 rfl
    refine FN.mono (Q := ⟨_⟩) (write_c (x.keep k1) gs gs4 hh hm) ?_
    rintro v1 h2 ⟨sl1, rfl, ob1, k2⟩
    have K2 := k1.trans k2
    rcases wres_cases most high S with ⟨w2, w1⟩ | ⟨m1, m2, nb, ew⟩
    · have ne : ¬ (((wres most high S).2 : Int) = 0) := by omega
      rw [w1] at ob1
      obtain ⟨D, d, rfl⟩ : ∃ D d, sl1 = .slice D 0 d := by
        rcases ob1 with ⟨rfl, _⟩ | ⟨j, _, rfl, _⟩
        · exact ⟨_, _, rfl⟩
        · exact ⟨_, _, rfl⟩
      simp (maxSteps := 1000000) (disch := first | (simp; done) | (simp only [IHeap.size_push', IHeap.size_set']; omega) | omega) [a0, a1, a2, a3, hn, hd, undef, w2]
      refine FN.of known_c ?_
      simp (maxSteps := 1000000) (disch := first | (simp; done) | (simp only [IHeap.size_push', IHeap.size_set']; omega) | omega) [a0, a1, a2, a3, hn, hd, undef]
    · rw [ew] at ob1 ⊢
      obtain ⟨bs, hbs⟩ : ∃ bs, baseL high most ++ S.flatMap (recL high most) = bs := ⟨_, rfl⟩
      rw [hbs] at ob1
      obtain ⟨D, d, rfl, _⟩ := id ob1.slb
      have mk := fun h => mk_shots (h := h) S.length gs
      simp (maxSteps := 1000000) (disch := first | (simp; done) | (simp only [IHeap.size_push', IHeap.size_set']; omega) | omega) [a0, a1, a2, a3, hn, hd, undef, mk]
      have x2 := x.keep K2
      have tfit : ∀ u ∈ S, u.sec < 4294967296 ∧ u.micro < 4294967296 := fun u hu => by
        obtain ⟨_, _, _, _, _, _, x6⟩ := id x2
        exact ⟨(x6 u hu).s1, (x6 u hu).m1⟩
      refine WPL.by_inv mixed (by kernel_rfl) (fun k e h' => ∃ (j : Nat) (T : List SH), j + k = S.length ∧ T.length = j ∧ T.map SH.ct = (S.take j).map (fun s => (cutS most s).ct) ∧ e.n = 112 ∧ e.dfr = [] ∧ e.get 0 = .int .u32 most ∧ e.get 3 = .int .u8 part ∧ e.get 9 = .slice D bs.length d ∧ e.get 11 = .slice (some ⟨h2.size, 0, none⟩) S.length S.length ∧ e.get 41 = .slice A S.length c ∧ e.get 42 = .int .i64 S.length ∧ e.get 43 = .int .i64 j ∧ Keep h2 h' ∧ h'.get h2.size = some (.row false 4 (shc (T ++ List.replicate k Z0))) ∧ ∀ t ∈ T, t.ok h2) S.length ?_ ?_
      · refine ⟨0, [], ?_⟩
        simp (maxSteps := 1000000) (disch := first | (simp; done) | (simp only [IHeap.size_push', IHeap.size_set']; omega) | omega) [a0, a1, a2, a3, hn, hd]
        exact Keep.push _ _
      clear hn hd a0 a1 a2 a3 e
      rintro k e h3 ⟨j, T, hj, tl, tc, hn, hd, a0, a3, a9, a11, a41, a42, a43, k3, gW, tok⟩
      cases k with
      | zero =>
        obtain rfl : j = S.length := by omega
        rw [List.take_length] at tc
        rw [List.replicate_zero, List.append_nil] at gW
        simp (maxSteps := 1000000) (disch := first | (simp; done) | (simp only [IHeap.size_push', IHeap.size_set']; omega) | omega) [a0, a3, a9, a11, a41, a42, a43, hn, hd]
        refine FN.of new_c ?_
        simp (maxSteps := 1000000) (disch := first | (simp; done) | (simp only [IHeap.size_push', IHeap.size_set']; omega) | omega) [a0, a3, a9, a11, a41, a42, a43, hn, hd]
        obtain ⟨st, st1, st2, hst⟩ : ∃ st : Nat, 1 ≤ st ∧ st ≤ 255 ∧ (if (1 : Int) < part then (part : Int) else 1) = (st : Nat) := by
          by_cases c1 : (1 : Int) < part
          · exact ⟨part, by omega, by omega, by rw [if_pos c1]⟩
          · exact ⟨1, by omega, by omega, by rw [if_neg c1]; rfl⟩
        rw [hst]
        obtain ⟨R, hRe⟩ : ∃ R, R = h3.size := ⟨_, rfl⟩
        have kb0 := Keep.push h3 (.row false 0 (rdr .nilFunc 0 (.slice none 0 0)))
        have rR : (h3.push (.row false 0 (rdr .nilFunc 0 (.slice none 0 0)))).get R = _ := IHeap.get_pushed _ hRe
        have hRl := IHeap.get_lt rR
        have wl3 := IHeap.get_lt gW
        have gWb := kb0.get gW
        have K3b := k3.trans kb0
        rw [← hRe]
        generalize h3.push (.row false 0 (rdr .nilFunc 0 (.slice none 0 0))) = Hb at *
        refine WPL.by_inv mixed (by kernel_rfl) (BkI high most R st Hb S bs (.slice D bs.length d) (.slice (some ⟨h2.size, 0, none⟩) S.length S.length)) bs.length ?_ ?_
        · refine ⟨0, [], [], S, false, .slice none 0 0, rfl, ?_⟩
          simp (maxSteps := 1000000) (disch := first | (simp; done) | (simp only [IHeap.size_push', IHeap.size_set']; omega) | omega) [a0, a3, a9, a11, a41, a42, a43, hn, hd]
          refine ⟨⟨.inl ⟨rfl, rfl⟩, fun t ht => by simp at ht⟩, ⟨.slice none 0 0, [], ⟨none, 0, rfl, fun _ => ⟨rfl, rfl⟩, fun h => absurd rfl h, Nat.le_refl _⟩, rR, hbs.symm, (by show 0 < 24; omega)⟩, KR.refl R Hb⟩
        clear hn hd a0 a3 a9 a11 a41 a42 a43 e
        rintro k e h4 ⟨a, V, V', U, bg, w, hk, hV, hc, hn, hd, a0, a9, a11, a14, a15, a16, a17, ow, rs, kr⟩
        have bsl : bs.length ≤ 30000 := by
          have := recs_len (high := high) (most := most) (S := S) gs4
          rw [← hbs, List.length_append, baseL_len]
          omega
        have bsB : SlB h4 (.slice D bs.length d) bs := ob1.slb.kb (K3b.kb.trans (kr.kb rR))
        have z4 := kr.le
        by_cases c1 : a < bs.length
        · have c1' : (a : Int) < bs.length := by omega
          have hx : bs ≠ [] := fun e => by rw [e] at c1; simp at c1
          obtain ⟨t, ht⟩ : ∃ t, min bs.length (a + st) = t := ⟨_, rfl⟩
          have et : (if (a : Int) + st < bs.length then (a : Int) + st else (bs.length : Int)) = (t : Nat) := by split <;> omega
          obtain ⟨A2, c2, d2, ct, kl, sb⟩ := cut_mid (K := .i64) (K2 := .i64) (a := a) (b := t) bsB (by omega) (by omega) hx
          have ct' := ct h4 rfl
          obtain ⟨X, hX⟩ : ∃ X, (bs.drop a).take (t - a) = X := ⟨_, rfl⟩
          have lX : X.length = t - a := by rw [← hX, List.length_take, List.length_drop]; omega
          rw [hX] at sb
          have eX : bs.drop a = X ++ bs.drop t := by
            rw [← hX, show bs.drop t = (bs.drop a).drop (t - a) by rw [List.drop_drop]; congr 1; omega, List.take_append_drop]
          rw [eX] at rs
          have fc := feed_c (S := []) rs sb m1 m2 (fun u hu' => ⟨nb u (by rw [hV]; simp [hu']), (tfit u (by rw [hV]; simp [hu'])).1, hh u (by rw [hV]; simp [hu']), gs4 u (by rw [hV]; simp [hu'])⟩) (by rw [hV, List.length_append] at gs; omega) (by omega)
          simp (maxSteps := 1000000) (disch := first | (simp; done) | (simp only [IHeap.size_push', IHeap.size_set']; omega) | omega) [a0, a9, a11, a14, a15, a16, a17, hn, hd, c1', et, ct']
          refine FN.mono fc ?_
          rintro v h5 ⟨sl, V2, V2', U2, bg2, hV2, rfl, o5, hc2, rs5, kr5⟩
          obtain ⟨_, _, _, r4, _, _⟩ := id rs
          have kb5 := kr5.kb r4
          have z5 := kr5.le
          obtain ⟨A3, c3, rfl, _⟩ := id o5.sh
          have vl : V'.length ≤ 60 := by
            have h1 := congrArg List.length hc
            simp only [List.length_map] at h1
            rw [hV, List.length_append] at gs
            omega
          have vl2 : V2'.length ≤ 60 := by
            have h1 := congrArg List.length hc2
            simp only [List.length_map] at h1
            rw [hV, hV2, List.length_append, List.length_append] at gs
            omega
          obtain ⟨w', h6, ap, o6, f6, z6, kb6⟩ := app_list (ow.kr kr5 kb5 hRl) o5.sh (fun t ht => (o5.2 t ht).2) (by omega) (by omega)
          simp (maxSteps := 1000000) (disch := first | (simp; done) | (simp only [IHeap.size_push', IHeap.size_set']; omega) | omega) [a0, a9, a11, a14, a15, a16, a17, hn, hd, c1', ap]
          refine ⟨bs.length - (a + st), by omega, a + st, V ++ V2, V' ++ V2', U2, bg2, w', rfl, ?_⟩
          simp (maxSteps := 1000000) (disch := first | (simp; done) | (simp only [IHeap.size_push', IHeap.size_set']; omega) | omega) [a0, a9, a11, a14, a15, a16, a17, hn, hd]
          refine ⟨by rw [hV, hV2], by rw [hc, hc2], o6, ?_, ⟨by omega, fun i hi hr => (f6 i hi).trans ((kr.trans kr5).eq i hi hr)⟩⟩
          have ed : bs.drop (a + st) = bs.drop t := by
            by_cases hc : a + st ≤ bs.length
            · rw [show t = a + st by omega]
            · rw [List.drop_eq_nil_of_le (by omega), List.drop_eq_nil_of_le (by omega)]
          rw [ed]
          obtain ⟨left5, L5, b5, r5, e5, n5⟩ := rs5
          exact ⟨left5, L5, b5.kb kb6, (f6 R hRl).trans r5, e5, n5⟩
        · have c1' : ¬ ((a : Int) < bs.length) := by omega
          rw [List.drop_eq_nil_of_le (by omega)] at rs
          obtain ⟨left, L, bl, r4, e4, n4⟩ := rs
          rw [List.append_nil] at e4
          cases bg with
          | false =>
            have e5 : L = baseL high most ++ U.flatMap (recL high most) := e4
            have n5 : L.length < 24 := n4
            rw [e5, List.length_append, baseL_len] at n5
            omega
          | true =>
            cases U with
            | cons u U =>
              have e5 : L = (u :: U).flatMap (recL high most) := e4
              have n5 : L.length < 16 + min u.xs.length most := n4
              rw [e5, List.flatMap_cons, List.length_append, recL_len] at n5
              omega
            | nil =>
              have e5 : L = [] := e4
              subst e5
              rw [List.append_nil] at hV
              subst hV
              obtain ⟨A5, c5, rfl, _⟩ := id bl
              have wne : h2.size ≠ R := by omega
              have tokh : ∀ t ∈ T, t.ok h4 := fun t ht => (tok t ht).kb (K3b.kb.trans (kr.kb rR))
              have sw := ShS.of_row ((kr.eq h2.size (IHeap.get_lt gWb) wne).trans gWb) tokh
              rw [tl] at sw
              have eq2 : V'.map SH.ct = T.map SH.ct := hc.trans tc.symm
              have r4' : h4.get R = some (.row false 0 (rdr (atF high) most (.slice A5 0 c5))) := r4
              simp (maxSteps := 1000000) (disch := first | (simp; done) | (simp only [IHeap.size_push', IHeap.size_set']; omega) | omega) [a0, a9, a11, a14, a15, a16, a17, hn, hd, c1']
              refine FN.of (same_c ow.sh sw (by rw [← ct_len eq2, tl]; omega) eq2) ?_
              simp (maxSteps := 1000000) (disch := first | (simp; done) | (simp only [IHeap.size_push', IHeap.size_set']; omega) | omega) [a0, a9, a11, a14, a15, a16, a17, hn, hd, c1']
              refine FN.of (end_c r4') ?_
              simp (maxSteps := 1000000) (disch := first | (simp; done) | (simp only [IHeap.size_push', IHeap.size_set']; omega) | omega) [a0, a9, a11, a14, a15, a16, a17, hn, hd, c1']
              refine FN.of (most_c r4') ?_
              simp (maxSteps := 1000000) (disch := first | (simp; done) | (simp only [IHeap.size_push', IHeap.size_set']; omega) | omega) [a0, a9, a11, a14, a15, a16, a17, hn, hd, c1']
              refine FN.of known_c ?_
              simp (maxSteps := 1000000) (disch := first | (simp; done) | (simp only [IHeap.size_push', IHeap.size_set']; omega) | omega) [a0, a9, a11, a14, a15, a16, a17, hn, hd, c1']
      | succ k =>
        have j2 : j < S.length := by omega
        have j1 : (j : Int) < S.length := by omega
        obtain ⟨r, q, ro, z, cs, rfl, hg, hz, hs, hok⟩ := (x2.keep k3).at j2
        obtain ⟨s, es⟩ : ∃ s, S[j] = s := ⟨_, rfl⟩
        have ht1 : S.take (j + 1) = S.take j ++ [s] := by rw [List.take_succ_eq_append_getElem j2, es]
        have sm : s ∈ S := es ▸ List.getElem_mem j2
        have l4 := gs4 s sm
        rw [es] at hs hok
        have hok0 : s.ok h2 := by
          obtain ⟨_, _, _, _, _, _, x6⟩ := id x2
          exact x6 s sm
        obtain ⟨B, dd, eb, _⟩ := id hok.b
        obtain ⟨A2, c2, kd, ct, sb⟩ := cut_slb (K := .i64) (k := min s.xs.length most) hok0.b (by omega)
        have ct := ct _ (k3.push' (.row false 0 s.cells))
        simp only [SH.cells, eb] at ct
        have em : (if most < s.xs.length then (most : Int) else (s.xs.length : Int)) = ((min s.xs.length most : Nat) : Int) := by split <;> omega
        obtain ⟨m, hm2⟩ : ∃ m, min s.xs.length most = m := ⟨_, rfl⟩
        rw [hm2] at ct sb em
        have gW2 := (Keep.push h3 (.row false 0 [.int .u32 s.sec, .int .u32 s.micro, .int .u32 s.had, .slice B s.xs.length dd])).get gW
        have sp := splice_shc (T := T) (G := List.replicate k Z0) (s := ⟨s.sec, s.micro, s.had, s.xs.take m, .slice A2 m c2⟩) (z := Z0)
        rw [List.replicate_succ] at gW gW2
        rw [tl, SH.cells] at sp
        have wl : (shc (T ++ Z0 :: List.replicate k Z0)).length = S.length * 4 := by
          rw [shc_len, List.length_append, List.length_cons, List.length_replicate]
          omega
        have wb : j * 4 + 4 ≤ S.length * 4 := by omega
        have wne : h2.size ≠ h3.size := by
          have := IHeap.get_lt gW
          omega
        simp (maxSteps := 1000000) (disch := first | (simp; done) | (simp only [IHeap.size_push', IHeap.size_set']; omega) | omega) [a0, a3, a9, a11, a41, a42, a43, hn, hd, j1, j2, hg, hs, SH.cells, eb, ct, em, gW, gW2, sp, wl, wb]
        refine ⟨k, by omega, j + 1, by omega, T ++ [⟨s.sec, s.micro, s.had, s.xs.take m, .slice A2 m c2⟩], by simp [tl], ?_, by omega, (k3.push' _).set _ (Nat.le_refl _), ?_, ?_⟩
        · rw [← List.map_take, ht1, List.map_append, List.map_append, tc]
          simp only [List.map_cons, List.map_nil, cutS, hm2]
          rfl
        · rw [IHeap.get_set_same _ (by rw [IHeap.size_push']; have := IHeap.get_lt gW; omega), List.append_assoc]
          rfl
        · intro t ht
          rcases List.mem_append.1 ht with ht | ht
          · exact tok t ht
          · rw [List.mem_singleton] at ht
            subst ht
            exact ⟨sb, hok.s1, hok.m1⟩
end Go.Proofs.Ytkpbdhfaobmbpaa.Ideal
