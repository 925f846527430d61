import Derived.Test.YtkpbdhfaobmbpaaP43c
import Derived.Test.YtkpbdhfaobmbpaaI40
noncomputable section
open Go.Proofs
namespace Go.Proofs.Ytkpbdhfaobmbpaa.Ideal
open Go.RowKit
set_option linter.unusedSimpArgs false
set_option linter.unusedVariables false
set_option linter.unusedSectionVars false
set_option maxRecDepth 100000
set_option maxHeartbeats 4000000
attribute [-simp] IHeap.size_set IHeap.size_push
attribute [local simp ↓] Hid.ap_mk
attribute [local simp] scopeQ_normal scopeQ_ret scopeQ_exit WP_skip WP_label WP_exit WP_goto WP_ret WP_region WP_seq WP_cond WP_block WP_scope WP_loop WP_range thenQ_normal thenQ_ret thenQ_exit thenQ_goto loopQ_normal loopQ_ret loopQ_exit invQ_normal invQ_ret invQ_exit outOf_normal outOf_ret outOf_goto outOf_exit ev_tmp ev_const ev_func
  wops_nil wops_cons wantedE_none wantedE_some jgd_some wnx_eq niC_false wdo_move wdo_assign wdo_pick wdo_load wdo_store wdo_alloc wdo_box wdo_fieldAddr wdo_indexAddr wdo_field wdo_extract wdo_build wdo_buildSlice wdo_makeSlice wdo_binOp wdo_unOp wdo_makeFunc wdo_nilCheck wdo_callV wdo_len wdo_append wdo_copy wdo_delete wdo_max wdo_min wdo_convert jcvt_int
  xput_get put_n put_none put_dfr ibin finQ_n finQ_r finD_nil splice_one ires_nil ires_one ires_two ires_three ires1_tmp ires1_cell jcell_ptr rowLoad_row wrap64 wrapU64 wrapU8 wrapU16 wrapU32 callV_fn buildOf Instr.fill Value.cells Value.oneCell' kindOf slots_all splice_all IHeap.size_set' IHeap.size_push' IHeap.get_set_same IHeap.get_set_ne IHeap.get_pushed IHeap.get_push_ne IHeap.set_set IHeap.set_push IHeap.set_pushed IHeap.set_set3 getU_nil getU_same getU_ne jif_true jif_false pushH_eq setH_eq forceL_eq forceV_eq ibuildSlice
attribute [local simp] wdo_index jopt_some wdo_cutV
attribute [-simp] Value.oneCell'
attribute [local simp] one_int' one_slc'
/-- What Merge has done: M, from what U and V are left of. -/
structure Mer (h : IHeap) (U V M : List SH) (va vb w : Value) (h1 : IHeap) : Prop where
  kp : Keep h h1
  z : h.size + 2 ≤ h1.size
  p : h1.get h.size = some (.row false 0 [va])
  q : h1.get (h.size + 1) = some (.row false 0 [vb])
  u : ShS h va U
  v : ShS h vb V
  o : OwnS (h.size + 2) h1 w M
  l : ∀ s ∈ U ++ V, s.xs.length ≤ 400
  r : Rise M
  ru : Rise U
  rv : Rise V
  mu : ∀ m ∈ M, ∀ s ∈ U ++ V, m.time ≤ s.time
theorem Mer.keep {h : IHeap} {U V M : List SH} {va vb w : Value} {h1 h2 : IHeap} (x : Mer h U V M va vb w h1) (k : Keep h1 h2) : Mer h U V M va vb w h2 :=
  ⟨x.kp.trans k, by have := x.z; have := k.le; omega, k.get x.p, k.get x.q, x.u, x.v, x.o.keep k, x.l, x.r, x.ru, x.rv, x.mu⟩
theorem Rise.head {u : SH} {U : List SH} (x : Rise (u :: U)) : ∀ s ∈ u :: U, u.time ≤ s.time := fun s hs => by
  rw [List.mem_cons] at hs
  rcases hs with rfl | hs
  · exact Nat.le_refl _
  · exact (List.pairwise_cons.1 x).1 s hs
theorem OwnS.set {lo : Nat} {h : IHeap} {w : Value} {M : List SH} (x : OwnS lo h w M) {i : Nat} {cs : List Value} (o : IObj) (e : h.get i = some (.row false 0 cs)) (hi : i < lo) : OwnS lo (h.set i o) w M := by
  obtain ⟨x, y⟩ := x
  refine ⟨?_, fun t ht => ⟨(y t ht).1.kb (KB.set o e (by omega)), (y t ht).2⟩⟩
  rcases x with h | ⟨j, hj, h, g⟩
  · exact .inl h
  · exact .inr ⟨j, hj, h, by rw [IHeap.get_set_ne _ (by omega)]; exact g⟩
theorem merge_c {h : IHeap} {va vb : Value} {S T : List SH} (x : ShS h va S) (y : ShS h vb T) (rs : Rise S) (rt : Rise T) (hS : S.length ≤ 60) (hT : T.length ≤ 60) (h4 : ∀ s ∈ S ++ T, s.xs.length ≤ 400) : FN Try.prog 16 #[va, vb] h (Q := ⟨fun v h' => ∃ M, OwnS h.size h' v M ∧ M.length = S.length + T.length ∧ Rise M ∧ Keep h h'⟩) := by
  obtain ⟨A, c, rfl, _⟩ := id x
  obtain ⟨B, d, rfl, _⟩ := id y
  refine FN.enter mixed (fn := Try.f16) (by kernel_rfl) rfl (by kernel_rfl) fun e hn hg hd => ?_
  simp [Try.f16] at hn
  have a0 : e.get 0 = .slice A S.length c := hg 0 (by omega)
  have a1 : e.get 1 = .slice B T.length d := hg 1 (by omega)
  clear hg
  simp (maxSteps := 1000000) (disch := first | (simp; done) | (simp only [IHeap.size_push', IHeap.size_set']; omega) | omega) [a0, a1, hn, hd]
  refine WPL.by_inv mixed (by kernel_rfl) (fun k e h' => ∃ (U V M : List SH) (va vb w : Value), k = U.length + V.length ∧ M.length + k = S.length + T.length ∧ e.n = 47 ∧ e.dfr = [] ∧ e.get 2 = .pointer (some ⟨h.size, 0, none⟩) ∧ e.get 3 = .pointer (some ⟨h.size + 1, 0, none⟩) ∧ e.get 4 = w ∧ Mer h U V M va vb w h') (S.length + T.length) ?_ ?_
  · refine ⟨S, T, [], .slice A S.length c, .slice B T.length d, .slice none 0 0, rfl, by simp, ?_⟩
    simp (maxSteps := 1000000) (disch := first | (simp; done) | (simp only [IHeap.size_push', IHeap.size_set']; omega) | omega) [a0, a1, hn, hd]
    refine ⟨(Keep.push _ _).push' _, by simp only [IHeap.size_push']; omega, ?_, ?_, x, y, ⟨.inl ⟨rfl, rfl⟩, fun t ht => by simp at ht⟩, h4, List.Pairwise.nil, rs, rt, fun m hm => by simp at hm⟩
    · simp (maxSteps := 1000000) (disch := first | (simp; done) | (simp only [IHeap.size_push', IHeap.size_set']; omega) | omega) []
    · simp (maxSteps := 1000000) (disch := first | (simp; done) | (simp only [IHeap.size_push', IHeap.size_set']; omega) | omega) []
  clear hn hd a0 a1 e
  rintro k e h1 ⟨U, V, M, va, vb, w, rfl, hk, hn, hd, a2, a3, a4, me⟩
  obtain ⟨A1, c1, rfl, _⟩ := id me.u
  obtain ⟨B1, d1, rfl, _⟩ := id me.v
  by_cases hz : U.length + V.length = 0
  · have hu : U = [] := List.eq_nil_of_length_eq_zero (by omega)
    have hv : V = [] := List.eq_nil_of_length_eq_zero (by omega)
    subst hu hv
    have p := me.p
    have q := me.q
    simp (maxSteps := 1000000) (disch := first | (simp; done) | (simp only [IHeap.size_push', IHeap.size_set']; omega) | omega) [a2, a3, a4, hn, hd, p, q]
    have ow := me.o
    refine ⟨M, ⟨?_, ow.2⟩, by simpa using hk, me.r, me.kp⟩
    rcases ow.1 with h | ⟨j, hj, h⟩
    · exact .inl h
    · exact .inr ⟨j, by omega, h⟩
  · have gz : (0 : Int) < U.length + V.length := by omega
    have p := me.p
    have q := me.q
    have pz := me.z
    have pl : h.size < h1.size := by omega
    rw [WP_seq (Q := _)]
    rw [WP_seq (Q := _)]
    simp (maxSteps := 1000000) (disch := first | (simp; done) | (simp only [IHeap.size_push', IHeap.size_set']; omega) | omega) [-WP_seq, a2, a3, a4, hn, hd, p, q, gz]
    rw [WP_seq (Q := _)]
    simp (maxSteps := 1000000) (disch := first | (simp; done) | (simp only [IHeap.size_push', IHeap.size_set']; omega) | omega) [-WP_seq, a2, a3, a4, hn, hd, p, q, gz]
    refine WP.cut1 (fun e' h2 => ∃ f : Bool, e'.n = 47 ∧ e'.dfr = [] ∧ e'.get 2 = .pointer (some ⟨h.size, 0, none⟩) ∧ e'.get 3 = .pointer (some ⟨h.size + 1, 0, none⟩) ∧ e'.get 4 = w ∧ e'.get 5 = .pointer (some ⟨h.size + f.toNat, 0, none⟩) ∧ Mer h U V M (.slice A1 U.length c1) (.slice B1 V.length d1) w h2 ∧ (f = false → ∃ u U', U = u :: U' ∧ ∀ v ∈ V, u.time ≤ v.time) ∧ (f = true → ∃ v V', V = v :: V' ∧ ∀ u ∈ U, v.time ≤ u.time)) ?_ ?_
    · cases U with
      | nil =>
        have hv : V.length ≠ 0 := by simpa using hz
        simp (maxSteps := 1000000) (disch := first | (simp; done) | (simp only [IHeap.size_push', IHeap.size_set']; omega) | omega) [a2, a3, a4, hn, hd, p, q, undef]
        cases V with
        | nil => exact absurd rfl hv
        | cons v V => exact ⟨niC_pend [] (by kernel_rfl) trivial, me, v, V, rfl⟩
      | cons u U =>
        have gu : ¬ ((U.length : Int) + 1 = 0) := by omega
        cases V with
        | nil =>
          simp (maxSteps := 1000000) (disch := first | (simp; done) | (simp only [IHeap.size_push', IHeap.size_set']; omega) | omega) [a2, a3, a4, hn, hd, p, q, gu, undef]
          exact ⟨niC_pend [] (by kernel_rfl) trivial, me⟩
        | cons v V =>
          have xu := me.u.keep me.kp
          have xv := me.v.keep me.kp
          obtain ⟨r1, q1, ro1, z1, cs1, rfl, hg1, hz1, hs1, hok1⟩ := xu.at (i := 0) (by simp)
          obtain ⟨r2, q2, ro2, z2, cs2, rfl, hg2, hz2, hs2, hok2⟩ := xv.at (i := 0) (by simp)
          rw [Nat.zero_mul, Nat.add_zero] at hs1 hs2
          simp only [List.getElem_cons_zero] at hs1 hs2 hok1 hok2
          obtain ⟨B1, d3, eb1, _⟩ := hok1.b
          obtain ⟨B2, d4, eb2, _⟩ := hok2.b
          have gv : (0 : Int) < (V.length : Int) + 1 := by omega
          have tb := time_c hok2
          have ta := time_c (hok1.keep (Keep.push _ (.row false 0 v.cells)))
          simp only [SH.val, SH.cells, eb1, eb2] at ta tb
          simp (maxSteps := 1000000) (disch := first | (simp; done) | (simp only [IHeap.size_push', IHeap.size_set']; omega) | omega) [a2, a3, a4, hn, hd, p, q, hg1, hg2, hs1, hs2, SH.cells, eb1, eb2, gu, gv]
          refine FN.of tb ?_
          have hg3 := (Keep.push h1 (.row false 0 v.cells)).get hg1
          simp only [SH.cells, eb2] at hg3
          simp (maxSteps := 1000000) (disch := first | (simp; done) | (simp only [IHeap.size_push', IHeap.size_set']; omega) | omega) [a2, a3, a4, hn, hd, p, q, hg3, hg1, hg2, hs1, hs2, SH.cells, eb1, eb2, gu, gv]
          refine FN.of ta ?_
          have me2 := me.keep ((Keep.push h1 (.row false 0 v.cells)).push' (.row false 0 u.cells))
          have k1 : (h1.push (.row false 0 v.cells)).get h.size = h1.get h.size := (Keep.push _ _).eq _ pl
          have k2 : (h1.push (.row false 0 v.cells)).get r1 = h1.get r1 := (Keep.push _ _).eq _ (IHeap.get_lt hg1)
          simp only [SH.cells, eb1, eb2] at me2 k1 k2
          by_cases ct : v.time < u.time
          · simp (maxSteps := 1000000) (disch := first | (simp; done) | (simp only [IHeap.size_push', IHeap.size_set']; omega) | omega) [a2, a3, a4, hn, hd, p, q, hg1, hg2, hs1, hs2, SH.cells, eb1, eb2, gu, gv, ct]
            refine ⟨niC_pend [(11, 12), (11, 14)] (by kernel_rfl) ⟨k1, k2, trivial⟩, me2, by omega, fun a ha => ?_⟩
            have := me.ru.head a (by simp [ha])
            omega
          · simp (maxSteps := 1000000) (disch := first | (simp; done) | (simp only [IHeap.size_push', IHeap.size_set']; omega) | omega) [a2, a3, a4, hn, hd, p, q, hg1, hg2, hs1, hs2, SH.cells, eb1, eb2, gu, gv, ct]
            refine ⟨niC_pend [(11, 12), (11, 14)] (by kernel_rfl) ⟨k1, k2, trivial⟩, me2, by omega, fun a ha => ?_⟩
            have := me.rv.head a (by simp [ha])
            omega
    · rintro e h2 ⟨f, hn, hd, a2, a3, a4, a5, me, fa, fb⟩
      cases f with
      | false =>
        obtain ⟨u, L, rfl, lt⟩ := fa rfl
        have xu := (me.u).keep me.kp
        have p := me.p
        have q := me.q
        have pz := me.z
        have pl : h.size < h2.size := by omega
        have pl2 : h.size + 1 < h2.size := by omega
        obtain ⟨r1, q1, ro1, z1, cs1, rfl, hg1, hz1, hs1, hok1⟩ := xu.at (i := 0) (by simp)
        rw [Nat.zero_mul, Nat.add_zero] at hs1
        simp only [List.getElem_cons_zero] at hs1 hok1
        have rl : r1 < h.size := by
          obtain ⟨A', c', e1, _, _, e2, _⟩ := me.u
          cases e1
          obtain ⟨_, _, _, _, _, e3, e4, _⟩ := e2 (by simp)
          cases e3
          exact IHeap.get_lt e4
        obtain ⟨D1, d3, eb1, _⟩ := hok1.b
        have l4 := me.l u (by simp)
        have oc := own_c hok1 l4
        simp only [SH.val, SH.cells, eb1] at oc
        have gl : (0 : Int) < (L.length : Int) + 1 := by omega
        simp only [List.length_cons, Bool.toNat_false, Bool.toNat_true, Nat.add_zero] at p q a5
        simp (maxSteps := 1000000) (disch := first | (simp; done) | (simp only [IHeap.size_push', IHeap.size_set']; omega) | omega) [a2, a3, a4, a5, hn, hd, p, q, hg1, hs1, SH.cells, eb1, gl]
        refine FN.mono oc ?_
        rintro v h3 ⟨⟨sl', rfl, ok3⟩, k2⟩
        have z3 := k2.le
        have me2 := me.keep k2
        have ow := me2.o
        obtain ⟨v', h4', ap, ow3, f1, z2⟩ := app_own me2.o ok3 l4 (by simp only [List.length_cons] at hk; omega) (by omega)
        obtain ⟨B', d', eb', _⟩ := ok3.b
        dsimp only at eb'
        subst eb'
        simp only [SH.cells] at ap
        have zz : zeros #[Value.int .u32 0, Value.int .u32 0, Value.int .u32 0, Value.slice none 0 0] 1 = [Value.int .u32 0, Value.int .u32 0, Value.int .u32 0, Value.slice none 0 0] := rfl
        have p4 : h4'.get h.size = _ := (f1 _ (by omega)).trans (k2.get p)
        have q4 : h4'.get (h.size + 1) = _ := (f1 _ (by omega)).trans (k2.get q)
        have g4 : h4'.get r1 = _ := (f1 _ (by omega)).trans (k2.get hg1)
        simp (maxSteps := 1000000) (disch := first | (simp; done) | (simp only [IHeap.size_push', IHeap.size_set']; omega) | omega) [a2, a3, a4, a5, hn, hd, SH.val, SH.cells, zz, ap, p4, q4]
        have cle : L.length + 1 ≤ c1 := by
          obtain ⟨A', c', e1, _, e2, _⟩ := id (me.u)
          cases e1
          exact e2
        have isl := islice_eq (P := Try.prog) (q := q1) (l := 1) (lo := some (.int .i64 1)) (hi := none) sl23 g4 hz1 (bounds_lo (k := .i64) (l := 1) (n := L.length + 1) (c := c1) (by omega) cle)
        simp only [Nat.one_mul, Nat.add_sub_cancel] at isl
        simp (maxSteps := 1000000) (disch := first | (simp; done) | (simp only [IHeap.size_push', IHeap.size_set']; omega) | omega) [a2, a3, a4, a5, hn, hd, SH.val, SH.cells, zz, ap, p4, q4, cutV, isl]
        have xs' := ShS.tail me.u
        have rs' := (List.pairwise_cons.1 me.ru)
        refine ⟨L.length + V.length, by omega, L, V, rfl, M ++ [⟨u.sec, u.micro, u.had, u.xs, .slice B' u.xs.length d'⟩], by simp only [List.length_append, List.length_cons, List.length_nil] at hk ⊢; omega, .slice (some ⟨r1, q1 + 4, none⟩) L.length (c1 - 1), .slice B1 V.length d1, ?_⟩
        have kk := me.kp.trans k2
        refine ⟨⟨by rw [IHeap.size_set']; omega, fun i hi => by rw [IHeap.get_set_ne _ (by omega), f1 i (by omega)]; exact kk.eq i hi⟩, by rw [IHeap.size_set']; omega, by rw [IHeap.get_set_same _ (by omega)], by rw [IHeap.get_set_ne _ (by omega)]; exact q4, xs', me.v, ow3.set _ p4 (by omega), fun s hs => me.l s (by simp only [List.mem_append, List.mem_cons] at hs ⊢; exact hs.imp .inr id), ?_, rs'.2, me.rv, ?_⟩
        · refine List.pairwise_append.2 ⟨me.r, List.pairwise_singleton _ _, fun m hm t ht => ?_⟩
          rw [List.mem_singleton] at ht
          subst ht
          exact me.mu m hm u (by simp)
        · intro m hm t ht
          rw [List.mem_append, List.mem_singleton] at hm
          rcases hm with hm | rfl
          · exact me.mu m hm t (by simp only [List.mem_append, List.mem_cons] at ht ⊢; exact ht.imp .inr id)
          · show u.time ≤ t.time
            rw [List.mem_append] at ht
            rcases ht with ht | ht
            · exact rs'.1 t ht
            · exact lt t ht
      | true =>
        obtain ⟨u, L, rfl, lt⟩ := fb rfl
        have xu := (me.v).keep me.kp
        have p := me.p
        have q := me.q
        have pz := me.z
        have pl : h.size < h2.size := by omega
        have pl2 : h.size + 1 < h2.size := by omega
        obtain ⟨r1, q1, ro1, z1, cs1, rfl, hg1, hz1, hs1, hok1⟩ := xu.at (i := 0) (by simp)
        rw [Nat.zero_mul, Nat.add_zero] at hs1
        simp only [List.getElem_cons_zero] at hs1 hok1
        have rl : r1 < h.size := by
          obtain ⟨A', c', e1, _, _, e2, _⟩ := me.v
          cases e1
          obtain ⟨_, _, _, _, _, e3, e4, _⟩ := e2 (by simp)
          cases e3
          exact IHeap.get_lt e4
        obtain ⟨D1, d3, eb1, _⟩ := hok1.b
        have l4 := me.l u (by simp)
        have oc := own_c hok1 l4
        simp only [SH.val, SH.cells, eb1] at oc
        have gl : (0 : Int) < (L.length : Int) + 1 := by omega
        simp only [List.length_cons, Bool.toNat_false, Bool.toNat_true, Nat.add_zero] at p q a5
        simp (maxSteps := 1000000) (disch := first | (simp; done) | (simp only [IHeap.size_push', IHeap.size_set']; omega) | omega) [a2, a3, a4, a5, hn, hd, p, q, hg1, hs1, SH.cells, eb1, gl]
        refine FN.mono oc ?_
        rintro v h3 ⟨⟨sl', rfl, ok3⟩, k2⟩
        have z3 := k2.le
        have me2 := me.keep k2
        have ow := me2.o
        obtain ⟨v', h4', ap, ow3, f1, z2⟩ := app_own me2.o ok3 l4 (by simp only [List.length_cons] at hk; omega) (by omega)
        obtain ⟨B', d', eb', _⟩ := ok3.b
        dsimp only at eb'
        subst eb'
        simp only [SH.cells] at ap
        have zz : zeros #[Value.int .u32 0, Value.int .u32 0, Value.int .u32 0, Value.slice none 0 0] 1 = [Value.int .u32 0, Value.int .u32 0, Value.int .u32 0, Value.slice none 0 0] := rfl
        have p4 : h4'.get h.size = _ := (f1 _ (by omega)).trans (k2.get p)
        have q4 : h4'.get (h.size + 1) = _ := (f1 _ (by omega)).trans (k2.get q)
        have g4 : h4'.get r1 = _ := (f1 _ (by omega)).trans (k2.get hg1)
        simp (maxSteps := 1000000) (disch := first | (simp; done) | (simp only [IHeap.size_push', IHeap.size_set']; omega) | omega) [a2, a3, a4, a5, hn, hd, SH.val, SH.cells, zz, ap, p4, q4]
        have cle : L.length + 1 ≤ d1 := by
          obtain ⟨A', c', e1, _, e2, _⟩ := id (me.v)
          cases e1
          exact e2
        have isl := islice_eq (P := Try.prog) (q := q1) (l := 1) (lo := some (.int .i64 1)) (hi := none) sl23 g4 hz1 (bounds_lo (k := .i64) (l := 1) (n := L.length + 1) (c := d1) (by omega) cle)
        simp only [Nat.one_mul, Nat.add_sub_cancel] at isl
        simp (maxSteps := 1000000) (disch := first | (simp; done) | (simp only [IHeap.size_push', IHeap.size_set']; omega) | omega) [a2, a3, a4, a5, hn, hd, SH.val, SH.cells, zz, ap, p4, q4, cutV, isl]
        have xs' := ShS.tail me.v
        have rs' := (List.pairwise_cons.1 me.rv)
        refine ⟨L.length + U.length, by omega, U, L, Nat.add_comm _ _, M ++ [⟨u.sec, u.micro, u.had, u.xs, .slice B' u.xs.length d'⟩], by simp only [List.length_append, List.length_cons, List.length_nil] at hk ⊢; omega, .slice A1 U.length c1, .slice (some ⟨r1, q1 + 4, none⟩) L.length (d1 - 1), ?_⟩
        have kk := me.kp.trans k2
        refine ⟨⟨by rw [IHeap.size_set']; omega, fun i hi => by rw [IHeap.get_set_ne _ (by omega), f1 i (by omega)]; exact kk.eq i hi⟩, by rw [IHeap.size_set']; omega, by rw [IHeap.get_set_ne _ (by omega)]; exact p4, by rw [IHeap.get_set_same _ (by omega)], me.u, xs', ow3.set _ q4 (by omega), fun s hs => me.l s (by simp only [List.mem_append, List.mem_cons] at hs ⊢; exact hs.imp id .inr), ?_, me.ru, rs'.2, ?_⟩
        · refine List.pairwise_append.2 ⟨me.r, List.pairwise_singleton _ _, fun m hm t ht => ?_⟩
          rw [List.mem_singleton] at ht
          subst ht
          exact me.mu m hm u (by simp)
        · intro m hm t ht
          rw [List.mem_append, List.mem_singleton] at hm
          rcases hm with hm | rfl
          · exact me.mu m hm t (by simp only [List.mem_append, List.mem_cons] at ht ⊢; exact ht.imp id .inr)
          · show u.time ≤ t.time
            rw [List.mem_append] at ht
            rcases ht with ht | ht
            · exact lt t ht
            · exact rs'.1 t ht
end Go.Proofs.Ytkpbdhfaobmbpaa.Ideal
