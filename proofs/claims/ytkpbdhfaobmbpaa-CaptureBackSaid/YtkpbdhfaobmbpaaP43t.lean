import Derived.Test.YtkpbdhfaobmbpaaP43s
import Derived.Test.YtkpbdhfaobmbpaaI40
noncomputable section
open Go.Proofs
namespace Go.Proofs.Ytkpbdhfaobmbpaa.Ideal
open Go.RowKit
set_option linter.unusedSimpArgs false
set_option linter.unusedVariables false
set_option linter.unusedSectionVars false
set_option maxRecDepth 100000
set_option maxHeartbeats 4000000
attribute [-simp] IHeap.size_set IHeap.size_push
attribute [local simp ↓] Hid.ap_mk
attribute [local simp] scopeQ_normal scopeQ_ret scopeQ_exit WP_skip WP_label WP_exit WP_goto WP_ret WP_region WP_seq WP_cond WP_block WP_scope WP_loop WP_range thenQ_normal thenQ_ret thenQ_exit thenQ_goto loopQ_normal loopQ_ret loopQ_exit invQ_normal invQ_ret invQ_exit outOf_normal outOf_ret outOf_goto outOf_exit ev_tmp ev_const ev_func
  wops_nil wops_cons wantedE_none wantedE_some jgd_some wnx_eq niC_false wdo_move wdo_assign wdo_pick wdo_load wdo_store wdo_alloc wdo_box wdo_fieldAddr wdo_indexAddr wdo_field wdo_extract wdo_build wdo_buildSlice wdo_makeSlice wdo_binOp wdo_unOp wdo_makeFunc wdo_nilCheck wdo_callV wdo_len wdo_append wdo_copy wdo_delete wdo_max wdo_min wdo_convert jcvt_int
  xput_get put_n put_none put_dfr ibin finQ_n finQ_r finD_nil splice_one ires_nil ires_one ires_two ires_three ires1_tmp ires1_cell jcell_ptr rowLoad_row wrap64 wrapU64 wrapU8 wrapU16 wrapU32 callV_fn buildOf Instr.fill Value.cells Value.oneCell' kindOf slots_all splice_all IHeap.size_set' IHeap.size_push' IHeap.get_set_same IHeap.get_set_ne IHeap.get_pushed IHeap.get_push_ne IHeap.set_set IHeap.set_push IHeap.set_pushed IHeap.set_set3 getU_nil getU_same getU_ne jif_true jif_false pushH_eq setH_eq forceL_eq forceV_eq ibuildSlice
attribute [local simp] wdo_index jopt_some wdo_cutV
attribute [-simp] Value.oneCell'
attribute [local simp] one_int' one_slc'
/-- Shots whose bytes one's own appends made. -/
def OwnT (lo : Nat) (h : IHeap) (T : List SH) : Prop := ∀ t ∈ T, OwnB lo h t.sl t.xs
theorem ownT_snoc {lo : Nat} {h h' : IHeap} {M : List SH} {s : SH} (x : OwnT lo h M) (k : KB h h') (o : OwnB lo h s.sl s.xs) : OwnT lo h' (M ++ [s]) := fun t ht => by
  rcases List.mem_append.1 ht with ht | ht
  · exact (x t ht).kb k
  · rw [List.mem_singleton] at ht
    subst ht
    exact o.kb k
theorem window2_c {h : IHeap} {v : Value} {S : List SH} {lo hi : Nat} (x : ShS h v S) (hS : S.length ≤ 200) (h4 : ∀ s ∈ S, s.xs.length ≤ 400) : FN Try.prog 17 #[v, .int .u64 lo, .int .u64 hi] h (Q := ⟨fun v h' => ∃ T, OwnS h.size h' v T ∧ OwnT h.size h' T ∧ T.map SH.ct = (S.filter (inW lo hi)).map SH.ct ∧ Keep h h'⟩) := by
  obtain ⟨A, c, rfl, _⟩ := id x
  refine FN.enter mixed (fn := Try.f17) (by kernel_rfl) rfl (by kernel_rfl) fun e hn hg hd => ?_
  simp [Try.f17] at hn
  have a0 : e.get 0 = .slice A S.length c := hg 0 (by omega)
  have a1 : e.get 1 = .int .u64 lo := hg 1 (by omega)
  have a2 : e.get 2 = .int .u64 hi := hg 2 (by omega)
  clear hg
  simp (maxSteps := 1000000) (disch := first | (simp; done) | (simp only [IHeap.size_push', IHeap.size_set']; omega) | omega) [a0, a1, a2, hn, hd]
  refine WPL.by_inv mixed (by kernel_rfl) (fun k e h' => ∃ (j : Nat) (T : List SH) (w : Value), j + k = S.length ∧ e.n = 33 ∧ e.dfr = [] ∧ e.get 1 = .int .u64 lo ∧ e.get 2 = .int .u64 hi ∧ e.get 6 = w ∧ e.get 10 = .slice A S.length c ∧ e.get 11 = .int .i64 S.length ∧ e.get 12 = .int .i64 j ∧ OwnS h.size h' w T ∧ OwnT h.size h' T ∧ T.map SH.ct = ((S.take j).filter (inW lo hi)).map SH.ct ∧ Keep h h') S.length ?_ ?_
  · refine ⟨0, [], .slice none 0 0, ?_⟩
    simp (maxSteps := 1000000) (disch := first | (simp; done) | (simp only [IHeap.size_push', IHeap.size_set']; omega) | omega) [a0, a1, a2, hn, hd]
    exact ⟨⟨.inl ⟨rfl, rfl⟩, fun t ht => by simp at ht⟩, fun t ht => by simp at ht, Keep.refl h⟩
  clear hn hd a0 a1 a2 e
  rintro k e h1 ⟨j, T, w, hj, hn, hd, a1, a2, a6, a10, a11, a12, ow, ot, hT, kp⟩
  cases k with
  | zero =>
    obtain rfl : j = S.length := by omega
    simp (maxSteps := 1000000) (disch := first | (simp; done) | (simp only [IHeap.size_push', IHeap.size_set']; omega) | omega) [a1, a2, a6, a10, a11, a12, hn, hd]
    rw [List.take_length] at hT
    exact ⟨T, ow, ot, hT, kp⟩
  | succ k =>
    have j2 : j < S.length := by omega
    have j1 : (j : Int) < S.length := by omega
    obtain ⟨r, q, ro, z, cs, rfl, hg, hz, hs, hok⟩ := (x.keep kp).at j2
    obtain ⟨s, es⟩ : ∃ s, S[j] = s := ⟨_, rfl⟩
    have z0 := kp.le
    have ht1 : S.take (j + 1) = S.take j ++ [s] := by rw [List.take_succ_eq_append_getElem j2, es]
    rw [es] at hs hok
    obtain ⟨B, d, eb, _⟩ := hok.b
    have l4 := h4 S[j] (List.getElem_mem j2)
    rw [es] at l4
    have tc := time_c (hok.keep (Keep.push h1 (.row false 0 s.cells)))
    simp only [SH.val, SH.cells, eb] at tc
    simp (maxSteps := 1000000) (disch := first | (simp; done) | (simp only [IHeap.size_push', IHeap.size_set']; omega) | omega) [a1, a2, a6, a10, a11, a12, hn, hd, j1, j2, hg, hs, SH.cells, eb]
    refine FN.of tc ?_
    obtain ⟨t, ht⟩ : ∃ t, s.time = t := ⟨_, rfl⟩
    rw [ht]
    have z0 := kp.le
    have kq := (kp.push' (.row false 0 s.cells)).push' (.row false 0 s.cells)
    have ow2 := ow.keep ((Keep.push h1 (.row false 0 s.cells)).push' (.row false 0 s.cells))
    simp only [SH.cells, eb] at kq ow2
    by_cases c1 : lo ≤ t
    · by_cases c2 : t < hi
      · have iw : inW lo hi s = true := by
          unfold inW
          rw [ht, decide_eq_true c1, decide_eq_true c2]
          rfl
        simp (maxSteps := 1000000) (disch := first | (simp; done) | (simp only [IHeap.size_push', IHeap.size_set']; omega) | omega) [a1, a2, a6, a10, a11, a12, hn, hd, j1, j2, hg, hs, SH.cells, eb, c1, c2]
        have ok2 := hok.keep ((Keep.push h1 (.row false 0 s.cells)).push' (.row false 0 s.cells))
        have oc := own_c ok2 l4
        simp only [SH.val, SH.cells, eb] at oc
        refine FN.mono oc ?_
        rintro v h2 ⟨⟨sl', rfl, ok3, ob⟩, k2⟩
        simp only [SH.cells, eb] at k2
        have z3 := k2.le
        simp only [IHeap.size_push'] at z3
        obtain ⟨v', h', ap, ow3, f1, z2, kb⟩ := app_own (ow2.keep k2) ok3 l4 (by have e1 := ct_len hT; have := List.length_filter_le (inW lo hi) (S.take j); rw [List.length_take] at this; omega) (by omega)
        obtain ⟨B', d', eb', _⟩ := ok3.b
        dsimp only at eb'
        subst eb'
        simp only [SH.cells] at ap
        have z1 : zeros #[Value.int .u32 0, Value.int .u32 0, Value.int .u32 0, Value.slice none 0 0] 1 = [Value.int .u32 0, Value.int .u32 0, Value.int .u32 0, Value.slice none 0 0] := rfl
        simp (maxSteps := 1000000) (disch := first | (simp; done) | (simp only [IHeap.size_push', IHeap.size_set']; omega) | omega) [a1, a2, a6, a10, a11, a12, hn, hd, SH.val, SH.cells, z1, ap]
        refine ⟨k, by omega, j + 1, by omega, by omega, _, ow3, ?_, ?_, ?_⟩
        · intro t ht
          rcases List.mem_append.1 ht with ht | ht
          · exact (ot t ht).kb (((((Keep.push h1 _).push' _).trans k2).kb).trans kb)
          · rw [List.mem_singleton] at ht
            subst ht
            exact (ob.low (by simp only [IHeap.size_push']; omega)).kb kb
        · rw [ht1, List.filter_append, List.map_append, List.map_append, hT, List.filter_cons, iw]
          rfl
        · exact ⟨by omega, fun i hi => by rw [f1 i (by omega)]; exact (kq.trans k2).eq i hi⟩
      · have iw : inW lo hi s = false := by
          unfold inW
          rw [ht, decide_eq_false c2, Bool.and_false]
        simp (maxSteps := 1000000) (disch := first | (simp; done) | (simp only [IHeap.size_push', IHeap.size_set']; omega) | omega) [a1, a2, a6, a10, a11, a12, hn, hd, j1, j2, hg, hs, SH.cells, eb, c1, c2]
        refine ⟨k, by omega, j + 1, by omega, by omega, T, ow2, ?_, ?_, kq⟩
        · exact fun t ht => (ot t ht).kb ((Keep.push h1 _).push' _).kb
        · rw [ht1, List.filter_append, hT, List.filter_cons, iw]
          simp
    · have iw : inW lo hi s = false := by
        unfold inW
        rw [ht, decide_eq_false c1, Bool.false_and]
      simp (maxSteps := 1000000) (disch := first | (simp; done) | (simp only [IHeap.size_push', IHeap.size_set']; omega) | omega) [a1, a2, a6, a10, a11, a12, hn, hd, j1, j2, hg, hs, SH.cells, eb, c1]
      refine ⟨k, by omega, j + 1, by omega, by omega, T, ow2, ?_, ?_, kq⟩
      · exact fun t ht => (ot t ht).kb ((Keep.push h1 _).push' _).kb
      · rw [ht1, List.filter_append, hT, List.filter_cons, iw]
        simp
/-- What Merge has done: M, from what U and V are left of. -/
structure Mer (h : IHeap) (U V M : List SH) (va vb w : Value) (h1 : IHeap) : Prop where
  kp : Keep h h1
  z : h.size + 2 ≤ h1.size
  p : h1.get h.size = some (.row false 0 [va])
  q : h1.get (h.size + 1) = some (.row false 0 [vb])
  u : ShS h va U
  v : ShS h vb V
  o : OwnS (h.size + 2) h1 w M
  l : ∀ s ∈ U ++ V, s.xs.length ≤ 400
  t : OwnT (h.size + 2) h1 M
theorem Mer.keep {h : IHeap} {U V M : List SH} {va vb w : Value} {h1 h2 : IHeap} (x : Mer h U V M va vb w h1) (k : Keep h1 h2) : Mer h U V M va vb w h2 :=
  ⟨x.kp.trans k, by have := x.z; have := k.le; omega, k.get x.p, k.get x.q, x.u, x.v, x.o.keep k, x.l, fun t ht => (x.t t ht).kb k.kb⟩
theorem OwnS.set {lo : Nat} {h : IHeap} {w : Value} {M : List SH} (x : OwnS lo h w M) {i : Nat} {cs : List Value} (o : IObj) (e : h.get i = some (.row false 0 cs)) (hi : i < lo) : OwnS lo (h.set i o) w M := by
  obtain ⟨x, y⟩ := x
  refine ⟨?_, fun t ht => ⟨(y t ht).1.kb (KB.set o e (by omega)), (y t ht).2⟩⟩
  rcases x with h | ⟨j, hj, h, g⟩
  · exact .inl h
  · exact .inr ⟨j, hj, h, by rw [IHeap.get_set_ne _ (by omega)]; exact g⟩
theorem OwnT.set {lo : Nat} {h : IHeap} {M : List SH} (x : OwnT lo h M) {i : Nat} {cs : List Value} (o : IObj) (e : h.get i = some (.row false 0 cs)) : OwnT lo (h.set i o) M := fun t ht => (x t ht).kb (KB.set o e (by omega))
theorem merge2_c {h : IHeap} {va vb : Value} {S T : List SH} (x : ShS h va S) (y : ShS h vb T) (hS : S.length ≤ 60) (hT : T.length ≤ 60) (h4 : ∀ s ∈ S ++ T, s.xs.length ≤ 400) : FN Try.prog 16 #[va, vb] h (Q := ⟨fun v h' => ∃ M, OwnS h.size h' v M ∧ OwnT h.size h' M ∧ M.map SH.ct = (mg S T).map SH.ct ∧ Keep h h'⟩) := by
  obtain ⟨A, c, rfl, _⟩ := id x
  obtain ⟨B, d, rfl, _⟩ := id y
  refine FN.enter mixed (fn := Try.f16) (by kernel_rfl) rfl (by kernel_rfl) fun e hn hg hd => ?_
  simp [Try.f16] at hn
  have a0 : e.get 0 = .slice A S.length c := hg 0 (by omega)
  have a1 : e.get 1 = .slice B T.length d := hg 1 (by omega)
  clear hg
  simp (maxSteps := 1000000) (disch := first | (simp; done) | (simp only [IHeap.size_push', IHeap.size_set']; omega) | omega) [a0, a1, hn, hd]
  refine WPL.by_inv mixed (by kernel_rfl) (fun k e h' => ∃ (U V M : List SH) (va vb w : Value), k = U.length + V.length ∧ M.length + k = S.length + T.length ∧ e.n = 47 ∧ e.dfr = [] ∧ e.get 2 = .pointer (some ⟨h.size, 0, none⟩) ∧ e.get 3 = .pointer (some ⟨h.size + 1, 0, none⟩) ∧ e.get 4 = w ∧ Mer h U V M va vb w h' ∧ M.map SH.ct ++ (mg U V).map SH.ct = (mg S T).map SH.ct) (S.length + T.length) ?_ ?_
  · refine ⟨S, T, [], .slice A S.length c, .slice B T.length d, .slice none 0 0, rfl, by simp, ?_⟩
    simp (maxSteps := 1000000) (disch := first | (simp; done) | (simp only [IHeap.size_push', IHeap.size_set']; omega) | omega) [a0, a1, hn, hd]
    refine ⟨(Keep.push _ _).push' _, by simp only [IHeap.size_push']; omega, ?_, ?_, x, y, ⟨.inl ⟨rfl, rfl⟩, fun t ht => by simp at ht⟩, h4, fun t ht => by simp at ht⟩
    · simp (maxSteps := 1000000) (disch := first | (simp; done) | (simp only [IHeap.size_push', IHeap.size_set']; omega) | omega) []
    · simp (maxSteps := 1000000) (disch := first | (simp; done) | (simp only [IHeap.size_push', IHeap.size_set']; omega) | omega) []
  clear hn hd a0 a1 e
  rintro k e h1 ⟨U, V, M, va, vb, w, rfl, hk, hn, hd, a2, a3, a4, me, em⟩
  obtain ⟨A1, c1, rfl, _⟩ := id me.u
  obtain ⟨B1, d1, rfl, _⟩ := id me.v
  by_cases hz : U.length + V.length = 0
  · have hu : U = [] := List.eq_nil_of_length_eq_zero (by omega)
    have hv : V = [] := List.eq_nil_of_length_eq_zero (by omega)
    subst hu hv
    have p := me.p
    have q := me.q
    simp (maxSteps := 1000000) (disch := first | (simp; done) | (simp only [IHeap.size_push', IHeap.size_set']; omega) | omega) [a2, a3, a4, hn, hd, p, q]
    have ow := me.o
    rw [mg_l, List.map_nil, List.append_nil] at em
    refine ⟨M, ⟨?_, ow.2⟩, fun t ht => (me.t t ht).low (by omega), em, me.kp⟩
    rcases ow.1 with h | ⟨j, hj, h⟩
    · exact .inl h
    · exact .inr ⟨j, by omega, h⟩
  · have gz : (0 : Int) < U.length + V.length := by omega
    have p := me.p
    have q := me.q
    have pz := me.z
    have pl : h.size < h1.size := by omega
    rw [WP_seq (Q := _)]
    rw [WP_seq (Q := _)]
    simp (maxSteps := 1000000) (disch := first | (simp; done) | (simp only [IHeap.size_push', IHeap.size_set']; omega) | omega) [-WP_seq, a2, a3, a4, hn, hd, p, q, gz]
    rw [WP_seq (Q := _)]
    simp (maxSteps := 1000000) (disch := first | (simp; done) | (simp only [IHeap.size_push', IHeap.size_set']; omega) | omega) [-WP_seq, a2, a3, a4, hn, hd, p, q, gz]
    refine WP.cut1 (fun e' h2 => ∃ f : Bool, e'.n = 47 ∧ e'.dfr = [] ∧ e'.get 2 = .pointer (some ⟨h.size, 0, none⟩) ∧ e'.get 3 = .pointer (some ⟨h.size + 1, 0, none⟩) ∧ e'.get 4 = w ∧ e'.get 5 = .pointer (some ⟨h.size + f.toNat, 0, none⟩) ∧ Mer h U V M (.slice A1 U.length c1) (.slice B1 V.length d1) w h2 ∧ (f = false → ∃ u U', U = u :: U' ∧ mg U V = u :: mg U' V) ∧ (f = true → ∃ v V', V = v :: V' ∧ mg U V = v :: mg U V')) ?_ ?_
    · cases U with
      | nil =>
        have hv : V.length ≠ 0 := by simpa using hz
        simp (maxSteps := 1000000) (disch := first | (simp; done) | (simp only [IHeap.size_push', IHeap.size_set']; omega) | omega) [a2, a3, a4, hn, hd, p, q, undef]
        cases V with
        | nil => exact absurd rfl hv
        | cons v V => exact ⟨niC_pend [] (by kernel_rfl) trivial, me, ⟨v, V, rfl, by rw [mg_l, mg_l]⟩⟩
      | cons u U =>
        have gu : ¬ ((U.length : Int) + 1 = 0) := by omega
        cases V with
        | nil =>
          simp (maxSteps := 1000000) (disch := first | (simp; done) | (simp only [IHeap.size_push', IHeap.size_set']; omega) | omega) [a2, a3, a4, hn, hd, p, q, gu, undef]
          exact ⟨niC_pend [] (by kernel_rfl) trivial, me, ⟨u, U, ⟨rfl, rfl⟩, by rw [mg_nil, mg_nil]⟩⟩
        | cons v V =>
          have xu := me.u.keep me.kp
          have xv := me.v.keep me.kp
          obtain ⟨r1, q1, ro1, z1, cs1, rfl, hg1, hz1, hs1, hok1⟩ := xu.at (i := 0) (by simp)
          obtain ⟨r2, q2, ro2, z2, cs2, rfl, hg2, hz2, hs2, hok2⟩ := xv.at (i := 0) (by simp)
          rw [Nat.zero_mul, Nat.add_zero] at hs1 hs2
          simp only [List.getElem_cons_zero] at hs1 hs2 hok1 hok2
          obtain ⟨B1, d3, eb1, _⟩ := hok1.b
          obtain ⟨B2, d4, eb2, _⟩ := hok2.b
          have gv : (0 : Int) < (V.length : Int) + 1 := by omega
          have tb := time_c hok2
          have ta := time_c (hok1.keep (Keep.push _ (.row false 0 v.cells)))
          simp only [SH.val, SH.cells, eb1, eb2] at ta tb
          simp (maxSteps := 1000000) (disch := first | (simp; done) | (simp only [IHeap.size_push', IHeap.size_set']; omega) | omega) [a2, a3, a4, hn, hd, p, q, hg1, hg2, hs1, hs2, SH.cells, eb1, eb2, gu, gv]
          refine FN.of tb ?_
          have hg3 := (Keep.push h1 (.row false 0 v.cells)).get hg1
          simp only [SH.cells, eb2] at hg3
          simp (maxSteps := 1000000) (disch := first | (simp; done) | (simp only [IHeap.size_push', IHeap.size_set']; omega) | omega) [a2, a3, a4, hn, hd, p, q, hg3, hg1, hg2, hs1, hs2, SH.cells, eb1, eb2, gu, gv]
          refine FN.of ta ?_
          have me2 := me.keep ((Keep.push h1 (.row false 0 v.cells)).push' (.row false 0 u.cells))
          have k1 : (h1.push (.row false 0 v.cells)).get h.size = h1.get h.size := (Keep.push _ _).eq _ pl
          have k2 : (h1.push (.row false 0 v.cells)).get r1 = h1.get r1 := (Keep.push _ _).eq _ (IHeap.get_lt hg1)
          simp only [SH.cells, eb1, eb2] at me2 k1 k2
          by_cases ct : v.time < u.time
          · simp (maxSteps := 1000000) (disch := first | (simp; done) | (simp only [IHeap.size_push', IHeap.size_set']; omega) | omega) [a2, a3, a4, hn, hd, p, q, hg1, hg2, hs1, hs2, SH.cells, eb1, eb2, gu, gv, ct]
            refine ⟨niC_pend [(11, 12), (11, 14)] (by kernel_rfl) ⟨k1, k2, trivial⟩, me2, ⟨v, V, ⟨rfl, rfl⟩, mg_lt ct⟩⟩
          · simp (maxSteps := 1000000) (disch := first | (simp; done) | (simp only [IHeap.size_push', IHeap.size_set']; omega) | omega) [a2, a3, a4, hn, hd, p, q, hg1, hg2, hs1, hs2, SH.cells, eb1, eb2, gu, gv, ct]
            refine ⟨niC_pend [(11, 12), (11, 14)] (by kernel_rfl) ⟨k1, k2, trivial⟩, me2, ⟨u, U, ⟨rfl, rfl⟩, mg_ge ct⟩⟩
    · rintro e h2 ⟨f, hn, hd, a2, a3, a4, a5, me, fa, fb⟩
      cases f with
      | false =>
        obtain ⟨u, L, rfl, lt⟩ := fa rfl
        have xu := (me.u).keep me.kp
        have p := me.p
        have q := me.q
        have pz := me.z
        have pl : h.size < h2.size := by omega
        have pl2 : h.size + 1 < h2.size := by omega
        obtain ⟨r1, q1, ro1, z1, cs1, rfl, hg1, hz1, hs1, hok1⟩ := xu.at (i := 0) (by simp)
        rw [Nat.zero_mul, Nat.add_zero] at hs1
        simp only [List.getElem_cons_zero] at hs1 hok1
        have rl : r1 < h.size := by
          obtain ⟨A', c', e1, _, _, e2, _⟩ := me.u
          cases e1
          obtain ⟨_, _, _, _, _, e3, e4, _⟩ := e2 (by simp)
          cases e3
          exact IHeap.get_lt e4
        obtain ⟨D1, d3, eb1, _⟩ := hok1.b
        have l4 := me.l u (by simp)
        have oc := own_c hok1 l4
        simp only [SH.val, SH.cells, eb1] at oc
        have gl : (0 : Int) < (L.length : Int) + 1 := by omega
        simp only [List.length_cons, Bool.toNat_false, Bool.toNat_true, Nat.add_zero] at p q a5
        simp (maxSteps := 1000000) (disch := first | (simp; done) | (simp only [IHeap.size_push', IHeap.size_set']; omega) | omega) [a2, a3, a4, a5, hn, hd, p, q, hg1, hs1, SH.cells, eb1, gl]
        refine FN.mono oc ?_
        rintro v h3 ⟨⟨sl', rfl, ok3, ob⟩, k2⟩
        have z3 := k2.le
        have me2 := me.keep k2
        have ow := me2.o
        obtain ⟨v', h4', ap, ow3, f1, z2, kb⟩ := app_own me2.o ok3 l4 (by simp only [List.length_cons] at hk; omega) (by omega)
        obtain ⟨B', d', eb', _⟩ := ok3.b
        dsimp only at eb'
        subst eb'
        simp only [SH.cells] at ap
        have zz : zeros #[Value.int .u32 0, Value.int .u32 0, Value.int .u32 0, Value.slice none 0 0] 1 = [Value.int .u32 0, Value.int .u32 0, Value.int .u32 0, Value.slice none 0 0] := rfl
        have p4 : h4'.get h.size = _ := (f1 _ (by omega)).trans (k2.get p)
        have q4 : h4'.get (h.size + 1) = _ := (f1 _ (by omega)).trans (k2.get q)
        have g4 : h4'.get r1 = _ := (f1 _ (by omega)).trans (k2.get hg1)
        simp (maxSteps := 1000000) (disch := first | (simp; done) | (simp only [IHeap.size_push', IHeap.size_set']; omega) | omega) [a2, a3, a4, a5, hn, hd, SH.val, SH.cells, zz, ap, p4, q4]
        have cle : L.length + 1 ≤ c1 := by
          obtain ⟨A', c', e1, _, e2, _⟩ := id (me.u)
          cases e1
          exact e2
        have isl := islice_eq (P := Try.prog) (q := q1) (l := 1) (lo := some (.int .i64 1)) (hi := none) sl23 g4 hz1 (bounds_lo (k := .i64) (l := 1) (n := L.length + 1) (c := c1) (by omega) cle)
        simp only [Nat.one_mul, Nat.add_sub_cancel] at isl
        simp (maxSteps := 1000000) (disch := first | (simp; done) | (simp only [IHeap.size_push', IHeap.size_set']; omega) | omega) [a2, a3, a4, a5, hn, hd, SH.val, SH.cells, zz, ap, p4, q4, cutV, isl]
        have xs' := ShS.tail me.u
        have ot3 : OwnT (h.size + 2) h4' (M ++ [⟨u.sec, u.micro, u.had, u.xs, .slice B' u.xs.length d'⟩]) := ownT_snoc me2.t kb (ob.low (by omega))
        refine ⟨L.length + V.length, by omega, L, V, rfl, M ++ [⟨u.sec, u.micro, u.had, u.xs, .slice B' u.xs.length d'⟩], by simp only [List.length_append, List.length_cons, List.length_nil] at hk ⊢; omega, ⟨.slice (some ⟨r1, q1 + 4, none⟩) L.length (c1 - 1), .slice B1 V.length d1, ?_⟩, ?_⟩
        · have kk := me.kp.trans k2
          exact ⟨⟨by rw [IHeap.size_set']; omega, fun i hi => by rw [IHeap.get_set_ne _ (by omega), f1 i (by omega)]; exact kk.eq i hi⟩, by rw [IHeap.size_set']; omega, by rw [IHeap.get_set_same _ (by omega)], by rw [IHeap.get_set_ne _ (by omega)]; exact q4, xs', me.v, ow3.set _ p4 (by omega), fun s hs => me.l s (by simp only [List.mem_append, List.mem_cons] at hs ⊢; exact hs.imp .inr id), ot3.set _ p4⟩
        · rw [lt] at em
          rw [List.map_append, List.append_assoc, ← em]
          rfl
      | true =>
        obtain ⟨u, L, rfl, lt⟩ := fb rfl
        have xu := (me.v).keep me.kp
        have p := me.p
        have q := me.q
        have pz := me.z
        have pl : h.size < h2.size := by omega
        have pl2 : h.size + 1 < h2.size := by omega
        obtain ⟨r1, q1, ro1, z1, cs1, rfl, hg1, hz1, hs1, hok1⟩ := xu.at (i := 0) (by simp)
        rw [Nat.zero_mul, Nat.add_zero] at hs1
        simp only [List.getElem_cons_zero] at hs1 hok1
        have rl : r1 < h.size := by
          obtain ⟨A', c', e1, _, _, e2, _⟩ := me.v
          cases e1
          obtain ⟨_, _, _, _, _, e3, e4, _⟩ := e2 (by simp)
          cases e3
          exact IHeap.get_lt e4
        obtain ⟨D1, d3, eb1, _⟩ := hok1.b
        have l4 := me.l u (by simp)
        have oc := own_c hok1 l4
        simp only [SH.val, SH.cells, eb1] at oc
        have gl : (0 : Int) < (L.length : Int) + 1 := by omega
        simp only [List.length_cons, Bool.toNat_false, Bool.toNat_true, Nat.add_zero] at p q a5
        simp (maxSteps := 1000000) (disch := first | (simp; done) | (simp only [IHeap.size_push', IHeap.size_set']; omega) | omega) [a2, a3, a4, a5, hn, hd, p, q, hg1, hs1, SH.cells, eb1, gl]
        refine FN.mono oc ?_
        rintro v h3 ⟨⟨sl', rfl, ok3, ob⟩, k2⟩
        have z3 := k2.le
        have me2 := me.keep k2
        have ow := me2.o
        obtain ⟨v', h4', ap, ow3, f1, z2, kb⟩ := app_own me2.o ok3 l4 (by simp only [List.length_cons] at hk; omega) (by omega)
        obtain ⟨B', d', eb', _⟩ := ok3.b
        dsimp only at eb'
        subst eb'
        simp only [SH.cells] at ap
        have zz : zeros #[Value.int .u32 0, Value.int .u32 0, Value.int .u32 0, Value.slice none 0 0] 1 = [Value.int .u32 0, Value.int .u32 0, Value.int .u32 0, Value.slice none 0 0] := rfl
        have p4 : h4'.get h.size = _ := (f1 _ (by omega)).trans (k2.get p)
        have q4 : h4'.get (h.size + 1) = _ := (f1 _ (by omega)).trans (k2.get q)
        have g4 : h4'.get r1 = _ := (f1 _ (by omega)).trans (k2.get hg1)
        simp (maxSteps := 1000000) (disch := first | (simp; done) | (simp only [IHeap.size_push', IHeap.size_set']; omega) | omega) [a2, a3, a4, a5, hn, hd, SH.val, SH.cells, zz, ap, p4, q4]
        have cle : L.length + 1 ≤ d1 := by
          obtain ⟨A', c', e1, _, e2, _⟩ := id (me.v)
          cases e1
          exact e2
        have isl := islice_eq (P := Try.prog) (q := q1) (l := 1) (lo := some (.int .i64 1)) (hi := none) sl23 g4 hz1 (bounds_lo (k := .i64) (l := 1) (n := L.length + 1) (c := d1) (by omega) cle)
        simp only [Nat.one_mul, Nat.add_sub_cancel] at isl
        simp (maxSteps := 1000000) (disch := first | (simp; done) | (simp only [IHeap.size_push', IHeap.size_set']; omega) | omega) [a2, a3, a4, a5, hn, hd, SH.val, SH.cells, zz, ap, p4, q4, cutV, isl]
        have xs' := ShS.tail me.v
        have ot3 : OwnT (h.size + 2) h4' (M ++ [⟨u.sec, u.micro, u.had, u.xs, .slice B' u.xs.length d'⟩]) := ownT_snoc me2.t kb (ob.low (by omega))
        refine ⟨L.length + U.length, by omega, U, L, Nat.add_comm _ _, M ++ [⟨u.sec, u.micro, u.had, u.xs, .slice B' u.xs.length d'⟩], by simp only [List.length_append, List.length_cons, List.length_nil] at hk ⊢; omega, ⟨.slice A1 U.length c1, .slice (some ⟨r1, q1 + 4, none⟩) L.length (d1 - 1), ?_⟩, ?_⟩
        · have kk := me.kp.trans k2
          exact ⟨⟨by rw [IHeap.size_set']; omega, fun i hi => by rw [IHeap.get_set_ne _ (by omega), f1 i (by omega)]; exact kk.eq i hi⟩, by rw [IHeap.size_set']; omega, by rw [IHeap.get_set_ne _ (by omega)]; exact p4, by rw [IHeap.get_set_same _ (by omega)], me.u, xs', ow3.set _ q4 (by omega), fun s hs => me.l s (by simp only [List.mem_append, List.mem_cons] at hs ⊢; exact hs.imp id .inr), ot3.set _ q4⟩
        · rw [lt] at em
          rw [List.map_append, List.append_assoc, ← em]
          rfl
end Go.Proofs.Ytkpbdhfaobmbpaa.Ideal
