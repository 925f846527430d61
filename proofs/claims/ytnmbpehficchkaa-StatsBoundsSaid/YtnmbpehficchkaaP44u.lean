import Derived.Test.YtnmbpehficchkaaP44t
noncomputable section
open Go.Proofs
namespace Go.Proofs.Ytnmbpehficchkaa.Ideal
open Go.RowKit
set_option linter.unusedSimpArgs false
set_option linter.unusedVariables false
set_option linter.unusedSectionVars false
set_option maxRecDepth 100000
set_option maxHeartbeats 4000000
attribute [-simp] IHeap.size_set IHeap.size_push
attribute [local simp ↓] Hid.ap_mk
attribute [local simp] scopeQ_normal scopeQ_ret scopeQ_exit WP_skip WP_label WP_exit WP_goto WP_ret WP_region WP_seq WP_cond WP_block WP_scope WP_loop WP_range thenQ_normal thenQ_ret thenQ_exit thenQ_goto loopQ_normal loopQ_ret loopQ_exit invQ_normal invQ_ret invQ_exit outOf_normal outOf_ret outOf_goto outOf_exit ev_tmp ev_const ev_func
  wops_nil wops_cons wantedE_none wantedE_some jgd_some wnx_eq niC_false wdo_move wdo_assign wdo_pick wdo_load wdo_store wdo_alloc wdo_box wdo_fieldAddr wdo_indexAddr wdo_field wdo_extract wdo_build wdo_buildSlice wdo_makeSlice wdo_binOp wdo_unOp wdo_makeFunc wdo_nilCheck wdo_callV wdo_len wdo_append wdo_copy wdo_delete wdo_max wdo_min wdo_convert jcvt_int
  xput_get put_n put_none put_dfr ibin finQ_n finQ_r finD_nil splice_one ires_nil ires_one ires_two ires_three ires1_tmp ires1_cell jcell_ptr rowLoad_row wrap64 wrapU64 wrapU8 wrapU16 wrapU32 callV_fn buildOf Instr.fill Value.cells Value.oneCell' kindOf slots_all splice_all IHeap.size_set' IHeap.size_push' IHeap.get_set_same IHeap.get_set_ne IHeap.get_pushed IHeap.get_push_ne IHeap.set_set IHeap.set_push IHeap.set_pushed IHeap.set_set3 getU_nil getU_same getU_ne jif_true jif_false pushH_eq setH_eq forceL_eq forceV_eq ibuildSlice
attribute [local simp] wdo_index jopt_some
attribute [-simp] Value.oneCell'
attribute [local simp] one_int' one_slc'
/-- Rows stay, but for T and counters. -/
structure FrT (T : Nat) (h h' : IHeap) : Prop where
  le : h.size ≤ h'.size
  eq : ∀ i ro z cs, i ≠ T → z ≠ 39 → h.get i = some (.row ro z cs) → h'.get i = some (.row ro z cs)
theorem FrT.refl (T : Nat) (h : IHeap) : FrT T h h := ⟨Nat.le_refl _, fun _ _ _ _ _ _ e => e⟩
theorem FrT.trans {T : Nat} {a b c : IHeap} (x : FrT T a b) (y : FrT T b c) : FrT T a c := ⟨Nat.le_trans x.le y.le, fun i ro z cs h1 h2 e => y.eq i ro z cs h1 h2 (x.eq i ro z cs h1 h2 e)⟩
theorem Keep.frT {h h' : IHeap} (k : Keep h h') (T : Nat) : FrT T h h' := ⟨k.le, fun i ro z cs _ _ e => k.get e⟩
theorem FrT.setT {T : Nat} {a h : IHeap} (x : FrT T a h) (o : IObj) : FrT T a (h.set T o) := ⟨by rw [IHeap.size_set']; exact x.le, fun i ro z cs h1 h2 e => by rw [IHeap.get_set_ne _ (fun e => h1 e.symm)]; exact x.eq i ro z cs h1 h2 e⟩
theorem FrT.setC {T j : Nat} {a h : IHeap} {cs : List Value} (x : FrT T a h) (o : IObj) (hj : h.get j = some (.row false 39 cs)) : FrT T a (h.set j o) := ⟨by rw [IHeap.size_set']; exact x.le, fun i ro z cs2 h1 h2 e => by
  have e2 := x.eq i ro z cs2 h1 h2 e
  rw [IHeap.get_set_ne _ (fun hh => by
    subst hh
    rw [hj] at e2
    cases e2
    exact h2 rfl)]
  exact e2⟩
theorem ni67 : notInt Try.prog 67 = true := by kernel_rfl
theorem ccs_one (L : List CN) : (ccs L).all (·.oneCell') = true := by
  induction L with
  | nil => rfl
  | cons c L ih =>
    show (c.cells ++ ccs L).all _ = true
    rw [List.all_append, ih, one_cn]
    rfl
theorem ccs_len (L : List CN) : (ccs L).length = L.length * 39 := fm_len cn_len L
theorem ccs_app (L M : List CN) : ccs (L ++ M) = ccs L ++ ccs M := by simp [ccs]
/-- One more counter. -/
theorem app_cn {h : IHeap} {v : Value} {L : List CN} {c : CN} {T : Nat} (x : SlC h v L) (hL : L.length ≤ 1000) :
    ∃ v' h', iappend Try.prog (h.push (.row false 39 c.cells)) 67 67 v (.slice (some ⟨h.size, 0, none⟩) 1 1) = some (v', h') ∧ SlC h' v' (L ++ [c]) ∧ FrT T h h' ∧ ∀ i cs, h.get i = some (.row false 0 cs) → h'.get i = some (.row false 0 cs) := by
  have sr : srcOf (h.push (.row false 39 c.cells)) 39 (.slice (some ⟨h.size, 0, none⟩) 1 1) = some (1, c.cells) := src_row (IHeap.get_pushed _ rfl) (by exact slots_full _ rfl) (by omega)
  have kp := Keep.push h (.row false 39 c.cells)
  rcases x with ⟨rfl, rfl⟩ | ⟨j, rfl, hg⟩
  · refine ⟨_, _, iapp_nil sl67 ze80 bt80 rfl (by omega) ni67 sr (one_cn c) (by omega) (by omega), .inr ⟨(h.push (.row false 39 c.cells)).size, rfl, ?_⟩, (kp.push' _).frT T, fun i cs e => (kp.push' _).get e⟩
    rw [IHeap.get_pushed _ rfl]
    simp [ccs]
  · have hjs := IHeap.get_lt hg
    obtain ⟨h2, k, ap, r2, k2, z2, f2⟩ := iapp_any (P := Try.prog) (h := h.push (.row false 39 c.cells)) (t := 67) (t2 := 67) (i := j) (n := L.length) (m := 1) (cs := ccs L) (news := c.cells) sl67 ze80 bt80 (by rfl) (by omega) ni67 sr (one_cn c) (by rfl) (by omega) (kp.get hg) (ccs_len L)
    rw [IHeap.size_push'] at k2 z2 f2
    refine ⟨_, h2, ap, .inr ⟨k, by rw [List.length_append]; rfl, ?_⟩, ⟨by omega, fun i ro z cs h1 hz e => ?_⟩, fun i cs e => ?_⟩
    · rw [r2, ccs_app]
      simp [ccs]
    · have hr := IHeap.get_lt e
      rw [k2 i (by omega) (fun er => by
        subst er
        rw [hg] at e
        cases e
        exact hz rfl)]
      exact kp.get e
    · have hr := IHeap.get_lt e
      rw [k2 i (by omega) (fun er => by
        subst er
        rw [hg] at e
        cases e)]
      exact kp.get e
theorem SlC.setT {h : IHeap} {v : Value} {L : List CN} {T : Nat} {cs : List Value} (x : SlC h v L) (hT : h.get T = some (.row false 0 cs)) (o : IObj) : SlC (h.set T o) v L := by
  refine x.imp id fun ⟨j, e1, e2⟩ => ⟨j, e1, ?_⟩
  rw [IHeap.get_set_ne _ (fun hh => by
    subst hh
    rw [hT] at e2
    cases e2)]
  exact e2
theorem bld47 (d w : Nat) : buildOf Try.prog 47 [(0, .agg (keyC d).toArray), (1, .int .u64 (w : Nat))] = some (.agg (CN.tal ⟨d, w, 0, 0⟩).toArray) := by kernel_rfl
theorem bld47e (d w x : Nat) : buildOf Try.prog 47 [(0, .agg (keyC d).toArray), (1, .int .u64 (w : Nat)), (2, .int .u64 (x : Nat))] = some (.agg (CN.tal ⟨d, w, x, 0⟩).toArray) := by kernel_rfl
theorem bld80 (c : CN) (t : Nat) : buildOf Try.prog 80 [(0, .agg c.tal.toArray), (1, .int .u64 (t : Nat))] = some (.agg (CN.cells ⟨c.d, c.count, c.err, t⟩).toArray) := by kernel_rfl
theorem bld45 (d : Nat) : buildOf Try.prog 45 [(5, .int .u16 (d : Nat))] = some (.agg (keyC d).toArray) := by kernel_rfl
def z39 : CN := ⟨0, 0, 0, 0⟩
theorem ze80' : zeroOf Try.prog 80 = some z39.cells.toArray := by kernel_rfl
theorem ze47' : zeroOf Try.prog 47 = some z39.tal.toArray := by kernel_rfl
theorem zz80 : zeros z39.cells.toArray 1 = z39.cells := rfl
theorem zz47 : zeros z39.tal.toArray 1 = z39.tal := rfl
theorem fl80' (c : CN) : Instr.fill (fun i => some (i * 39, 39)) z39.cells.toArray [(0, Value.agg c.cells.toArray)] = some c.cells.toArray := by kernel_rfl
theorem fl47' (c : CN) : Instr.fill (fun i => some (i * 38, 38)) z39.tal.toArray [(0, Value.agg c.tal.toArray)] = some c.tal.toArray := by kernel_rfl
attribute [-simp] ze80 ze47
attribute [local simp] ze80' ze47' zz80 zz47 bld47 bld47e bld80 bld45 fl80' fl47'
def AddQ (T k d w total turns : Nat) (L : List CN) (h : IHeap) (v : Value) (h' : IHeap) : Prop :=
  ∃ sl L' turns', v = .int .i64 0 ∧ AddR k L d w L' ∧ SlC h' sl L' ∧ h'.get T = some (.row false 0 (tkr k sl turns' (total + w))) ∧ turns' ≤ turns + 1 ∧ FrT T h h'
theorem tadd_c {h : IHeap} {T k turns total d w : Nat} {sl : Value} {L : List CN} (hT : h.get T = some (.row false 0 (tkr k sl turns total))) (x : SlC h sl L) (hk : 1 ≤ k) (hk2 : k ≤ 64) (hL : L.length ≤ 200) (hw : 1 ≤ w) (ht : total + w ≤ 1000000) (hc : ∀ c ∈ L, c.count + w ≤ 1000000) (hu : turns ≤ 1000000) :
    FN Try.prog 13 #[.pointer (some ⟨T, 0, none⟩), keyV d, .int .u64 w] h (Q := ⟨fun v h' => AddQ T k d w total turns L h v h'⟩) := by
  have hTl := IHeap.get_lt hT
  obtain ⟨A, cc, rfl⟩ := x.form
  have kp := Keep.push h (.row false 0 (keyC d))
  have hT2 := kp.get hT
  have nc := none_c hT2 hk
  have w0 : ((w : Int) = 0) = False := eq_false (by omega)
  have w1 : (w = 0) = False := eq_false (by omega)
  rw [tkr] at hT2
  refine FN.enter mixed (fn := Try.f13) (by kernel_rfl) rfl (by kernel_rfl) fun e hn hg hd => ?_
  simp [Try.f13] at hn
  have a0 : e.get 0 = .pointer (some ⟨T, 0, none⟩) := hg 0 (by omega)
  have a1 : e.get 1 = keyV d := hg 1 (by omega)
  have a2 : e.get 2 = .int .u64 w := hg 2 (by omega)
  clear hg
  simp (maxSteps := 1000000) (disch := first | (simp; done) | (simp only [IHeap.size_push', IHeap.size_set']; omega) | omega) [a0, a1, a2, hn, hd, keyV, one_key]
  refine FN.of nc ?_
  simp (maxSteps := 1000000) (disch := first | (simp; done) | (simp only [IHeap.size_push', IHeap.size_set']; omega) | omega) [a0, a1, a2, hn, hd, w0, w1, hT2]
  refine FN.of (sum_c (by omega)) ?_
  have bx : (h.push (.row false 0 (keyC d))).get h.size = some (.row false 0 (keyC d)) := IHeap.get_pushed _ rfl
  have kf : slots (keyC d) 0 36 = some (keyC d) := slots_full _ (keyC_len d).symm
  simp (maxSteps := 1000000) (disch := first | (simp; done) | (simp only [IHeap.size_push', IHeap.size_set']; omega) | omega) [a0, a1, a2, hn, hd, w0, w1, hT2, bx, kf]
  generalize hh1 : IHeap.push (IHeap.set h T _) _ = h1
  have kp1 : ∀ o, Keep (h.set T o) ((h.set T o).push (.row false 0 (keyC d))) := fun o => Keep.push _ _
  have hT3 : h1.get T = some (.row false 0 (tkr k (.slice A L.length cc) turns (total + w))) := by
    rw [← hh1]
    refine (kp1 _).get ?_
    rw [IHeap.get_set_same _ hTl]
    simp [tkr]
  have bx1 : h1.get h.size = some (.row false 0 (keyC d)) := by
    rw [← hh1]
    exact IHeap.get_pushed _ (by rw [IHeap.size_set'])
  have fr1 : FrT T h h1 := by
    rw [← hh1]
    exact ((FrT.refl T h).setT _).trans ((kp1 _).frT T)
  have x1 : SlC h1 (.slice A L.length cc) L := by
    refine x.imp id fun ⟨j, e1, e2⟩ => ⟨j, e1, ?_⟩
    rw [← hh1]
    refine (kp1 _).get ?_
    rw [IHeap.get_set_ne _ (fun hh => by
      subst hh
      rw [hT] at e2
      cases e2)]
    exact e2
  have z1 := fr1.le
  have oc := of_c (d := d) hT3 x1 hL
  rw [keyV] at oc
  refine FN.mono oc ?_
  rintro v h2 ⟨n, rfl, at', k2⟩
  have hT4 := k2.get hT3
  have bx2 := k2.get bx1
  have z2 := k2.le
  have x2 := x1.keep k2
  have fr2 := fr1.trans (k2.frT T)
  rw [tkr] at hT4
  rcases at' with ⟨i, hi, hd', rfl⟩ | ⟨nm, rfl⟩
  · have i0 : (0 : Int) ≤ i := by omega
    have i1 : (i : Int) < L.length := by omega
    obtain ⟨r, rfl, rfl, hr⟩ := x2.at.2 i hi
    have gc := fm_get cn_len L i hi (cn36 L[i])
    change (ccs L)[i * 39 + 36]? = _ at gc
    have hci := hc _ (List.getElem_mem hi)
    simp (maxSteps := 1000000) (disch := first | (simp; done) | (simp only [IHeap.size_push', IHeap.size_set']; omega) | omega) [a0, a1, a2, hn, hd, i0, i1, hi, hT4, hr, gc]
    refine FN.of (sum_c (by omega)) ?_
    have sp := fm_splice cn_len L i hi (k := 36) (vs := [.int .u64 (L[i].count + w : Nat)]) (c := ⟨L[i].d, L[i].count + w, L[i].err, L[i].turn⟩) (by simp) (cn_set36 _ _)
    change splice (ccs L) _ _ = ccs _ at sp
    rw [Int.natCast_add] at sp
    have wl : i * 39 + 36 + 1 ≤ (ccs L).length := by rw [ccs_len]; omega
    have wl2 : i * 39 + 36 < (ccs L).length := by omega
    simp (maxSteps := 1000000) (disch := first | (simp; done) | (simp only [IHeap.size_push', IHeap.size_set']; omega) | omega) [a0, a1, a2, hn, hd, i0, i1, hi, hT4, hr, gc, sp, wl, wl2, -splice_one]
    refine ⟨niC_pend [(3, 15)] (by kernel_rfl) ⟨rfl, trivial⟩, .slice (some ⟨r, 0, none⟩) L.length L.length, L.set i ⟨L[i].d, L[i].count + w, L[i].err, L[i].turn⟩, turns, rfl, .inl ⟨i, hi, hd', rfl⟩, .inr ⟨r, by rw [List.length_set], ?_⟩, ?_, by omega, fr2.setC _ hr⟩
    · exact IHeap.get_set_same _ (IHeap.get_lt hr)
    · rw [IHeap.get_set_ne _ (fun hh => by
        subst hh
        rw [hT4] at hr
        cases hr)]
      exact hT4
  · have tw : turns + 1 < 18446744073709551616 := by omega
    by_cases lk : (L.length : Int) < k
    · have b80 := bld80 ⟨d, w, 0, 0⟩ (turns + 1)
      rw [Int.natCast_add] at b80
      change buildOf Try.prog 80 [(0, .agg (CN.tal ⟨d, w, 0, 0⟩).toArray), (1, .int .u64 ((turns : Int) + 1))] = _ at b80
      obtain ⟨o3, ho3⟩ : ∃ o, o = IObj.row false 0 [.int .i64 (k : Nat), .slice A L.length cc, .int .u64 ((turns : Int) + 1), .int .u64 ((total : Int) + w)] := ⟨_, rfl⟩
      have x3 : SlC (h2.set T o3) (.slice A L.length cc) L := by
        refine x2.imp id fun ⟨j, e1, e2⟩ => ⟨j, e1, ?_⟩
        rw [IHeap.get_set_ne _ (fun hh => by
          subst hh
          rw [hT4] at e2
          cases e2)]
        exact e2
      obtain ⟨sl', h4, ap, x4, fr4, bo4⟩ := app_cn (T := T) (c := ⟨d, w, 0, turns + 1⟩) x3 (by omega)
      have hT5 := bo4 T _ (by rw [IHeap.get_set_same _ (by omega), ho3])
      have hT5' := hT5
      have z4 := fr4.le
      rw [IHeap.size_set'] at ap z4
      rw [ho3] at ap
      obtain ⟨A4, c4, rfl⟩ := x4.form
      simp (maxSteps := 1000000) (disch := first | (simp; done) | (simp only [IHeap.size_push', IHeap.size_set']; omega) | omega) [-buildOf, -Instr.fill, a0, a1, a2, hn, hd, hT4, bx2, kf, lk, one_cn, cn_len, tal_len, cn_set, b80, ap, hT5]
      refine ⟨niC_pend [] (by kernel_rfl) trivial, niC_pend [] (by kernel_rfl) trivial, .slice A4 (L ++ [(⟨d, w, 0, turns + 1⟩ : CN)]).length c4, L ++ [⟨d, w, 0, turns + 1⟩], turns + 1, rfl, .inr (.inl ⟨nm, by omega, turns + 1, rfl⟩), ?_, ?_, Nat.le_refl _, ?_⟩
      · exact x4.setT hT5' _
      · rw [IHeap.get_set_same _ (IHeap.get_lt hT5')]
        simp [tkr]
      · exact ((fr2.setT _).trans fr4).setT _
    · have kL : k ≤ L.length := by omega
      obtain ⟨o3, ho3⟩ : ∃ o, o = IObj.row false 0 [.int .i64 (k : Nat), .slice A L.length cc, .int .u64 ((turns : Int) + 1), .int .u64 ((total : Int) + w)] := ⟨_, rfl⟩
      have x3 : SlC (h2.set T o3) (.slice A L.length cc) L := by
        refine x2.imp id fun ⟨j, e1, e2⟩ => ⟨j, e1, ?_⟩
        rw [IHeap.get_set_ne _ (fun hh => by
          subst hh
          rw [hT4] at e2
          cases e2)]
        exact e2
      have hT5 : (h2.set T o3).get T = some o3 := IHeap.get_set_same _ (by omega)
      have bx3 : (h2.set T o3).get h.size = some (.row false 0 (keyC d)) := by
        rw [IHeap.get_set_ne _ (by omega)]
        exact bx2
      have fr3 : FrT T h (h2.set T o3) := fr2.setT _
      obtain ⟨r, rfl, rfl, hr⟩ := x3.at.2 0 (by omega)
      simp (maxSteps := 1000000) (disch := first | (simp; done) | (simp only [IHeap.size_push', IHeap.size_set']; omega) | omega) [a0, a1, a2, hn, hd, hT4, bx2, kf, lk]
      refine ⟨niC_pend [] (by kernel_rfl) trivial, ?_⟩
      rw [← ho3]
      obtain ⟨H, hH⟩ : ∃ H, h2.set T o3 = H := ⟨_, rfl⟩
      have zH : H.size = h2.size := by rw [← hH, IHeap.size_set']
      rw [hH] at x3 hT5 bx3 fr3 hr ⊢
      refine WPL.by_inv mixed (by kernel_rfl) (fun k' e h' => ∃ (j m : Nat), j + k' = L.length ∧ e.n = 153 ∧ e.dfr = [] ∧ e.get 0 = .pointer (some ⟨T, 0, none⟩) ∧ e.get 2 = .int .u64 w ∧ e.get 4 = .pointer (some ⟨h.size, 0, none⟩) ∧ e.get 9 = .int .i64 m ∧ e.get 91 = .slice (some ⟨r, 0, none⟩) L.length L.length ∧ e.get 92 = .int .i64 L.length ∧ e.get 93 = .int .i64 j ∧ Keep H h' ∧ ∃ (hm : m < L.length), ∀ (i : Nat) (hi : i < L.length), i < j → L[m].count ≤ L[i].count) L.length ?_ ?_
      · refine ⟨0, 0, ?_⟩
        simp (maxSteps := 1000000) (disch := first | (simp; done) | (simp only [IHeap.size_push', IHeap.size_set']; omega) | omega) [a0, a1, a2, hn, hd]
        exact ⟨Keep.refl H, by omega⟩
      clear hn hd a0 a1 a2 e
      rintro k' e h3 ⟨j, m, hj, hn, hd, a0, a2, a4, a9, a91, a92, a93, kp3, hm, mn⟩
      have hr3 := kp3.get hr
      have hT6 := kp3.get hT5
      have bx4 := kp3.get bx3
      rw [ho3] at hT6
      have z3 := kp3.le
      have gm6 := fm_get cn_len L m hm (cn36 L[m])
      have gm8 := fm_get cn_len L m hm (cn38 L[m])
      change (ccs L)[m * 39 + 36]? = _ at gm6
      change (ccs L)[m * 39 + 38]? = _ at gm8
      have m1 : (m : Int) < L.length := by omega
      cases k' with
      | zero =>
        obtain rfl : j = L.length := by omega
        simp (maxSteps := 1000000) (disch := first | (simp; done) | (simp only [IHeap.size_push', IHeap.size_set']; omega) | omega) [-buildOf, -Instr.fill, a0, a2, a4, a9, a91, a92, a93, hn, hd, hT6, bx4, hr3, gm6, m1, hm, kf]
        have hcm := hc _ (List.getElem_mem hm)
        refine FN.of (sum_c (by omega)) ?_
        have b80 := bld80 ⟨d, L[m].count + w, L[m].count, 0⟩ (turns + 1)
        rw [Int.natCast_add] at b80
        change buildOf Try.prog 80 [(0, .agg (CN.tal ⟨d, L[m].count + w, L[m].count, 0⟩).toArray), (1, .int .u64 ((turns : Int) + 1))] = _ at b80
        have b47 := bld47e d (L[m].count + w) L[m].count
        rw [Int.natCast_add] at b47
        have sp := fm_splice cn_len L m hm (k := 0) (vs := CN.cells ⟨d, L[m].count + w, L[m].count, turns + 1⟩) (c := ⟨d, L[m].count + w, L[m].count, turns + 1⟩) (by rw [cn_len]; omega) (cn_set _ _)
        rw [Nat.add_zero] at sp
        change splice (ccs L) _ _ = ccs _ at sp
        have wl : m * 39 + 39 ≤ (ccs L).length := by rw [ccs_len]; omega
        simp (maxSteps := 1000000) (disch := first | (simp; done) | (simp only [IHeap.size_push', IHeap.size_set']; omega) | omega) [-buildOf, -Instr.fill, a0, a2, a4, a9, a91, a92, a93, hn, hd, hT6, bx4, hr3, gm6, m1, hm, kf, b47, b80, one_cn, cn_len, tal_len, sp, wl]
        refine ⟨niC_pend [(3, 8), (5, 8), (8, 14)] (by kernel_rfl) ⟨rfl, rfl, rfl, trivial⟩, .slice (some ⟨r, 0, none⟩) L.length L.length, L.set m ⟨d, L[m].count + w, L[m].count, turns + 1⟩, turns + 1, rfl, .inr (.inr ⟨nm, kL, m, hm, turns + 1, fun c hc => ?_, rfl⟩), .inr ⟨r, by rw [List.length_set], IHeap.get_set_same _ (IHeap.get_lt hr3)⟩, ?_, Nat.le_refl _, (fr3.trans (kp3.frT T)).setC _ hr3⟩
        · obtain ⟨i, hi, rfl⟩ := List.mem_iff_getElem.1 hc
          exact mn i hi hi
        · rw [IHeap.get_set_ne _ (fun hh => by
            subst hh
            rw [hT6] at hr3
            cases hr3)]
          exact hT6
      | succ k' =>
        have j2 : j < L.length := by omega
        have j1 : (j : Int) < L.length := by omega
        have sj := fm_at cn_len L j j2
        change slots (ccs L) (j * 39) 39 = _ at sj
        have q1 := Keep.push h3 (.row false 0 L[j].cells)
        have hr4 := q1.get hr3
        have hT7 := q1.get hT6
        have bj : (h3.push (.row false 0 L[j].cells)).get h3.size = some (.row false 0 L[j].cells) := IHeap.get_pushed _ rfl
        have q2 := q1.push' (.row false 1 (i64s [cmpI L[j].count L[m].count, cmpI L[j].turn L[m].turn]))
        have oc2 := or_c (h := (h3.push (.row false 0 L[j].cells)).push (.row false 1 (i64s [cmpI L[j].count L[m].count, cmpI L[j].turn L[m].turn]))) (c := 2) (IHeap.get_pushed _ rfl) (by simp)
        have zi : zeros #[Value.int .i64 0] 2 = [.int .i64 0, .int .i64 0] := rfl
        simp (maxSteps := 1000000) (disch := first | (simp; done) | (simp only [IHeap.size_push', IHeap.size_set']; omega) | omega) [-buildOf, -Instr.fill, a0, a2, a4, a9, a91, a92, a93, hn, hd, hT6, bx4, hr3, gm6, gm8, m1, hm, kf, j1, j2, sj, one_cn, cn36, cn38, cn_len, cn_set, hr4, hT7, bj, zi]
        refine FN.of cmp64_c ?_
        simp (maxSteps := 1000000) (disch := first | (simp; done) | (simp only [IHeap.size_push', IHeap.size_set']; omega) | omega) [-buildOf, -Instr.fill, a0, a2, a4, a9, a91, a92, a93, hn, hd, hT6, bx4, hr3, gm6, gm8, m1, hm, kf, j1, j2, sj, one_cn, cn36, cn38, cn_len, cn_set, hr4, hT7, bj, zi]
        refine FN.of cmp64_c ?_
        simp (maxSteps := 1000000) (disch := first | (simp; done) | (simp only [IHeap.size_push', IHeap.size_set']; omega) | omega) [-buildOf, a0, a2, a4, a9, a91, a92, a93, hn, hd, hT6, bx4, hr3, gm6, gm8, m1, hm, kf, j1, j2, sj, one_cn, cn36, cn38, cn_len, cn_set, hr4, hT7, bj, zi]
        refine FN.of oc2 ?_
        obtain ⟨ov, hov⟩ : ∃ ov, orI [cmpI L[j].count L[m].count, cmpI L[j].turn L[m].turn] = ov := ⟨_, rfl⟩
        have lt1 : ov < 0 → L[j].count ≤ L[m].count := fun hlt => by
          rw [← hov] at hlt
          simp only [orI, cmpI] at hlt
          omega
        have ge1 : ¬ ov < 0 → L[m].count ≤ L[j].count := fun hlt => by
          rw [← hov] at hlt
          simp only [orI, cmpI] at hlt
          omega
        rw [hov]
        by_cases c1 : ov < 0
        · simp (maxSteps := 1000000) (disch := first | (simp; done) | (simp only [IHeap.size_push', IHeap.size_set']; omega) | omega) [-buildOf, a0, a2, a4, a9, a91, a92, a93, hn, hd, c1]
          refine ⟨niC_pend [(12, 14), (12, 18), (12, 22)] (by kernel_rfl) ⟨rfl, rfl, rfl, trivial⟩, k', by omega, j + 1, by omega, j, rfl, by omega, kp3.trans q2, j2, fun i hi hij => ?_⟩
          by_cases e : i = j
          · subst e
            exact Nat.le_refl _
          · exact Nat.le_trans (lt1 c1) (mn i hi (by omega))
        · simp (maxSteps := 1000000) (disch := first | (simp; done) | (simp only [IHeap.size_push', IHeap.size_set']; omega) | omega) [-buildOf, a0, a2, a4, a9, a91, a92, a93, hn, hd, c1]
          refine ⟨niC_pend [(12, 14), (12, 18), (12, 22)] (by kernel_rfl) ⟨rfl, rfl, rfl, trivial⟩, k', by omega, j + 1, by omega, m, rfl, by omega, kp3.trans q2, hm, fun i hi hij => ?_⟩
          by_cases e : i = j
          · subst e
            exact ge1 c1
          · exact mn i hi (by omega)
end Go.Proofs.Ytnmbpehficchkaa.Ideal
