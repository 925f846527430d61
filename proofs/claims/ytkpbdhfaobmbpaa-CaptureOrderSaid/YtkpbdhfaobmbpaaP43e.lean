import Derived.Test.YtkpbdhfaobmbpaaP43d
noncomputable section
open Go.Proofs
namespace Go.Proofs.Ytkpbdhfaobmbpaa.Ideal
open Go.RowKit
set_option linter.unusedSimpArgs false
set_option linter.unusedVariables false
set_option linter.unusedSectionVars false
set_option maxRecDepth 100000
set_option maxHeartbeats 4000000
attribute [-simp] IHeap.size_set IHeap.size_push
attribute [local simp ↓] Hid.ap_mk
attribute [local simp] scopeQ_normal scopeQ_ret scopeQ_exit WP_skip WP_label WP_exit WP_goto WP_ret WP_region WP_seq WP_cond WP_block WP_scope WP_loop WP_range thenQ_normal thenQ_ret thenQ_exit thenQ_goto loopQ_normal loopQ_ret loopQ_exit invQ_normal invQ_ret invQ_exit outOf_normal outOf_ret outOf_goto outOf_exit ev_tmp ev_const ev_func
  wops_nil wops_cons wantedE_none wantedE_some jgd_some wnx_eq niC_false wdo_move wdo_assign wdo_pick wdo_load wdo_store wdo_alloc wdo_box wdo_fieldAddr wdo_indexAddr wdo_field wdo_extract wdo_build wdo_buildSlice wdo_makeSlice wdo_binOp wdo_unOp wdo_makeFunc wdo_nilCheck wdo_callV wdo_len wdo_append wdo_copy wdo_delete wdo_max wdo_min wdo_convert jcvt_int
  xput_get put_n put_none put_dfr ibin finQ_n finQ_r finD_nil splice_one ires_nil ires_one ires_two ires_three ires1_tmp ires1_cell jcell_ptr rowLoad_row wrap64 wrapU64 wrapU8 wrapU16 wrapU32 callV_fn buildOf Instr.fill Value.cells Value.oneCell' kindOf slots_all splice_all IHeap.size_set' IHeap.size_push' IHeap.get_set_same IHeap.get_set_ne IHeap.get_pushed IHeap.get_push_ne IHeap.set_set IHeap.set_push IHeap.set_pushed IHeap.set_set3 getU_nil getU_same getU_ne jif_true jif_false pushH_eq setH_eq forceL_eq forceV_eq ibuildSlice
attribute [local simp] wdo_index jopt_some wdo_cutV
attribute [-simp] Value.oneCell'
attribute [local simp] one_int' one_slc'
def kfns : List Nat := [8, 9, 10, 11, 13, 14, 23, 24, 25, 26, 27, 28, 29, 32, 33]
theorem kfns_ok : ∀ g ∈ kfns, fnB Try.prog g = true := by
  have : kfns.all (fnB Try.prog) = true := by kernel_rfl
  rwa [List.all_eq_true] at this
theorem known_c {h : IHeap} : ICall Try.prog 8 #[] h (.bool true) h := by
  refine ICall.of_below rfl fun ρ w args' ha hm => ?_
  obtain rfl : args' = #[] := Array.eq_empty_of_size_eq_zero ha.1.symm
  exact calls_run kfns_ok mixed (m := 100000) (n := 200) (by kernel_rfl) (by kernel_rfl) w
theorem split_wins {M : List SH} {lo hi : Nat} (hl : lo ≤ hi) (hM : ∀ m ∈ M, m.time < 18446744073709551615) : M.countP (inW 0 lo) + M.countP (inW lo hi) + M.countP (inW hi 18446744073709551615) = M.length := by
  induction M with
  | nil => rfl
  | cons m M ih =>
    have := ih (fun t ht => hM t (by simp [ht]))
    have hm := hM m (by simp)
    obtain ⟨t, ht⟩ : ∃ t, m.time = t := ⟨_, rfl⟩
    rw [ht] at hm
    simp only [List.countP_cons, List.length_cons, inW, ht, Bool.and_eq_true, decide_eq_true_eq]
    by_cases c1 : t < lo
    · rw [if_pos ⟨by omega, c1⟩, if_neg (by omega), if_neg (by omega)]
      omega
    · by_cases c2 : t < hi
      · rw [if_neg (by omega), if_pos (by omega), if_neg (by omega)]
        omega
      · rw [if_neg (by omega), if_neg (by omega), if_pos (by omega)]
        omega
theorem time_lt {s : SH} {h : IHeap} (ok : s.ok h) : s.time < 18446744073709551615 := by
  have a := ok.s1
  have b := ok.m1
  show s.sec * 1000000 + s.micro < _
  omega
theorem order_c {h : IHeap} {va vb : Value} {S T : List SH} {lo hi : Nat} (x : ShS h va S) (y : ShS h vb T) (hS : S.length ≤ 9223372036854775807) (hT : T.length ≤ 9223372036854775807) (bl : lo < 18446744073709551616) (bh : hi < 18446744073709551616) : FN Try.prog 6 #[va, vb, .int .u64 lo, .int .u64 hi] h (Q := ⟨fun v _ => v = .bool true⟩) := by
  obtain ⟨A, c, rfl, _⟩ := id x
  obtain ⟨B, d, rfl, _⟩ := id y
  refine FN.enter mixed (fn := Try.f6) (by kernel_rfl) rfl (by kernel_rfl) fun e hn hg hd => ?_
  simp [Try.f6] at hn
  have a0 : e.get 0 = .slice A S.length c := hg 0 (by omega)
  have a1 : e.get 1 = .slice B T.length d := hg 1 (by omega)
  have a2 : e.get 2 = .int .u64 lo := hg 2 (by omega)
  have a3 : e.get 3 = .int .u64 hi := hg 3 (by omega)
  clear hg
  simp (maxSteps := 1000000) (disch := first | (simp; done) | (simp only [IHeap.size_push', IHeap.size_set']; omega) | omega) [a0, a1, a2, a3, hn, hd]
  refine FN.mono (great_c x hS) ?_
  rintro v h1 ⟨b1, rfl, g1, k1⟩
  cases b1 with
  | true =>
    simp (maxSteps := 1000000) (disch := first | (simp; done) | (simp only [IHeap.size_push', IHeap.size_set']; omega) | omega) [a0, a1, a2, a3, hn, hd, undef]
    refine FN.of known_c ?_
    simp (maxSteps := 1000000) (disch := first | (simp; done) | (simp only [IHeap.size_push', IHeap.size_set']; omega) | omega) [a0, a1, a2, a3, hn, hd, undef]
  | false =>
    simp (maxSteps := 1000000) (disch := first | (simp; done) | (simp only [IHeap.size_push', IHeap.size_set']; omega) | omega) [a0, a1, a2, a3, hn, hd, undef]
    refine FN.mono (great_c (y.keep k1) hT) ?_
    rintro v h2 ⟨b2, rfl, g2, k2⟩
    cases b2 with
    | true =>
      simp (maxSteps := 1000000) (disch := first | (simp; done) | (simp only [IHeap.size_push', IHeap.size_set']; omega) | omega) [a0, a1, a2, a3, hn, hd, undef]
      refine FN.of known_c ?_
      simp (maxSteps := 1000000) (disch := first | (simp; done) | (simp only [IHeap.size_push', IHeap.size_set']; omega) | omega) [a0, a1, a2, a3, hn, hd, undef]
    | false =>
      simp (maxSteps := 1000000) (disch := first | (simp; done) | (simp only [IHeap.size_push', IHeap.size_set']; omega) | omega) [a0, a1, a2, a3, hn, hd, undef]
      obtain ⟨gs, gs4⟩ := g1 rfl
      obtain ⟨gt, gt4⟩ := g2 rfl
      refine FN.mono (rise_c (x.keep (k1.trans k2)) gs gs4) ?_
      rintro va h3 ⟨S2, ow1, ls2, rs2, k3⟩
      simp (maxSteps := 1000000) (disch := first | (simp; done) | (simp only [IHeap.size_push', IHeap.size_set']; omega) | omega) [a0, a1, a2, a3, hn, hd, undef]
      refine FN.mono (rise_c (y.keep ((k1.trans k2).trans k3)) gt gt4) ?_
      rintro vb h4 ⟨T2, ow2, lt2, rt2, k4⟩
      simp (maxSteps := 1000000) (disch := first | (simp; done) | (simp only [IHeap.size_push', IHeap.size_set']; omega) | omega) [a0, a1, a2, a3, hn, hd, undef]
      refine FN.mono (merge_c (ow1.keep k4).sh ow2.sh rs2 rt2 (by omega) (by omega) (fun s hs => (List.mem_append.1 hs).elim (fun h => (ow1.2 s h).2) (fun h => (ow2.2 s h).2))) ?_
      rintro vc h5 ⟨M, ow, lm, rm, k5⟩
      obtain ⟨C, cc, rfl, _⟩ := id ow.sh
      have xc := ow.sh
      have m4 : ∀ m ∈ M, m.xs.length ≤ 400 := fun m hm => (ow.2 m hm).2
      have mt : ∀ m ∈ M, m.time < 18446744073709551615 := fun m hm => time_lt (ow.2 m hm).1
      clear ow ow1 ow2 k1 k2 k3 k4 k5 x y
      simp (maxSteps := 1000000) (disch := first | (simp; done) | (simp only [IHeap.size_push', IHeap.size_set']; omega) | omega) [a0, a1, a2, a3, hn, hd, undef]
      refine WPL.by_inv mixed (by kernel_rfl) (fun k e h' => ∃ j, j + k = M.length ∧ e.n = 87 ∧ e.dfr = [] ∧ e.get 0 = .slice A S.length c ∧ e.get 1 = .slice B T.length d ∧ e.get 2 = .int .u64 lo ∧ e.get 3 = .int .u64 hi ∧ e.get 10 = .slice C M.length cc ∧ e.get 28 = .int .i64 M.length ∧ e.get 29 = .int .i64 j ∧ Keep h5 h') M.length ?_ ?_
      · refine ⟨0, ?_⟩
        simp (maxSteps := 1000000) (disch := first | (simp; done) | (simp only [IHeap.size_push', IHeap.size_set']; omega) | omega) [a0, a1, a2, a3, hn, hd]
        exact Keep.refl h5
      clear hn hd a0 a1 a2 a3 e
      rintro k e h6 ⟨j, hj, hn, hd, a0, a1, a2, a3, a10, a28, a29, kp⟩
      cases k with
      | zero =>
        obtain rfl : j = M.length := by omega
        obtain ⟨lo2, e2⟩ : ∃ n : Nat, n = if hi < lo then hi else lo := ⟨_, rfl⟩
        obtain ⟨hi2, e3⟩ : ∃ n : Nat, n = if lo < hi then hi else lo := ⟨_, rfl⟩
        have lh : lo2 ≤ hi2 := by
          subst e2 e3
          split <;> split <;> omega
        have mn : (if hi < lo then (hi : Int) else (lo : Int)) = (lo2 : Int) := by
          subst e2
          split <;> rfl
        have mx : (if lo < hi then (hi : Int) else (lo : Int)) = (hi2 : Int) := by
          subst e3
          split <;> rfl
        have wz : (0 : Int) = ((0 : Nat) : Int) := rfl
        have wt : (18446744073709551615 : Int) = ((18446744073709551615 : Nat) : Int) := rfl
        have w1 := window_c (lo := 0) (hi := lo2) (xc.keep kp) (by omega) m4
        simp (maxSteps := 1000000) (disch := first | (simp; done) | (simp only [IHeap.size_push', IHeap.size_set']; omega) | omega) [a0, a1, a2, a3, a10, a28, a29, hn, hd, mn, mx]
        refine FN.mono w1 ?_
        rintro va h7 ⟨T1, ow1, l1, k1⟩
        have xc1 := (xc.keep kp).keep k1
        obtain ⟨A7, c7, rfl, _⟩ := id ow1.sh
        simp (maxSteps := 1000000) (disch := first | (simp; done) | (simp only [IHeap.size_push', IHeap.size_set']; omega) | omega) [a0, a1, a2, a3, a10, a28, a29, hn, hd, mn, mx]
        refine FN.mono (window_c (lo := lo2) (hi := hi2) xc1 (by omega) m4) ?_
        rintro va h8 ⟨T2, ow2, l2, k2⟩
        have xc2 := xc1.keep k2
        obtain ⟨A8, c8, rfl, _⟩ := id ow2.sh
        have w3 := window_c (lo := hi2) (hi := 18446744073709551615) xc2 (by omega) m4
        simp (maxSteps := 1000000) (disch := first | (simp; done) | (simp only [IHeap.size_push', IHeap.size_set']; omega) | omega) [a0, a1, a2, a3, a10, a28, a29, hn, hd, mn, mx]
        refine FN.mono w3 ?_
        rintro va h9 ⟨T3, ow3, l3, k3⟩
        obtain ⟨A9, c9, rfl, _⟩ := id ow3.sh
        have sw := split_wins lh mt
        rw [← l1, ← l2, ← l3] at sw
        have s1 : ((M.length : Int) = (S.length : Int) + T.length) = True := eq_true (by omega)
        have s2 : (((T1.length : Int) + T2.length + T3.length) = (M.length : Int)) = True := eq_true (by omega)
        simp (maxSteps := 1000000) (disch := first | (simp; done) | (simp only [IHeap.size_push', IHeap.size_set']; omega) | omega) [a0, a1, a2, a3, a10, a28, a29, hn, hd, mn, mx, s1, s2]
        refine FN.of known_c ?_
        simp (maxSteps := 1000000) (disch := first | (simp; done) | (simp only [IHeap.size_push', IHeap.size_set']; omega) | omega) [a0, a1, a2, a3, a10, a28, a29, hn, hd, mn, mx, s1, s2]
      | succ k =>
        have j2 : j < M.length := by omega
        have j1 : (j : Int) < M.length := by omega
        by_cases j0 : j = 0
        · subst j0
          simp (maxSteps := 1000000) (disch := first | (simp; done) | (simp only [IHeap.size_push', IHeap.size_set']; omega) | omega) [a0, a1, a2, a3, a10, a28, a29, hn, hd, j1, j2, undef]
          exact ⟨niC_pend [] (by kernel_rfl) trivial, k, by omega, 1, by omega, rfl, kp⟩
        · have j3 : (0 : Int) < j := by omega
          obtain ⟨r, q, ro, z, cs, rfl, hg, hz, hs, hok⟩ := (xc.keep kp).at j2
          obtain ⟨i, rfl⟩ : ∃ i, j = i + 1 := ⟨j - 1, by omega⟩
          obtain ⟨_, _, _, _, _, e1, hg', _, hs', hok'⟩ := (xc.keep kp).at (i := i) (by omega)
          cases e1
          rw [hg] at hg'
          cases hg'
          have rr : M[i].time ≤ M[i + 1].time := List.pairwise_iff_getElem.1 rm i (i + 1) (by omega) j2 (by omega)
          obtain ⟨s, es⟩ : ∃ s, M[i + 1] = s := ⟨_, rfl⟩
          obtain ⟨t, et⟩ : ∃ t, M[i] = t := ⟨_, rfl⟩
          rw [es] at hs hok
          rw [et] at hs' hok'
          rw [es, et] at rr
          obtain ⟨D1, d1, eb1, _⟩ := hok.b
          obtain ⟨D2, d2, eb2, _⟩ := hok'.b
          have ta := time_c hok
          have tb := time_c (hok'.keep (Keep.push _ (.row false 0 s.cells)))
          simp only [SH.val, SH.cells, eb1, eb2] at ta tb
          have hg3 := (Keep.push h6 (.row false 0 s.cells)).get hg
          have i1 : (i : Int) < M.length := by omega
          have i2 : i < M.length := by omega
          have i3 : (i : Int) + 1 - 1 = i := by omega
          have i4 : (i : Int) + 1 < M.length := by omega
          have i6 : (0 : Int) ≤ (i : Int) + 1 := by omega
          have i7 : ((i : Int) + 1).toNat = i + 1 := by omega
          have i5 : (0 : Int) < (i : Int) + 1 := by omega
          simp only [SH.cells, eb1] at hg3
          simp (maxSteps := 1000000) (disch := first | (simp; done) | (simp only [IHeap.size_push', IHeap.size_set']; omega) | omega) [a0, a1, a2, a3, a10, a28, a29, hn, hd, j1, j2, j3, hg, hs, SH.cells, eb1, i1, i2, i3, i4, i5, i6, i7]
          refine FN.of ta ?_
          simp (maxSteps := 1000000) (disch := first | (simp; done) | (simp only [IHeap.size_push', IHeap.size_set']; omega) | omega) [a0, a1, a2, a3, a10, a28, a29, hn, hd, j1, j2, j3, hg, hg3, hs, hs', SH.cells, eb1, eb2, i1, i2, i3, i4, i5, i6, i7]
          refine FN.of tb ?_
          have k1 : (h6.push (.row false 0 s.cells)).get r = h6.get r := (Keep.push _ _).eq _ (IHeap.get_lt hg)
          have kq := (kp.push' (.row false 0 s.cells)).push' (.row false 0 t.cells)
          simp only [SH.cells, eb1, eb2] at k1 kq
          have rr2 : ¬ s.time < t.time := by omega
          simp (maxSteps := 1000000) (disch := first | (simp; done) | (simp only [IHeap.size_push', IHeap.size_set']; omega) | omega) [a0, a1, a2, a3, a10, a28, a29, hn, hd, j1, j2, j3, hg, hg3, hs, hs', SH.cells, eb1, eb2, i1, i2, i3, i4, i5, i6, i7, rr2]
          exact ⟨niC_pend [(7, 12)] (by kernel_rfl) ⟨k1, trivial⟩, k, by omega, i + 1 + 1, by omega, by omega, kq⟩
end Go.Proofs.Ytkpbdhfaobmbpaa.Ideal
