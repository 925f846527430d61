import Derived.Test.YtmobpbhbllhdcaaP14q
noncomputable section
open Go.Proofs
namespace Go.Proofs.Ytmobpbhbllhdcaa.Ideal
open Go.RowKit
set_option linter.unusedSimpArgs false
set_option linter.unusedVariables false
set_option linter.unusedSectionVars false
set_option maxRecDepth 100000
set_option maxHeartbeats 4000000
attribute [-simp] IHeap.size_set IHeap.size_push
attribute [local simp ↓] Hid.ap_mk
attribute [local simp] scopeQ_normal scopeQ_ret scopeQ_exit WP_skip WP_label WP_exit WP_goto WP_ret WP_region WP_seq WP_cond WP_block WP_scope WP_loop WP_range thenQ_normal thenQ_ret thenQ_exit thenQ_goto loopQ_normal loopQ_ret loopQ_exit invQ_normal invQ_ret invQ_exit outOf_normal outOf_ret outOf_goto outOf_exit ev_tmp ev_const ev_func
  wops_nil wops_cons wantedE_none wantedE_some jgd_some wnx_eq niC_false wdo_move wdo_assign wdo_pick wdo_load wdo_store wdo_alloc wdo_box wdo_fieldAddr wdo_indexAddr wdo_field wdo_extract wdo_build wdo_buildSlice wdo_makeSlice wdo_binOp wdo_unOp wdo_makeFunc wdo_nilCheck wdo_callV wdo_len wdo_append wdo_copy wdo_delete wdo_max wdo_min wdo_convert jcvt_int
  xput_get put_n put_none put_dfr ibin finQ_n finQ_r finD_nil splice_one ires_nil ires_one ires_two ires_three ires1_tmp ires1_cell jcell_ptr rowLoad_row wrap64 wrapU64 wrapU8 wrapU16 wrapU32 callV_fn buildOf Instr.fill Value.cells Value.oneCell' kindOf slots_all splice_all IHeap.size_set' IHeap.size_push' IHeap.get_set_same IHeap.get_set_ne IHeap.get_pushed IHeap.get_push_ne IHeap.set_set IHeap.set_push IHeap.set_pushed IHeap.set_set3 getU_nil getU_same getU_ne jif_true jif_false pushH_eq setH_eq forceL_eq forceV_eq ibuildSlice
attribute [local simp] wdo_index jopt_some
attribute [-simp] Value.oneCell'
attribute [local simp] one_int' one_ptr'
/-- The document's growing table. -/
structure WAt (g : GT) (h : IHeap) (W pw pw' : Nat) : Prop where
  gW : h.get W = some (.row false 0 [.pointer (some ⟨pw, 0, none⟩), .pointer (g.nxA pw'), .bool g.nx.isSome, .int .i64 (g.most : Nat), .int .i64 (g.cur : Nat)])
  now : ∃ rf rm re, RAt g.now.ps h pw rf rm re
  nx : ∀ t, g.nx = some t → (∃ rf rm re, RAt t.ps h pw' rf rm re) ∧ pw ≠ pw'
theorem WAt.inv {g : GT} {h h' : IHeap} {W pw pw' : Nat} (x : WAt g h W pw pw') (k : ∀ i, i < h.size → h'.get i = h.get i) : WAt g h' W pw pw' := by
  obtain ⟨a, b, c, xn⟩ := x.now
  refine ⟨(k _ (IHeap.get_lt x.gW)).trans x.gW, ⟨a, b, c, rat_inv xn k⟩, fun t ht => ?_⟩
  obtain ⟨⟨d, e, f, xx⟩, ne⟩ := x.nx t ht
  exact ⟨⟨d, e, f, rat_inv xx k⟩, ne⟩
theorem rat_keep {l : List PL} {h h' : IHeap} {pw rf rm re p2 : Nat} {cs : List Value} (x : RAt l h pw rf rm re) (g2 : h.get p2 = some (.row false 0 cs)) (ne : pw ≠ p2) (k : ∀ i, i < h.size → i ≠ p2 → h'.get i = h.get i) : RAt l h' pw rf rm re := by
  have n1 : rf ≠ p2 := fun e => by have := x.gf; rw [e, g2] at this; simp at this
  have n2 : rm ≠ p2 := fun e => by have := x.gm; rw [e, g2] at this; simp at this
  have n3 : re ≠ p2 := fun e => by have := x.ge; rw [e, g2] at this; simp at this
  exact ⟨(k _ (IHeap.get_lt x.gp) ne).trans x.gp, (k _ (IHeap.get_lt x.gf) n1).trans x.gf, (k _ (IHeap.get_lt x.gm) n2).trans x.gm, (k _ (IHeap.get_lt x.ge) n3).trans x.ge, x.ne, x.len⟩
theorem rat_ne {l : List PL} {h : IHeap} {W pw rf rm re : Nat} {a b c d e : Value} (x : RAt l h pw rf rm re) (gW : h.get W = some (.row false 0 [a, b, c, d, e])) : W ≠ pw ∧ W ≠ rf ∧ W ≠ rm ∧ W ≠ re := by
  refine ⟨fun hh => ?_, fun hh => ?_, fun hh => ?_, fun hh => ?_⟩
  · have := x.gp; rw [← hh, gW] at this; simp at this
  · have := x.gf; rw [← hh, gW] at this; simp at this
  · have := x.gm; rw [← hh, gW] at this; simp at this
  · have := x.ge; rw [← hh, gW] at this; simp at this
def WNewQ (h : IHeap) (m : Nat) (v : Value) (h' : IHeap) : Prop := ∃ W pw, v = .pointer (some ⟨W, 0, none⟩) ∧ h.size ≤ W ∧ h.size ≤ pw ∧ WAt (newGT m) h' W pw 0 ∧ Fr h h' []
theorem wnew_c {h : IHeap} {m : Nat} (hm : P2 m) : FN Try.prog 15 #[.int .i64 m] h (Q := ⟨fun v h' => WNewQ h m v h'⟩) := by
  refine FN.enter mixed (fn := Try.f15) (by kernel_rfl) rfl (by kernel_rfl) fun e hn hg hd => ?_
  simp [Try.f15] at hn
  have a0 : e.get 0 = .int .i64 m := hg 0 (by omega)
  clear hg
  simp (maxSteps := 1000000) (disch := first | (simp; done) | (simp only [IHeap.size_push', IHeap.size_set']; omega) | omega) [a0, hn, hd]
  refine FN.mono (rnew_c 16 (by omega)) ?_
  rintro v h1 ⟨pw, rf, rm, re, rfl, hpw, x, fr⟩
  simp (maxSteps := 1000000) (disch := first | (simp; done) | (simp only [IHeap.size_push', IHeap.size_set']; omega) | omega) [a0, hn, hd, one_bool]
  have z1 := fr.size
  refine ⟨h1.size, pw, rfl, z1, hpw, ⟨?_, ⟨rf, rm, re, rat_inv x (fun i hi => by simp (maxSteps := 1000000) (disch := first | (simp; done) | (simp only [IHeap.size_push', IHeap.size_set']; omega) | omega) [])⟩, fun t ht => (by cases ht)⟩, ⟨by simp only [IHeap.size_push']; omega, fun i hi => by rw [IHeap.get_push_ne _ (by omega), fr.get i hi]⟩⟩
  simp (maxSteps := 1000000) (disch := first | (simp; done) | (simp only [IHeap.size_push', IHeap.size_set']; omega) | omega) []
  exact ⟨rfl, rfl, rfl, rfl⟩
theorem wleft_c {g : GT} {h : IHeap} {W pw pw' : Nat} (x : WAt g h W pw pw') (ok : GOK g) : ICall Try.prog 51 #[.pointer (some ⟨W, 0, none⟩)] h (.int .i64 g.left) h := by
  refine ICall.of_FN ?_
  have gW := x.gW
  obtain ⟨rf, rm, re, xn⟩ := x.now
  have gp := xn.gp
  have hl := ok.l.le
  have hc := ok.c
  refine FN.enter mixed (fn := Try.f51) (by kernel_rfl) rfl (by kernel_rfl) fun e hn hg hd => ?_
  simp [Try.f51] at hn
  have a0 : e.get 0 = .pointer (some ⟨W, 0, none⟩) := hg 0 (by omega)
  clear hg
  cases hx : g.nx with
  | none =>
    have lf : g.left = 0 := by unfold GT.left; rw [hx]
    rw [hx] at gW
    simp (maxSteps := 1000000) (disch := first | (simp; done) | (simp only [IHeap.size_push', IHeap.size_set']; omega) | omega) [a0, hn, hd, gW, lf]
  | some t =>
    have lf : g.left = (g.now.ps.length : Int) - g.cur := by unfold GT.left; rw [hx]
    rw [hx] at gW
    simp (maxSteps := 1000000) (disch := first | (simp; done) | (simp only [IHeap.size_push', IHeap.size_set']; omega) | omega) [a0, hn, hd, gW, lf, gp, wrap64]
    exact niC_pend [] (by kernel_rfl) trivial
theorem wmarks_c {g : GT} {h : IHeap} {W pw pw' : Nat} (x : WAt g h W pw pw') (ok : GOK g) : ICall Try.prog 52 #[.pointer (some ⟨W, 0, none⟩)] h (.int .i64 (g.now.ma + g.nxT.ma)) h := by
  refine ICall.of_FN ?_
  have gW := x.gW
  obtain ⟨rf, rm, re, xn⟩ := x.now
  have mn := rmarks_c xn
  have mb := ok.t.maB
  rw [← ok.t.ma] at mn
  refine FN.enter mixed (fn := Try.f52) (by kernel_rfl) rfl (by kernel_rfl) fun e hn hg hd => ?_
  simp [Try.f52] at hn
  have a0 : e.get 0 = .pointer (some ⟨W, 0, none⟩) := hg 0 (by omega)
  clear hg
  cases hx : g.nx with
  | none =>
    have e0 : g.nxT.ma = 0 := by rw [nxT_none hx]
    rw [hx] at gW
    simp (maxSteps := 1000000) (disch := first | (simp; done) | (simp only [IHeap.size_push', IHeap.size_set']; omega) | omega) [a0, hn, hd, gW]
    refine FN.of mn ?_
    simp (maxSteps := 1000000) (disch := first | (simp; done) | (simp only [IHeap.size_push', IHeap.size_set']; omega) | omega) [a0, hn, hd, gW, e0]
  | some t =>
    obtain ⟨⟨d, e, f, xx⟩, ne⟩ := x.nx t hx
    have mx := rmarks_c xx
    obtain ⟨t1, t2, t3⟩ := ok.x t hx
    have mbx := t1.maB
    rw [← t1.ma] at mx
    have e0 : g.nxT.ma = t.ma := by rw [nxT_some hx]
    rw [hx, nxA_some hx] at gW
    simp (maxSteps := 1000000) (disch := first | (simp; done) | (simp only [IHeap.size_push', IHeap.size_set']; omega) | omega) [a0, hn, hd, gW]
    refine FN.of mn ?_
    simp (maxSteps := 1000000) (disch := first | (simp; done) | (simp only [IHeap.size_push', IHeap.size_set']; omega) | omega) [a0, hn, hd, gW]
    refine FN.of mx ?_
    simp (maxSteps := 1000000) (disch := first | (simp; done) | (simp only [IHeap.size_push', IHeap.size_set']; omega) | omega) [a0, hn, hd, gW, e0, wrap64]
    exact niC_pend [(4, 8)] (by kernel_rfl) ⟨rfl, trivial⟩
theorem wbegins_c {g : GT} {h : IHeap} {W pw pw' : Nat} (x : WAt g h W pw pw') (ok : GOK g) : ICall Try.prog 40 #[.pointer (some ⟨W, 0, none⟩)] h (.bool g.begins) h := by
  refine ICall.of_FN ?_
  have gW := x.gW
  obtain ⟨rf, rm, re, xn⟩ := x.now
  have gp := xn.gp
  have mn := rmarks_c xn
  have en := rentries_c xn
  have eb := ok.t.enB
  have mb := ok.t.maB
  rw [← ok.t.ma] at mn
  rw [← ok.t.en] at en
  have hl := ok.l
  have hlm := ok.lm
  have hm := ok.m
  have hll := hl.le
  have hml := hm.le
  refine FN.enter mixed (fn := Try.f40) (by kernel_rfl) rfl (by kernel_rfl) fun e hn hg hd => ?_
  simp [Try.f40] at hn
  have a0 : e.get 0 = .pointer (some ⟨W, 0, none⟩) := hg 0 (by omega)
  clear hg
  have q2 : ((g.now.ps.length : Int)).tdiv 2 = (g.now.ps.length : Int) / 2 := by
    rw [Int.tdiv_eq_ediv_of_nonneg (by omega)]
  have q8 : ((g.now.ps.length : Int)).tdiv 8 = (g.now.ps.length : Int) / 8 := by
    rw [Int.tdiv_eq_ediv_of_nonneg (by omega)]
  cases hx : g.nx with
  | some t =>
    have bg : g.begins = false := by unfold GT.begins; rw [hx]; rfl
    rw [hx] at gW
    simp (maxSteps := 1000000) (disch := first | (simp; done) | (simp only [IHeap.size_push', IHeap.size_set']; omega) | omega) [a0, hn, hd, gW, gp, wrap64, q2, bg, undef]
    exact niC_pend [] (by kernel_rfl) trivial
  | none =>
    rw [hx, nxA_none hx] at gW
    simp (maxSteps := 1000000) (disch := first | (simp; done) | (simp only [IHeap.size_push', IHeap.size_set']; omega) | omega) [a0, hn, hd, gW, gp, wrap64, q2]
    refine FN.of en ?_
    simp (maxSteps := 1000000) (disch := first | (simp; done) | (simp only [IHeap.size_push', IHeap.size_set']; omega) | omega) [a0, hn, hd, gW, gp, wrap64, q2]
    refine FN.of mn ?_
    by_cases c1 : g.now.en + g.now.ma ≤ (g.now.ps.length : Int) / 2
    · have bg : g.begins = false := by
        unfold GT.begins
        rw [hx, decide_eq_false]
        · rfl
        · unfold P2 at hl; omega
      simp (maxSteps := 1000000) (disch := first | (simp; done) | (simp only [IHeap.size_push', IHeap.size_set']; omega) | omega) [a0, hn, hd, gW, gp, wrap64, q2, c1, bg]
      exact niC_pend [(9, 13)] (by kernel_rfl) ⟨rfl, trivial⟩
    · have c1' : (g.now.ps.length : Int) < 2 * (g.now.en + g.now.ma) := by unfold P2 at hl; omega
      simp (maxSteps := 1000000) (disch := first | (simp; done) | (simp only [IHeap.size_push', IHeap.size_set']; omega) | omega) [a0, hn, hd, gW, gp, wrap64, q2, q8, c1]
      refine ⟨niC_pend [(9, 13)] (by kernel_rfl) ⟨rfl, trivial⟩, ?_⟩
      by_cases c2 : g.now.ps.length < g.most
      · have bg : g.begins = true := by
          unfold GT.begins
          rw [hx, decide_eq_true c1', decide_eq_false (p := g.now.ps.length = g.most) (by omega)]
          rfl
        simp (maxSteps := 1000000) (disch := first | (simp; done) | (simp only [IHeap.size_push', IHeap.size_set']; omega) | omega) [c2, show ¬ g.most ≤ g.now.ps.length by omega, show (g.now.ps.length : Int) < g.most by omega, a0, hn, hd, undef, bg]
      · simp (maxSteps := 1000000) (disch := first | (simp; done) | (simp only [IHeap.size_push', IHeap.size_set']; omega) | omega) [c2, show g.most ≤ g.now.ps.length by omega, show ¬ (g.now.ps.length : Int) < g.most by omega, a0, hn, hd, gW]
        refine FN.of mn ?_
        have bg : g.begins = decide ((g.now.ps.length : Int) / 8 ≤ g.now.ma) := by
          unfold GT.begins
          rw [hx, decide_eq_true c1', decide_eq_true (p := g.now.ps.length = g.most) (by omega)]
          by_cases c3 : 8 * g.now.ma < (g.now.ps.length : Int)
          · rw [decide_eq_true c3, decide_eq_false (by unfold P2 at hl; omega)]; rfl
          · rw [decide_eq_false c3, decide_eq_true (by unfold P2 at hl; omega)]; rfl
        by_cases c3 : (g.now.ps.length : Int) / 8 ≤ g.now.ma <;> simp (maxSteps := 1000000) (disch := first | (simp; done) | (simp only [IHeap.size_push', IHeap.size_set']; omega) | omega) [a0, hn, hd, q8, wrap64, bg, c3]
def dsize (e : Nat) : Nat → Nat → Nat
  | 0, x => x
  | f + 1, x => if x < 4 * e then dsize e f (2 * x) else x
theorem dsize_fin : [16, 32, 64, 128, 256].all (fun m => (List.range 257).all fun e => decide ((if m < dsize e 6 16 then m else dsize e 6 16) = gsize e m 5 16)) = true := by kernel_rfl
theorem dsize_eq {e m : Nat} (hm : P2 m) (he : e ≤ 256) : (if m < dsize e 6 16 then m else dsize e 6 16) = gsize e m 5 16 := by
  have h1 := List.all_eq_true.1 dsize_fin m (by unfold P2 at hm; simpa using hm)
  have h2 := List.all_eq_true.1 h1 e (List.mem_range.2 (by omega))
  exact of_decide_eq_true h2
theorem wsize_c {g : GT} {h : IHeap} {W pw pw' : Nat} (x : WAt g h W pw pw') (ok : GOK g) : ICall Try.prog 41 #[.pointer (some ⟨W, 0, none⟩)] h (.int .i64 (gsize g.now.en.toNat g.most 5 16 : Nat)) h := by
  refine ICall.of_FN ?_
  have gW := x.gW
  obtain ⟨rf, rm, re, xn⟩ := x.now
  have gp := xn.gp
  have en := rentries_c xn
  have eb := ok.t.enB
  rw [← ok.t.en] at en
  have ds := dsize_eq ok.m (e := g.now.en.toNat) (by omega)
  have hm := ok.m.le
  refine FN.enter mixed (fn := Try.f41) (by kernel_rfl) rfl (by kernel_rfl) fun e hn hg hd => ?_
  simp [Try.f41] at hn
  have a0 : e.get 0 = .pointer (some ⟨W, 0, none⟩) := hg 0 (by omega)
  clear hg
  simp (maxSteps := 1000000) (disch := first | (simp; done) | (simp only [IHeap.size_push', IHeap.size_set']; omega) | omega) [a0, hn, hd]
  refine WPL.by_inv mixed (by kernel_rfl) (fun k e h' => ∃ (y : Nat), dsize g.now.en.toNat k y = dsize g.now.en.toNat 6 16 ∧ 16 * 2 ^ (6 - k) = y ∧ k ≤ 6 ∧ e.n = 25 ∧ e.dfr = [] ∧ e.get 0 = .pointer (some ⟨W, 0, none⟩) ∧ e.get 3 = .int .i64 y ∧ h' = h) 6 ?_ ?_
  · refine ⟨16, rfl, by decide, by decide, ?_⟩
    simp (maxSteps := 1000000) (disch := first | (simp; done) | (simp only [IHeap.size_push', IHeap.size_set']; omega) | omega) [a0, hn, hd]
  clear hn hd a0 e
  rintro k e h1 ⟨y, hg, hyk, hk5, hn, hd, a0, a3, rfl⟩
  have yl : y ≤ 1024 := by
    rw [← hyk]
    have : 2 ^ (6 - k) ≤ 2 ^ 6 := Nat.pow_le_pow_right (by omega) (by omega)
    omega
  by_cases c5 : y < 4 * g.now.en.toNat
  · have c5' : (y : Int) < 4 * g.now.en := by omega
    simp (maxSteps := 1000000) (disch := first | (simp; done) | (simp only [IHeap.size_push', IHeap.size_set']; omega) | omega) [a0, a3, hn, hd, gW]
    refine FN.of en ?_
    simp (maxSteps := 1000000) (disch := first | (simp; done) | (simp only [IHeap.size_push', IHeap.size_set']; omega) | omega) [a0, a3, hn, hd, gW, wrap64, c5', undef]
    cases k with
    | zero =>
      simp at hyk
      omega
    | succ k =>
      refine ⟨k, by omega, 2 * y, ?_, ?_, by omega, by omega⟩
      · rw [← hg, dsize, if_pos c5]
      · rw [show 6 - k = (6 - (k + 1)) + 1 by omega, Nat.pow_succ]
        omega
  · have fin : dsize g.now.en.toNat 6 16 = y := by
      rw [← hg]
      cases k with
      | zero => rfl
      | succ k => rw [dsize, if_neg c5]
    rw [fin] at ds
    have c5' : ¬ (y : Int) < 4 * g.now.en := by omega
    simp (maxSteps := 1000000) (disch := first | (simp; done) | (simp only [IHeap.size_push', IHeap.size_set']; omega) | omega) [a0, a3, hn, hd, gW]
    refine FN.of en ?_
    by_cases c6 : g.most < y
    · rw [if_pos c6] at ds
      have c6' : (g.most : Int) < y := by omega
      simp (maxSteps := 1000000) (disch := first | (simp; done) | (simp only [IHeap.size_push', IHeap.size_set']; omega) | omega) [a0, a3, hn, hd, gW, wrap64, c5', c6, c6', ← ds]
    · rw [if_neg c6] at ds
      have c6' : ¬ (g.most : Int) < y := by omega
      simp (maxSteps := 1000000) (disch := first | (simp; done) | (simp only [IHeap.size_push', IHeap.size_set']; omega) | omega) [a0, a3, hn, hd, gW, wrap64, c5', c6, c6', ← ds]
end Go.Proofs.Ytmobpbhbllhdcaa.Ideal
