import Derived.Test.YtnmbpehficchkaaP44f
noncomputable section
open Go.Proofs
namespace Go.Proofs.Ytnmbpehficchkaa.Ideal
open Go.RowKit
set_option linter.unusedSimpArgs false
set_option linter.unusedVariables false
set_option maxRecDepth 100000
set_option maxHeartbeats 4000000
attribute [-simp] IHeap.size_set IHeap.size_push
attribute [local simp ↓] Hid.ap_mk
attribute [local simp] scopeQ_normal scopeQ_ret scopeQ_exit WP_skip WP_label WP_exit WP_goto WP_ret WP_region WP_seq WP_cond WP_block WP_scope WP_loop WP_range thenQ_normal thenQ_ret thenQ_exit thenQ_goto loopQ_normal loopQ_ret loopQ_exit invQ_normal invQ_ret invQ_exit outOf_normal outOf_ret outOf_goto outOf_exit ev_tmp ev_const ev_func
  wops_nil wops_cons wantedE_none wantedE_some jgd_some wnx_eq niC_false wdo_move wdo_assign wdo_pick wdo_load wdo_store wdo_alloc wdo_box wdo_fieldAddr wdo_indexAddr wdo_field wdo_extract wdo_build wdo_buildSlice wdo_makeSlice wdo_binOp wdo_unOp wdo_makeFunc wdo_nilCheck wdo_callV wdo_len wdo_append wdo_copy wdo_delete wdo_max wdo_min wdo_convert jcvt_int
  xput_get put_n put_none put_dfr ibin finQ_n finQ_r finD_nil splice_one ires_nil ires_one ires_two ires_three ires1_tmp ires1_cell jcell_ptr rowLoad_row wrap64 wrapU64 wrapU8 wrapU16 wrapU32 callV_fn buildOf Instr.fill Value.cells Value.oneCell' kindOf slots_all splice_all IHeap.size_set' IHeap.size_push' IHeap.get_set_same IHeap.get_set_ne IHeap.get_pushed IHeap.get_push_ne IHeap.set_set IHeap.set_push IHeap.set_pushed IHeap.set_set3 getU_nil getU_same getU_ne jif_true jif_false pushH_eq setH_eq forceL_eq forceV_eq ibuildSlice
attribute [local simp] wdo_index jopt_some
theorem cnt_bcnt (l : List Nat) (i : Nat) : cnt l (i + 1) = cnt l i + bcnt l i := by
  induction l with
  | nil => rfl
  | cons n l ih =>
    simp only [cnt, bcnt, List.countP_cons] at ih ⊢
    rw [ih]
    rcases Nat.lt_trichotomy (bl n) i with c | c | c
    · simp [c, show bl n < i + 1 by omega, show ¬ ((bl n : Int) = i) by omega]; omega
    · simp [c]; omega
    · simp [show ¬ bl n < i by omega, show ¬ bl n < i + 1 by omega, show ¬ ((bl n : Int) = i) by omega]
theorem HG.Is.by_get {x : HG} {l : List Nat} (isx : x.Is l) {i : Nat} (hi : i < x.by'.length) : x.by'[i] = bcnt l i := by
  have h1 := sum_take_succ hi
  rw [isx.takes, isx.takes, cnt_bcnt] at h1
  push_cast at h1
  omega
theorem bcnt_out {l : List Nat} (hbs : ∀ n ∈ l, n < 2 ^ 64) {i : Int} (c : i < 0 ∨ 65 ≤ i) : bcnt l i = 0 := by
  unfold bcnt
  rw [List.countP_eq_zero]
  intro n hn
  have := bl_le.2 (hbs n hn)
  simp
  omega
theorem bucket_c {h : IHeap} {p : Nat} {x : HG} {l : List Nat} {i : Int} (isx : x.Is l) (hl : l.length ≤ 1000) (hbs : ∀ n ∈ l, n < 2 ^ 64) (hp : h.get p = some x.obj) : ICall Try.prog 24 #[.pointer (some ⟨p, 0, none⟩), .int .i64 i] h (.int .u64 (bcnt l i)) h := by
  refine ICall.of_FN ?_
  refine FN.enter mixed (fn := Try.f24) (by kernel_rfl) rfl (by kernel_rfl) fun e hn hg hd => ?_
  simp [Try.f24] at hn
  have a0 : e.get 0 = .pointer (some ⟨p, 0, none⟩) := hg 0 (by omega)
  have a1 : e.get 1 = .int .i64 i := hg 1 (by omega)
  clear hg
  by_cases c1 : i < 0
  · rw [bcnt_out hbs (.inl c1)]
    simp (maxSteps := 1000000) (disch := first | (simp; done) | (simp only [IHeap.size_push', IHeap.size_set']; omega) | omega) [a0, a1, hn, hd, c1, undef]
  by_cases c2 : 65 ≤ i
  · rw [bcnt_out hbs (.inr c2)]
    simp (maxSteps := 1000000) (disch := first | (simp; done) | (simp only [IHeap.size_push', IHeap.size_set']; omega) | omega) [a0, a1, hn, hd, c1, c2, undef]
  obtain ⟨k, rfl⟩ : ∃ k : Nat, i = k := ⟨i.toNat, by omega⟩
  have k65 : k < 65 := by omega
  have k65' : (k : Int) < 65 := by omega
  have kneg : ¬ (k : Int) < 0 := by omega
  have kge : ¬ (65 : Int) ≤ k := by omega
  have k67 : k ≤ 67 := by omega
  have hg := isx.by_get (i := k) (by rw [x.hl]; exact k65)
  simp only [HG.obj] at hp
  simp (maxSteps := 1000000) (disch := first | (simp; done) | (simp only [IHeap.size_push', IHeap.size_set']; omega) | omega) [a0, a1, hn, hd, c1, c2, hp, k65, k65', kneg, kge, k67, HG.get_by, HG.row_len, hg]
theorem hsum_c {h : IHeap} {p : Nat} {x : HG} (hp : h.get p = some x.obj) : ICall Try.prog 26 #[.pointer (some ⟨p, 0, none⟩)] h (.int .u64 x.sum) h := by
  refine ICall.of_FN ?_
  refine FN.enter mixed (fn := Try.f26) (by kernel_rfl) rfl (by kernel_rfl) fun e hn hg hd => ?_
  simp [Try.f26] at hn
  have a0 : e.get 0 = .pointer (some ⟨p, 0, none⟩) := hg 0 (by omega)
  clear hg
  simp only [HG.obj] at hp
  simp (maxSteps := 1000000) (disch := first | (simp; done) | (simp only [IHeap.size_push', IHeap.size_set']; omega) | omega) [a0, hn, hd, hp, HG.get65]
theorem count_nil {h : IHeap} : ICall Try.prog 25 #[.pointer none] h (.int .u64 0) h := by
  refine ICall.of_FN ?_
  refine FN.enter mixed (fn := Try.f25) (by kernel_rfl) rfl (by kernel_rfl) fun e hn hg hd => ?_
  simp [Try.f25] at hn
  have a0 : e.get 0 = .pointer none := hg 0 (by omega)
  clear hg
  simp (maxSteps := 1000000) (disch := first | (simp; done) | (simp only [IHeap.size_push', IHeap.size_set']; omega) | omega) [a0, hn, hd]
theorem ends_nil {h : IHeap} : ICall Try.prog 11 #[.pointer none] h (.tuple #[.int .u64 0, .int .u64 0, .bool false]) h := by
  refine ICall.of_FN ?_
  refine FN.enter mixed (fn := Try.f11) (by kernel_rfl) rfl (by kernel_rfl) fun e hn hg hd => ?_
  simp [Try.f11] at hn
  have a0 : e.get 0 = .pointer none := hg 0 (by omega)
  clear hg
  simp (maxSteps := 1000000) (disch := first | (simp; done) | (simp only [IHeap.size_push', IHeap.size_set']; omega) | omega) [a0, hn, hd]
  refine FN.of count_nil ?_
  simp (maxSteps := 1000000) (disch := first | (simp; done) | (simp only [IHeap.size_push', IHeap.size_set']; omega) | omega) [a0, hn, hd]
theorem merge_nil {h : IHeap} {p : Nat} : ICall Try.prog 18 #[.pointer (some ⟨p, 0, none⟩), .pointer none] h (.tuple #[]) h := by
  refine ICall.of_FN ?_
  refine FN.enter mixed (fn := Try.f18) (by kernel_rfl) rfl (by kernel_rfl) fun e hn hg hd => ?_
  simp [Try.f18] at hn
  have a0 : e.get 0 = .pointer (some ⟨p, 0, none⟩) := hg 0 (by omega)
  have a1 : e.get 1 = .pointer none := hg 1 (by omega)
  clear hg
  simp (maxSteps := 1000000) (disch := first | (simp; done) | (simp only [IHeap.size_push', IHeap.size_set']; omega) | omega) [a0, a1, hn, hd]
  refine FN.of ends_nil ?_
  simp (maxSteps := 1000000) (disch := first | (simp; done) | (simp only [IHeap.size_push', IHeap.size_set']; omega) | omega) [a0, a1, hn, hd]
/-- A histogram and numbers: the same by what they tell. -/
theorem same_c {h : IHeap} {p : Nat} {x : HG} {A : Option Addr} {l : List Nat} {cap : Nat} {i q : Int} (isx : x.Is l) (hsum : x.sum = wsum l) (hb : RowsAt h A (u64s l)) (hl : l.length ≤ 1000) (hbs : ∀ n ∈ l, n < 2 ^ 64) (hp : h.get p = some x.obj) :
    FN Try.prog 17 #[.pointer (some ⟨p, 0, none⟩), .slice A l.length cap, .int .i64 i, .int .i64 q] h (Q := ⟨fun v h' => v = .bool true ∧ h.size ≤ h'.size ∧ ∀ i, i < h.size → h'.get i = h.get i⟩) := by
  refine FN.enter mixed (fn := Try.f17) (by kernel_rfl) rfl (by kernel_rfl) fun e hn hg hd => ?_
  simp [Try.f17] at hn
  have a0 : e.get 0 = .pointer (some ⟨p, 0, none⟩) := hg 0 (by omega)
  have a1 : e.get 1 = .slice A l.length cap := hg 1 (by omega)
  have a2 : e.get 2 = .int .i64 i := hg 2 (by omega)
  have a3 : e.get 3 = .int .i64 q := hg 3 (by omega)
  clear hg
  have okx : x.ok 1000 := isx.ok (by omega)
  have hpz := IHeap.get_lt hp
  simp (maxSteps := 1000000) (disch := first | (simp; done) | (simp only [IHeap.size_push', IHeap.size_set']; omega) | omega) [a0, a1, a2, a3, hn, hd]
  refine FN.of (ends_c okx hp) ?_
  have hends : ∃ ea eb, x.ends = .tuple #[.int .u64 ea, .int .u64 eb, .bool (decide (l ≠ []))] ∧ ∀ a b, Ext l a b → endsL l a b = .tuple #[.int .u64 ea, .int .u64 eb, .bool (decide (l ≠ []))] := by
    by_cases c : l = []
    · subst c
      refine ⟨0, 0, ?_, fun a b _ => rfl⟩
      have : x.by'.sum = 0 := isx.tot
      simp [HG.ends, this]
    · have hpos := List.length_pos_iff.2 c
      have : ¬ x.by'.sum = 0 := by rw [isx.tot]; omega
      refine ⟨x.least, x.greatest, by simp [HG.ends, this, c], fun a b ex => ?_⟩
      obtain ⟨g1, ⟨m, hm, em⟩, b', hb', eb⟩ := isx.ends c
      have e1 : (a : Int) = x.least := by
        have := (g1 _ (ex.a c)).1
        have := ex.lo m hm
        omega
      have e2 : (b : Int) = x.greatest := by
        have := (g1 _ (ex.b c)).2
        have := ex.hi b' hb'
        omega
      simp [endsL, c, e1, e2]
  obtain ⟨ea, eb, he, hr⟩ := hends
  rw [he]
  simp (maxSteps := 1000000) (disch := first | (simp; done) | (simp only [IHeap.size_push', IHeap.size_set']; omega) | omega) [a0, a1, a2, a3, hn, hd]
  refine FN.mono (rends_c hb hl hbs) ?_
  rintro v h1 ⟨z1, o1, a, b, ex, rfl⟩
  rw [hr a b ex]
  have hp1 : h1.get p = some x.obj := by rw [o1 p hpz]; exact hp
  have hb1 := hb.old o1
  simp (maxSteps := 1000000) (disch := first | (simp; done) | (simp only [IHeap.size_push', IHeap.size_set']; omega) | omega) [a0, a1, a2, a3, hn, hd]
  by_cases c : l = [] ∨ q < 0 ∨ 1000 < q
  · refine FN.of (quantile_n okx (c.imp (fun e => by rw [isx.tot, e]; rfl) id) hp1) ?_
    simp (maxSteps := 1000000) (disch := first | (simp; done) | (simp only [IHeap.size_push', IHeap.size_set']; omega) | omega) [a0, a1, a2, a3, hn, hd]
    refine FN.of (rquantile_n c) ?_
    have hp2 : h1.get p = some x.obj := hp1
    have hb2 : RowsAt h1 A (u64s l) := hb1
    simp (maxSteps := 1000000) (disch := first | (simp; done) | (simp only [IHeap.size_push', IHeap.size_set']; omega) | omega) [a0, a1, a2, a3, hn, hd]
    refine FN.of (bucket_c isx hl hbs hp2) ?_
    simp (maxSteps := 1000000) (disch := first | (simp; done) | (simp only [IHeap.size_push', IHeap.size_set']; omega) | omega) [a0, a1, a2, a3, hn, hd]
    refine FN.of (rbucket_c hb2 hl hbs) ?_
    simp (maxSteps := 1000000) (disch := first | (simp; done) | (simp only [IHeap.size_push', IHeap.size_set']; omega) | omega) [a0, a1, a2, a3, hn, hd]
    refine FN.of (count_c okx hp2) ?_
    rw [isx.tot]
    simp (maxSteps := 1000000) (disch := first | (simp; done) | (simp only [IHeap.size_push', IHeap.size_set']; omega) | omega) [a0, a1, a2, a3, hn, hd]
    refine FN.of (hsum_c hp2) ?_
    rw [hsum]
    simp (maxSteps := 1000000) (disch := first | (simp; done) | (simp only [IHeap.size_push', IHeap.size_set']; omega) | omega) [a0, a1, a2, a3, hn, hd]
    refine FN.of (rsum_c hb2 hl) ?_
    simp (maxSteps := 1000000) (disch := first | (simp; done) | (simp only [IHeap.size_push', IHeap.size_set']; omega) | omega) [a0, a1, a2, a3, hn, hd]
    exact ⟨z1, o1⟩
  · have hle : l ≠ [] := fun e => c (.inl e)
    have hpos := List.length_pos_iff.2 hle
    obtain ⟨k, rfl⟩ : ∃ k : Nat, q = k := ⟨q.toNat, by omega⟩
    refine FN.mono (quantile_c okx isx.tot hpos (by omega) hp1) ?_
    rintro _ h1' ⟨rfl, j, at', rfl⟩
    simp (maxSteps := 1000000) (disch := first | (simp; done) | (simp only [IHeap.size_push', IHeap.size_set']; omega) | omega) [a0, a1, a2, a3, hn, hd]
    refine FN.mono (rquantile_c isx at' (by omega) hle hb1 hl hbs) ?_
    rintro _ h2 ⟨z2, o2, rfl⟩
    have hp2 : h2.get p = some x.obj := by rw [o2 p (by omega)]; exact hp1
    have hb2 : RowsAt h2 A (u64s l) := hb.old (fun i hi => by rw [o2 i (by omega)]; exact o1 i hi)
    simp (maxSteps := 1000000) (disch := first | (simp; done) | (simp only [IHeap.size_push', IHeap.size_set']; omega) | omega) [a0, a1, a2, a3, hn, hd]
    refine FN.of (bucket_c isx hl hbs hp2) ?_
    simp (maxSteps := 1000000) (disch := first | (simp; done) | (simp only [IHeap.size_push', IHeap.size_set']; omega) | omega) [a0, a1, a2, a3, hn, hd]
    refine FN.of (rbucket_c hb2 hl hbs) ?_
    simp (maxSteps := 1000000) (disch := first | (simp; done) | (simp only [IHeap.size_push', IHeap.size_set']; omega) | omega) [a0, a1, a2, a3, hn, hd]
    refine FN.of (count_c okx hp2) ?_
    rw [isx.tot]
    simp (maxSteps := 1000000) (disch := first | (simp; done) | (simp only [IHeap.size_push', IHeap.size_set']; omega) | omega) [a0, a1, a2, a3, hn, hd]
    refine FN.of (hsum_c hp2) ?_
    rw [hsum]
    simp (maxSteps := 1000000) (disch := first | (simp; done) | (simp only [IHeap.size_push', IHeap.size_set']; omega) | omega) [a0, a1, a2, a3, hn, hd]
    refine FN.of (rsum_c hb2 hl) ?_
    simp (maxSteps := 1000000) (disch := first | (simp; done) | (simp only [IHeap.size_push', IHeap.size_set']; omega) | omega) [a0, a1, a2, a3, hn, hd]
    exact ⟨by omega, fun i hi => by rw [o2 i (by omega)]; exact o1 i hi⟩
end Go.Proofs.Ytnmbpehficchkaa.Ideal
