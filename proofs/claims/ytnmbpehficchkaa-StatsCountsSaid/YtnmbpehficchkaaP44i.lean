import Derived.Test.YtnmbpehficchkaaP44h
import Derived.Test.YtnmbpehficchkaaP44k
noncomputable section
open Go.Proofs
namespace Go.Proofs.Ytnmbpehficchkaa.Ideal
open Go.RowKit
set_option linter.unusedSimpArgs false
set_option linter.unusedVariables false
set_option maxRecDepth 100000
set_option maxHeartbeats 4000000
attribute [-simp] IHeap.size_set IHeap.size_push
attribute [local simp ↓] Hid.ap_mk
attribute [local simp] scopeQ_normal scopeQ_ret scopeQ_exit WP_skip WP_label WP_exit WP_goto WP_ret WP_region WP_seq WP_cond WP_block WP_scope WP_loop WP_range thenQ_normal thenQ_ret thenQ_exit thenQ_goto loopQ_normal loopQ_ret loopQ_exit invQ_normal invQ_ret invQ_exit outOf_normal outOf_ret outOf_goto outOf_exit ev_tmp ev_const ev_func
  wops_nil wops_cons wantedE_none wantedE_some jgd_some wnx_eq niC_false wdo_move wdo_assign wdo_pick wdo_load wdo_store wdo_alloc wdo_box wdo_fieldAddr wdo_indexAddr wdo_field wdo_extract wdo_build wdo_buildSlice wdo_makeSlice wdo_binOp wdo_unOp wdo_makeFunc wdo_nilCheck wdo_callV wdo_len wdo_append wdo_copy wdo_delete wdo_max wdo_min wdo_convert jcvt_int
  xput_get put_n put_none put_dfr ibin finQ_n finQ_r finD_nil splice_one ires_nil ires_one ires_two ires_three ires1_tmp ires1_cell jcell_ptr rowLoad_row wrap64 wrapU64 wrapU8 wrapU16 wrapU32 callV_fn buildOf Instr.fill Value.cells Value.oneCell' kindOf slots_all splice_all IHeap.size_set' IHeap.size_push' IHeap.get_set_same IHeap.get_set_ne IHeap.get_pushed IHeap.get_push_ne IHeap.set_set IHeap.set_push IHeap.set_pushed IHeap.set_set3 getU_nil getU_same getU_ne jif_true jif_false pushH_eq setH_eq forceL_eq forceV_eq ibuildSlice
attribute [local simp] wdo_index jopt_some fb_known ze_hist
attribute [-simp] ze28
theorem slots_row (x : HG) : slots x.row 0 68 = some x.row := slots_full _ (by rw [HG.row_len])
theorem HG.one (x : HG) : ∀ v, v ∈ x.row → v.oneCell' = true := by
  intro v hv
  simp only [HG.row, List.mem_append, List.mem_map, List.mem_cons, List.mem_nil_iff, or_false] at hv
  rcases hv with ⟨a, _, rfl⟩ | rfl | rfl | rfl <;> rfl
theorem elem_le_sum {l : List Int} (h : ∀ b ∈ l, 0 ≤ b) {j : Nat} (hj : j < l.length) : l[j] ≤ l.sum := by
  have b1 := sum_take_le j h
  have b2 := sum_take_le (j + 1) h
  rw [sum_take_succ hj] at b2
  omega
theorem mixN_pref {a b : List Int} (ha : a.length = 65) {j : Nat} (hj : j < 65) : (mixN a b j).getD j 0 = a.getD j 0 := by
  have key : ∀ i, i ≤ j → (mixN a b i)[j]? = a[j]? := by
    intro i
    induction i with
    | zero => intro _; rfl
    | succ i ih =>
      intro hi
      rw [mixN, List.getElem?_set_ne (by omega), ih (by omega)]
  rw [List.getD_eq_getElem?_getD, List.getD_eq_getElem?_getD, key j (Nat.le_refl _)]
theorem merge_c {h : IHeap} {p q : Nat} {x o : HG} (okx : x.ok 500) (oko : o.ok 500) (hp : h.get p = some x.obj) (hq : h.get q = some o.obj) (hpq : p ≠ q ∨ (q = p ∧ x = o)) :
    FN Try.prog 18 #[.pointer (some ⟨p, 0, none⟩), .pointer (some ⟨q, 0, none⟩)] h (Q := ⟨fun v h' => v = .tuple #[] ∧ Fr h h' [(p, (x.mrg o).obj)]⟩) := by
  refine FN.enter mixed (fn := Try.f18) (by kernel_rfl) rfl (by kernel_rfl) fun e hn hg hd => ?_
  simp [Try.f18] at hn
  have a0 : e.get 0 = .pointer (some ⟨p, 0, none⟩) := hg 0 (by omega)
  have a1 : e.get 1 = .pointer (some ⟨q, 0, none⟩) := hg 1 (by omega)
  clear hg
  have hpz := IHeap.get_lt hp
  have hqz := IHeap.get_lt hq
  have okx' : x.ok 1000 := ⟨okx.pos, by have := okx.tot; omega⟩
  have oko' : o.ok 1000 := ⟨oko.pos, by have := oko.tot; omega⟩
  simp (maxSteps := 1000000) (disch := first | (simp; done) | (simp only [IHeap.size_push', IHeap.size_set']; omega) | omega) [a0, a1, hn, hd]
  refine FN.of (ends_c oko' hq) ?_
  by_cases s0 : o.by'.sum = 0
  · simp (maxSteps := 1000000) (disch := first | (simp; done) | (simp only [IHeap.size_push', IHeap.size_set']; omega) | omega) [a0, a1, hn, hd, HG.ends, s0]
    rw [HG.mrg, if_pos s0]
    refine ⟨Nat.le_refl _, fun i hi => ?_⟩
    by_cases e : i = p
    · subst e; simp [getU, hp]
    · simp [getU, e]
  simp (maxSteps := 1000000) (disch := first | (simp; done) | (simp only [IHeap.size_push', IHeap.size_set']; omega) | omega) [a0, a1, hn, hd, HG.ends, s0]
  refine FN.of (ends_c okx' hp) ?_
  rw [HG.mrg, if_neg s0]
  have hpo := hp
  have hqo := hq
  simp only [HG.obj] at hp hq ⊢
  obtain ⟨sx, hsx⟩ : ∃ sx, decide (x.by'.sum = 0) = sx := ⟨_, rfl⟩
  have hends : ∃ ea eb, x.ends = .tuple #[.int .u64 ea, .int .u64 eb, .bool (!sx)] := by
    unfold HG.ends
    by_cases c : x.by'.sum = 0
    · rw [if_pos c]; simp [c] at hsx; subst hsx; exact ⟨_, _, rfl⟩
    · rw [if_neg c]; simp [c] at hsx; subst hsx; exact ⟨_, _, rfl⟩
  obtain ⟨ea, eb, he⟩ := hends
  rw [he]
  simp (maxSteps := 1000000) (disch := first | (simp; done) | (simp only [IHeap.size_push', IHeap.size_set']; omega) | omega) [-WP_seq, a0, a1, hn, hd, s0]
  refine WP.cut (fun e' h' => h'.size = h.size ∧ h'.get p = some (x.mfirst o).obj ∧ (∀ i, i < h.size → i ≠ p → h'.get i = h.get i) ∧ e'.n = 89 ∧ e'.dfr = [] ∧ e'.get 0 = .pointer (some ⟨p, 0, none⟩) ∧ e'.get 1 = .pointer (some ⟨q, 0, none⟩) ∧ e'.get 4 = .int .u64 o.least ∧ e'.get 5 = .int .u64 o.greatest) ?_ ?_
  · cases sx with
    | true =>
      have c : x.by'.sum = 0 := by simpa using hsx
      simp (maxSteps := 1000000) (disch := first | (simp; done) | (simp only [IHeap.size_push', IHeap.size_set']; omega) | omega) [a0, a1, hn, hd, hp, HG.row_len, HG.sp65, HG.sp66, HG.sp67]
      refine ⟨by simp only [HG.mfirst, c, if_true, HG.obj], fun i hi hne => by rw [IHeap.get_set_ne _ (Ne.symm hne)]⟩
    | false =>
      have c : ¬ x.by'.sum = 0 := by simpa using hsx
      simp (maxSteps := 1000000) (disch := first | (simp; done) | (simp only [IHeap.size_push', IHeap.size_set']; omega) | omega) [a0, a1, hn, hd]
      simp only [HG.mfirst, c, if_false]
      exact hpo
  clear hn hd a0 a1 e
  rintro e h1 ⟨z1, hp1, old1, hn, hd, a0, a1, a4, a5⟩
  obtain ⟨x1, hx1⟩ : ∃ x1, x1 = x.mfirst o := ⟨_, rfl⟩
  rw [← hx1] at hp1
  simp only [HG.obj] at hp1
  simp only [Hid.ap_mk, thenQ_normal]
  obtain ⟨x2, hx2⟩ : ∃ x2, x2 = x1.mwide o := ⟨_, rfl⟩
  refine WP.cut1 (fun e' h' => h'.size = h.size ∧ h'.get p = some x2.obj ∧ (∀ i, i < h.size → i ≠ p → h'.get i = h.get i) ∧ e'.n = 89 ∧ e'.dfr = [] ∧ e'.get 0 = .pointer (some ⟨p, 0, none⟩) ∧ e'.get 1 = .pointer (some ⟨q, 0, none⟩)) ?_ ?_
  · simp (maxSteps := 1000000) (disch := first | (simp; done) | (simp only [IHeap.size_push', IHeap.size_set']; omega) | omega) [a0, a1, a4, a5, hn, hd, hp1, z1, hpz, HG.row_len, HG.sp65, HG.sp66, HG.sp67, HG.get66, HG.get67]
    refine ⟨niC_of (by kernel_rfl), by subst hx2; rfl, fun i hi hne => ?_⟩
    rw [IHeap.get_set_ne _ (Ne.symm hne)]
    exact old1 i hi hne
  clear hn hd a0 a1 a4 a5 old1 hp1 z1 e h1
  rintro e h1 ⟨z1, hp1, old1, hn, hd, a0, a1⟩
  obtain ⟨y, hy1, hy2, hy3⟩ : ∃ y : HG, h1.get q = some y.obj ∧ y.by' = o.by' ∧ y.sum = o.sum := by
    rcases hpq with c | ⟨rfl, rfl⟩
    · exact ⟨o, by rw [old1 q hqz (Ne.symm c)]; exact hqo, rfl, rfl⟩
    · exact ⟨x2, hp1, by rw [hx2, hx1, HG.mwide_by, HG.mfirst_by], by rw [hx2, hx1]; show (x.mfirst x).sum = _; rw [HG.mfirst_sum]⟩
  have sr := slots_row y
  have sb := HG.slots_by y
  rw [hy2] at sb
  simp only [HG.obj] at hp1 hy1
  have y1 : y.row.all (·.oneCell') = true := List.all_eq_true.2 y.one
  have sp : splice hg0.row 0 y.row = y.row := splice_all (by rw [HG.row_len, HG.row_len])
  simp (maxSteps := 1000000) (disch := first | (simp; done) | (simp only [IHeap.size_push', IHeap.size_set']; omega) | omega) [-List.all_eq_true, sp, -Value.oneCell', a0, a1, hn, hd, hp1, hy1, z1, hpz, hqz, HG.row_len, sr, sb, y1]
  refine WPL.by_inv mixed (by kernel_rfl) (fun k e h' => ∃ j, j + k = 65 ∧ e.n = 89 ∧ e.dfr = [] ∧ e.get 0 = .pointer (some ⟨p, 0, none⟩) ∧ e.get 10 = .pointer (some ⟨h.size, 0, none⟩) ∧ e.get 63 = .agg (o.by'.map (.int .u64)).toArray ∧ e.get 64 = .int .i64 j ∧ h'.get p = some (x2.mix o.by' j).obj ∧ h'.get h.size = some y.obj ∧ ∀ i, i < h.size → i ≠ p → h'.get i = h.get i) 65 ?_ ?_
  · refine ⟨0, ?_⟩
    have : p ≠ h1.size := by omega
    simp (maxSteps := 1000000) (disch := first | (simp; done) | (simp only [IHeap.size_push', IHeap.size_set']; omega) | omega) [a0, a1, hn, hd, z1, hp1, HG.obj]
    refine ⟨rfl, fun i hi hne => ?_⟩
    rw [IHeap.get_push_ne _ (by omega)]
    exact old1 i hi hne
  clear hn hd a0 a1 old1 hp1 hy1 z1 e h1
  rintro k e h1 ⟨j, hj, hn, hd, a0, a10, a63, a64, hp1, hy1, old1⟩
  simp only [HG.obj] at hp1 hy1
  have hps := IHeap.get_lt hp1
  have hys := IHeap.get_lt hy1
  have x2by : x2.by' = x.by' := by rw [hx2, hx1, HG.mwide_by, HG.mfirst_by]
  have x2sum : x2.sum = x.sum := by rw [hx2, hx1]; show (x.mfirst o).sum = _; rw [HG.mfirst_sum]
  cases k with
  | zero =>
    obtain rfl : j = 65 := by omega
    simp (maxSteps := 1000000) (disch := first | (simp; done) | (simp only [IHeap.size_push', IHeap.size_set']; omega) | omega) [a0, a10, a63, a64, hn, hd, hp1, hy1, hps, hys, HG.row_len, HG.sp65, HG.get65, HG.mix_sum, hy3, x2sum]
    refine ⟨niC_of (by kernel_rfl), by rw [IHeap.size_set]; omega, fun i hi => ?_⟩
    by_cases c : i = p
    · subst c
      rw [IHeap.get_set_same _ hps, getU_same _ rfl]
      subst hx2 hx1
      rfl
    · rw [IHeap.get_set_ne _ (Ne.symm c), getU_ne _ c, getU_nil]
      exact old1 i hi c
  | succ k =>
    have j1 : (j : Int) < 65 := by omega
    have j2 : j < 65 := by omega
    have j3 : j ≤ 67 := by omega
    have jl : j < o.by'.length := by rw [o.hl]; omega
    have jo : (o.by'.map (Value.int .u64)).toArray[j]? = some (.int .u64 o.by'[j]) := by simp [jl]
    have g1 := HG.get_by (x2.mix o.by' j) j2
    simp (maxSteps := 1000000) (disch := first | (simp; done) | (simp only [IHeap.size_push', IHeap.size_set']; omega) | omega) [a0, a10, a63, a64, hn, hd, hp1, hy1, hps, hys, HG.row_len, j1, j2, j3, jo, idxV, g1, HG.sp_by]
    have ml : j < (mixN x2.by' o.by' j).length := by rw [mixN_len, x2.hl]; omega
    have v1 : (mixN x2.by' o.by' j)[j] = (mixN x2.by' o.by' j).getD j 0 := by simp [ml]
    have v2 : o.by'[j] = o.by'.getD j 0 := by simp [jl]
    have xl : j < x.by'.length := by rw [x.hl]; omega
    have v3 : (mixN x2.by' o.by' j).getD j 0 = x.by'[j] := by rw [mixN_pref x2.hl j2, x2by]; simp [xl]
    have b1 : 0 ≤ x.by'[j] := okx.pos _ (List.getElem_mem xl)
    have b2 : 0 ≤ o.by'[j] := oko.pos _ (List.getElem_mem jl)
    have b3 := elem_le_sum okx.pos xl
    have b4 := elem_le_sum oko.pos jl
    have b5 := okx.tot
    have b6 := oko.tot
    have ew : IntKind.u64.wrap ((mixN x2.by' o.by' j)[j] + o.by'[j]) = (mixN x2.by' o.by' j).getD j 0 + o.by'.getD j 0 := by
      rw [v1, v3, ← v2]
      exact wrapU64 (by omega) (by omega)
    simp only [HG.mix_by, HG.mix_sum, HG.mix_least, HG.mix_greatest, ew]
    refine ⟨niC_of (by kernel_rfl), k, by omega, j + 1, by omega, by omega, rfl, rfl, fun i hi hne => ?_⟩
    rw [IHeap.get_set_ne _ (Ne.symm hne)]
    exact old1 i hi hne
end Go.Proofs.Ytnmbpehficchkaa.Ideal
