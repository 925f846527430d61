import Derived.Test.YtepajeemcalheaaP10a
noncomputable section
open Go.Proofs
namespace Go.Proofs.Ytepajeemcalheaa.Ideal
open Go.RowKit
set_option linter.unusedSimpArgs false
set_option linter.unusedVariables false
set_option maxRecDepth 100000
set_option maxHeartbeats 4000000
attribute [-simp] IHeap.size_set IHeap.size_push
attribute [local simp ↓] Hid.ap_mk
attribute [local simp] scopeQ_normal scopeQ_ret scopeQ_exit WP_skip WP_label WP_exit WP_goto WP_ret WP_region WP_seq WP_cond WP_block WP_scope WP_loop WP_range thenQ_normal thenQ_ret thenQ_exit thenQ_goto loopQ_normal loopQ_ret loopQ_exit invQ_normal invQ_ret invQ_exit outOf_normal outOf_ret outOf_goto outOf_exit ev_tmp ev_const ev_func
  wops_nil wops_cons wantedE_none wantedE_some jgd_some wnx_eq niC_false wdo_move wdo_assign wdo_pick wdo_load wdo_store wdo_alloc wdo_box wdo_fieldAddr wdo_indexAddr wdo_field wdo_extract wdo_build wdo_buildSlice wdo_makeSlice wdo_binOp wdo_unOp wdo_makeFunc wdo_nilCheck wdo_callV wdo_len wdo_append wdo_copy wdo_delete wdo_max wdo_min wdo_convert jcvt_int
  xput_get put_n put_none put_dfr ibin finQ_n finQ_r finD_nil splice_one ires_nil ires_one ires_two ires_three ires1_tmp ires1_cell jcell_ptr rowLoad_row wrap64 wrapU64 wrapU8 wrapU16 wrapU32 callV_fn buildOf Instr.fill Value.cells Value.oneCell' kindOf slots_all splice_all IHeap.size_set' IHeap.size_push' IHeap.get_set_same IHeap.get_set_ne IHeap.get_pushed IHeap.get_push_ne IHeap.set_set IHeap.set_push IHeap.set_pushed IHeap.set_set3 getU_nil getU_same getU_ne jif_true jif_false pushH_eq setH_eq forceL_eq forceV_eq ibuildSlice
attribute [local simp] wdo_index jopt_some
variable {h : IHeap} {s k q n m : Nat} {L : Nat → List Nat} {b f : Nat → Nat} {t : Nat → Int}
theorem push_bad (x : SIs h s k q n m L b f t) (l c : Int) (hb : ¬ ((0 ≤ l ∧ l < m) ∧ (0 ≤ c ∧ c < n))) : ICall Try.prog 8 #[.pointer (some ⟨s, 0, none⟩), .int .i64 l, .int .i64 c] h (.int .i64 2) h := by
  refine ICall.of_FN ?_
  refine FN.enter mixed (fn := Try.f8) (by kernel_rfl) rfl (by kernel_rfl) fun e hn hg hd => ?_
  simp [Try.f8] at hn
  have a0 : e.get 0 = .pointer (some ⟨s, 0, none⟩) := hg 0 (by omega)
  have a1 : e.get 1 = .int .i64 l := hg 1 (by omega)
  have a2 : e.get 2 = .int .i64 c := hg 2 (by omega)
  clear hg
  have n1 := x.n1
  have n0 : ¬ n = 0 := by omega
  simp (maxSteps := 1000000) (disch := first | (simp; done) | (simp only [IHeap.size_push', IHeap.size_set']; omega) | omega) [a0, a1, a2, hn, hd]
  refine FN.of (cells_c x) ?_
  simp (maxSteps := 1000000) (disch := first | (simp; done) | (simp only [IHeap.size_push', IHeap.size_set']; omega) | omega) [a0, a1, a2, hn, hd, n0]
  refine FN.of (isList_c x l) ?_
  by_cases d : 0 ≤ l ∧ l < m
  · simp (maxSteps := 1000000) (disch := first | (simp; done) | (simp only [IHeap.size_push', IHeap.size_set']; omega) | omega) [a0, a1, a2, hn, hd, d, undef]
    refine FN.of (isCell_c x c) ?_
    have e : ¬ (0 ≤ c ∧ c < n) := fun e => hb ⟨d, e⟩
    simp (maxSteps := 1000000) (disch := first | (simp; done) | (simp only [IHeap.size_push', IHeap.size_set']; omega) | omega) [a0, a1, a2, hn, hd, d, e, undef]
  · simp (maxSteps := 1000000) (disch := first | (simp; done) | (simp only [IHeap.size_push', IHeap.size_set']; omega) | omega) [a0, a1, a2, hn, hd, d, undef]
theorem push_twice (x : SIs h s k q n m L b f t) (l c : Nat) (hl : l < m) (hc : c < n) (ht : ¬ t c < 0) : ICall Try.prog 8 #[.pointer (some ⟨s, 0, none⟩), .int .i64 l, .int .i64 c] h (.int .i64 8) h := by
  refine ICall.of_FN ?_
  refine FN.enter mixed (fn := Try.f8) (by kernel_rfl) rfl (by kernel_rfl) fun e hn hg hd => ?_
  simp [Try.f8] at hn
  have a0 : e.get 0 = .pointer (some ⟨s, 0, none⟩) := hg 0 (by omega)
  have a1 : e.get 1 = .int .i64 l := hg 1 (by omega)
  have a2 : e.get 2 = .int .i64 c := hg 2 (by omega)
  clear hg
  have n1 := x.n1
  have n0 : ¬ n = 0 := by omega
  have hl2 : (l : Int) < m := by omega
  have hc2 : (c : Int) < n := by omega
  have hc3 : (c : Int) < n + m := by omega
  have hc4 : c < n + m := by omega
  have gs := x.gs
  have gk := x.gk
  have gt := rowL_t (b := b) (f := f) (t := t) hc4
  have ht2 : 0 ≤ t c := by omega
  simp (maxSteps := 1000000) (disch := first | (simp; done) | (simp only [IHeap.size_push', IHeap.size_set']; omega) | omega) [a0, a1, a2, hn, hd]
  refine FN.of (cells_c x) ?_
  simp (maxSteps := 1000000) (disch := first | (simp; done) | (simp only [IHeap.size_push', IHeap.size_set']; omega) | omega) [a0, a1, a2, hn, hd, n0]
  refine FN.of (isList_c x l) ?_
  simp (maxSteps := 1000000) (disch := first | (simp; done) | (simp only [IHeap.size_push', IHeap.size_set']; omega) | omega) [a0, a1, a2, hn, hd, undef, hl2, hc2]
  refine FN.of (isCell_c x c) ?_
  simp (maxSteps := 1000000) (disch := first | (simp; done) | (simp only [IHeap.size_push', IHeap.size_set']; omega) | omega) [a0, a1, a2, hn, hd, undef, hl2, hc2, hc3, hc4, gs, gk, gt, ht2, show c * 3 = 3 * c by omega]
theorem push_ok (x : SIs h s k q n m L b f t) (l c : Nat) (hl : l < m) (hc : c < n) (ht : t c < 0) (hlen : (L l).length < 100000) :
    FN Try.prog 8 #[.pointer (some ⟨s, 0, none⟩), .int .i64 l, .int .i64 c] h (Q := ⟨fun v h' => v = .int .i64 0 ∧ (∃ b' f' t', SIs h' s k q n m (putL L l (L l ++ [c])) b' f' t') ∧ h'.size = h.size ∧ ∀ i, i ≠ k → i ≠ q → h'.get i = h.get i⟩) := by
  refine FN.enter mixed (fn := Try.f8) (by kernel_rfl) rfl (by kernel_rfl) fun e hn hg hd => ?_
  simp [Try.f8] at hn
  have a0 : e.get 0 = .pointer (some ⟨s, 0, none⟩) := hg 0 (by omega)
  have a1 : e.get 1 = .int .i64 l := hg 1 (by omega)
  have a2 : e.get 2 = .int .i64 c := hg 2 (by omega)
  clear hg
  have n1 := x.n1
  have n0 : ¬ n = 0 := by omega
  have nz := x.nz
  have mz := x.mz
  have hl2 : (l : Int) < m := by omega
  have hc2 : (c : Int) < n := by omega
  have hc3 : (c : Int) < n + m := by omega
  have hc4 : c < n + m := by omega
  obtain ⟨o, ho⟩ : ∃ o, n + l = o := ⟨_, rfl⟩
  have oi : (n : Int) + l = (o : Int) := by omega
  have ho4 : o < n + m := by omega
  have ho3 : (o : Int) < n + m := by omega
  have gs := x.gs
  have gk := x.gk
  have gq := x.gq
  have gt := rowL_t (b := b) (f := f) (t := t) hc4
  have gm := manyR_get (L := L) hl
  have ht2 : ¬ 0 ≤ t c := by omega
  have sk := x.sk
  have sq := x.sq
  have kq := x.kq
  have hkz := IHeap.get_lt gk
  have hqz := IHeap.get_lt gq
  obtain ⟨rep, hbm⟩ := x.rep.push hl hc ht
  rw [ho] at rep hbm
  have hb4 : b o < n + m := by
    simp only [List.mem_cons] at hbm
    rcases hbm with e | e
    · omega
    · have := (x.rep.mem l hl _ e).1; omega
  have hb3 : ((b o : Nat) : Int) < n + m := by omega
  have gb := rowL_b (b := b) (f := f) (t := t) ho4
  simp (maxSteps := 1000000) (disch := first | (simp; done) | (simp only [IHeap.size_push', IHeap.size_set']; omega) | omega) [a0, a1, a2, hn, hd]
  refine FN.of (cells_c x) ?_
  simp (maxSteps := 1000000) (disch := first | (simp; done) | (simp only [IHeap.size_push', IHeap.size_set']; omega) | omega) [a0, a1, a2, hn, hd, n0]
  refine FN.of (isList_c x l) ?_
  simp (maxSteps := 1000000) (disch := first | (simp; done) | (simp only [IHeap.size_push', IHeap.size_set']; omega) | omega) [a0, a1, a2, hn, hd, undef, hl2, hc2]
  refine FN.of (isCell_c x c) ?_
  simp (maxSteps := 1000000) (disch := first | (simp; done) | (simp only [IHeap.size_push', IHeap.size_set']; omega) | omega) [a0, a1, a2, hn, hd, undef, hl2, hc2, hc3, hc4, gs, gk, gt, ht2, show c * 3 = 3 * c by omega]
  refine FN.of (cells_c x) ?_
  have mc : c * 3 = 3 * c := by omega
  have mo : o * 3 = 3 * o := by omega
  have mb : b o * 3 = 3 * b o := by omega
  simp (maxSteps := 1000000) (disch := first | (simp; done) | (simp only [IHeap.size_push', IHeap.size_set']; omega) | omega) [show l + 1 ≤ m by omega, gq, oi, mc, mo, mb, hb3, hb4, gm, a0, a1, a2, hn, hd, undef, hl2, hc2, hc3, hc4, gs, gk, gt, ht2, rowL_len, spL_3, spL_f, spL_b, manyR_len, show 3 * c + 3 ≤ 3 * (n + m) by omega, show 3 * o + 1 ≤ 3 * (n + m) by omega, show 3 * b o + 1 + 1 ≤ 3 * (n + m) by omega, hl, wrap64, ho3, ho4, gb, sk, sq, kq, hkz, hqz]
  have lm : (splice (manyR m L) l [Value.int .i64 (((L l).length : Nat) + 1)]) = manyR m (putL L l (L l ++ [c])) := by
    rw [splice_one _ (by rw [manyR_len]; exact hl), ← manyR_set]
    simp
  rw [lm]
  refine ⟨niC_pend [] (by kernel_rfl) trivial, ⟨_, _, _, ⟨?_, ?_, ?_, rep, n1, x.m1, nz, mz⟩⟩, fun i h1 h2 => ?_⟩
  · simp (maxSteps := 1000000) (disch := first | (simp; done) | (simp only [IHeap.size_push', IHeap.size_set']; omega) | omega) [gs, sk, sq, Ne.symm sk, Ne.symm sq]
  · simp (maxSteps := 1000000) (disch := first | (simp; done) | (simp only [IHeap.size_push', IHeap.size_set']; omega) | omega) [kq, Ne.symm kq]
  · simp (maxSteps := 1000000) (disch := first | (simp; done) | (simp only [IHeap.size_push', IHeap.size_set']; omega) | omega) []
  · simp (maxSteps := 1000000) (disch := first | (simp; done) | (simp only [IHeap.size_push', IHeap.size_set']; omega) | omega) [h1, h2, Ne.symm h1, Ne.symm h2]
theorem remove_bad (x : SIs h s k q n m L b f t) (c : Int) (hb : ¬ (0 ≤ c ∧ c < n)) : ICall Try.prog 9 #[.pointer (some ⟨s, 0, none⟩), .int .i64 c] h (.int .i64 2) h := by
  refine ICall.of_FN ?_
  refine FN.enter mixed (fn := Try.f9) (by kernel_rfl) rfl (by kernel_rfl) fun e hn hg hd => ?_
  simp [Try.f9] at hn
  have a0 : e.get 0 = .pointer (some ⟨s, 0, none⟩) := hg 0 (by omega)
  have a1 : e.get 1 = .int .i64 c := hg 1 (by omega)
  clear hg
  have n1 := x.n1
  have n0 : ¬ n = 0 := by omega
  simp (maxSteps := 1000000) (disch := first | (simp; done) | (simp only [IHeap.size_push', IHeap.size_set']; omega) | omega) [a0, a1, hn, hd]
  refine FN.of (cells_c x) ?_
  simp (maxSteps := 1000000) (disch := first | (simp; done) | (simp only [IHeap.size_push', IHeap.size_set']; omega) | omega) [a0, a1, hn, hd, n0]
  refine FN.of (isCell_c x c) ?_
  simp (maxSteps := 1000000) (disch := first | (simp; done) | (simp only [IHeap.size_push', IHeap.size_set']; omega) | omega) [a0, a1, hn, hd, hb]
theorem remove_none (x : SIs h s k q n m L b f t) (c : Nat) (hc : c < n) (ht : t c < 0) : ICall Try.prog 9 #[.pointer (some ⟨s, 0, none⟩), .int .i64 c] h (.int .i64 7) h := by
  refine ICall.of_FN ?_
  refine FN.enter mixed (fn := Try.f9) (by kernel_rfl) rfl (by kernel_rfl) fun e hn hg hd => ?_
  simp [Try.f9] at hn
  have a0 : e.get 0 = .pointer (some ⟨s, 0, none⟩) := hg 0 (by omega)
  have a1 : e.get 1 = .int .i64 c := hg 1 (by omega)
  clear hg
  have n1 := x.n1
  have n0 : ¬ n = 0 := by omega
  have hc2 : (c : Int) < n := by omega
  have hc3 : (c : Int) < n + m := by omega
  have hc4 : c < n + m := by omega
  have gs := x.gs
  have gk := x.gk
  have gt := rowL_t (b := b) (f := f) (t := t) hc4
  simp (maxSteps := 1000000) (disch := first | (simp; done) | (simp only [IHeap.size_push', IHeap.size_set']; omega) | omega) [a0, a1, hn, hd]
  refine FN.of (cells_c x) ?_
  simp (maxSteps := 1000000) (disch := first | (simp; done) | (simp only [IHeap.size_push', IHeap.size_set']; omega) | omega) [a0, a1, hn, hd, n0]
  refine FN.of (isCell_c x c) ?_
  simp (maxSteps := 1000000) (disch := first | (simp; done) | (simp only [IHeap.size_push', IHeap.size_set']; omega) | omega) [a0, a1, hn, hd, hc2, hc3, hc4, gs, gk, gt, ht, show c * 3 = 3 * c by omega]
theorem remove_ok (x : SIs h s k q n m L b f t) (l c : Nat) (hl : l < m) (hc : c ∈ L l) (hlen : (L l).length < 100000) :
    FN Try.prog 9 #[.pointer (some ⟨s, 0, none⟩), .int .i64 c] h (Q := ⟨fun v h' => v = .int .i64 0 ∧ (∃ b' f' t', SIs h' s k q n m (putL L l ((L l).erase c)) b' f' t') ∧ h'.size = h.size + 1 ∧ ∀ i, i < h.size → i ≠ k → i ≠ q → h'.get i = h.get i⟩) := by
  refine FN.enter mixed (fn := Try.f9) (by kernel_rfl) rfl (by kernel_rfl) fun e hn hg hd => ?_
  simp [Try.f9] at hn
  have a0 : e.get 0 = .pointer (some ⟨s, 0, none⟩) := hg 0 (by omega)
  have a1 : e.get 1 = .int .i64 c := hg 1 (by omega)
  clear hg
  have n1 := x.n1
  have n0 : ¬ n = 0 := by omega
  have nz := x.nz
  have mz := x.mz
  obtain ⟨hcn, hct⟩ := x.rep.mem l hl c hc
  have hl2 : (l : Int) < m := by omega
  have hc2 : (c : Int) < n := by omega
  have hc3 : (c : Int) < n + m := by omega
  have hc4 : c < n + m := by omega
  have gs := x.gs
  have gk := x.gk
  have gq := x.gq
  have gt := rowL_t (b := b) (f := f) (t := t) hc4
  have gb := rowL_b (b := b) (f := f) (t := t) hc4
  have gf := rowL_f (b := b) (f := f) (t := t) hc4
  have gm := manyR_get (L := L) hl
  have ht2 : ¬ t c < 0 := by omega
  have sk := x.sk
  have sq := x.sq
  have kq := x.kq
  have hsz := IHeap.get_lt gs
  have hkz := IHeap.get_lt gk
  have hqz := IHeap.get_lt gq
  obtain ⟨rep, hbm, hfm⟩ := x.rep.cut hl hc
  have lim : ∀ v, v ∈ (n + l) :: L l → v < n + m := by
    intro v hv
    simp only [List.mem_cons] at hv
    rcases hv with e | e
    · omega
    · have := (x.rep.mem l hl _ e).1; omega
  have hb4 := lim _ hbm
  have hf4 := lim _ hfm
  have hb3 : ((b c : Nat) : Int) < n + m := by omega
  have hf3 : ((f c : Nat) : Int) < n + m := by omega
  have mc : c * 3 = 3 * c := by omega
  have mb : b c * 3 = 3 * b c := by omega
  have mf : f c * 3 = 3 * f c := by omega
  have s3 : slots (rowL (n + m) b f t) (3 * c) 3 = some [.int .i64 (b c), .int .i64 (f c), .int .i64 (t c)] := by
    unfold slots
    rw [if_pos (by rw [rowL_len]; omega)]
    congr 1
    apply List.ext_getElem?
    intro j
    by_cases hj : j < 3
    · rw [List.getElem?_take_of_lt hj, List.getElem?_drop]
      rcases (show j = 0 ∨ j = 1 ∨ j = 2 by omega) with e | e | e <;> subst e
      · exact gb
      · exact gf
      · exact gt
    · rw [List.getElem?_eq_none (by rw [List.length_take]; omega), List.getElem?_eq_none (by show 3 ≤ j; omega)]
  simp (maxSteps := 1000000) (disch := first | (simp; done) | (simp only [IHeap.size_push', IHeap.size_set']; omega) | omega) [a0, a1, hn, hd]
  refine FN.of (cells_c x) ?_
  simp (maxSteps := 1000000) (disch := first | (simp; done) | (simp only [IHeap.size_push', IHeap.size_set']; omega) | omega) [a0, a1, hn, hd, n0]
  refine FN.of (isCell_c x c) ?_
  simp (maxSteps := 1000000) (disch := first | (simp; done) | (simp only [IHeap.size_push', IHeap.size_set']; omega) | omega) [show ¬ (l : Int) < 0 by omega, a0, a1, hn, hd, undef, hl2, hc2, hc3, hc4, gs, gk, gq, gt, gb, gf, s3, gm, ht2, hct, mc, mb, mf, hb3, hb4, hf3, hf4, wrap64, rowL_len, spL_3, spL_f, spL_b, manyR_len, show 3 * c + 3 ≤ 3 * (n + m) by omega, show 3 * b c + 1 + 1 ≤ 3 * (n + m) by omega, show 3 * f c + 1 ≤ 3 * (n + m) by omega, hl, show l + 1 ≤ m by omega, sk, sq, kq, hsz, hkz, hqz]
  have z3 : ∀ v w : Nat, [Value.int .i64 0, Value.int .i64 0, Value.int .i64 (-1)] = [Value.int .i64 ((0 : Nat) : Int), Value.int .i64 ((0 : Nat) : Int), Value.int .i64 (-1)] := fun _ _ => rfl
  rw [z3 0 0, spL_3 hc4]
  have lp : 0 < (L l).length := List.length_pos_of_mem hc
  have lm : (splice (manyR m L) l [Value.int .i64 (((L l).length : Nat) - 1)]) = manyR m (putL L l ((L l).erase c)) := by
    rw [splice_one _ (by rw [manyR_len]; exact hl), ← manyR_set, List.length_erase_of_mem hc]
    congr 2
    omega
  rw [lm]
  have k1 : ((h.set k (.row false 3 (rowL (n + m) b (put1 f (b c) (f c)) t))).push (.row false 0 [.int .i64 (b c), .int .i64 (f c), .int .i64 l])).get h.size = (h.push (.row false 0 [.int .i64 (b c), .int .i64 (f c), .int .i64 l])).get h.size := by
    simp (maxSteps := 1000000) (disch := first | (simp; done) | (simp only [IHeap.size_push', IHeap.size_set']; omega) | omega) []
  refine ⟨niC_pend [(11, 18), (15, 18)] (by kernel_rfl) ⟨k1, k1, trivial⟩, niC_pend [] (by kernel_rfl) trivial, ⟨_, _, _, ⟨?_, ?_, ?_, rep, n1, x.m1, nz, mz⟩⟩, fun i h0 h1 h2 => ?_⟩
  · simp (maxSteps := 1000000) (disch := first | (simp; done) | (simp only [IHeap.size_push', IHeap.size_set']; omega) | omega) [gs, sk, sq, Ne.symm sk, Ne.symm sq]
  · simp (maxSteps := 1000000) (disch := first | (simp; done) | (simp only [IHeap.size_push', IHeap.size_set']; omega) | omega) [kq, Ne.symm kq]
  · simp (maxSteps := 1000000) (disch := first | (simp; done) | (simp only [IHeap.size_push', IHeap.size_set']; omega) | omega) []
  · simp (maxSteps := 1000000) (disch := first | (simp; done) | (simp only [IHeap.size_push', IHeap.size_set']; omega) | omega) [h1, h2, Ne.symm h1, Ne.symm h2]
end Go.Proofs.Ytepajeemcalheaa.Ideal
