import Derived.Test.YtepajeemcalheaaI38
import Derived.Test.YtepajeemcalheaaF10
import Derived.Test.YtepajeemcalheaaP10q
noncomputable section
open Go.Proofs
namespace Go.Proofs.Ytepajeemcalheaa.Ideal
open Go.RowKit
set_option linter.unusedSimpArgs false
set_option linter.unusedVariables false
set_option maxRecDepth 100000
set_option maxHeartbeats 4000000
attribute [-simp] IHeap.size_set IHeap.size_push
attribute [local simp ↓] Hid.ap_mk
attribute [local simp] scopeQ_normal scopeQ_ret scopeQ_exit WP_skip WP_label WP_exit WP_goto WP_ret WP_region WP_seq WP_cond WP_block WP_scope WP_loop WP_range thenQ_normal thenQ_ret thenQ_exit thenQ_goto loopQ_normal loopQ_ret loopQ_exit invQ_normal invQ_ret invQ_exit outOf_normal outOf_ret outOf_goto outOf_exit ev_tmp ev_const ev_func
  wops_nil wops_cons wantedE_none wantedE_some jgd_some wnx_eq niC_false wdo_move wdo_assign wdo_pick wdo_load wdo_store wdo_alloc wdo_box wdo_fieldAddr wdo_indexAddr wdo_field wdo_extract wdo_build wdo_buildSlice wdo_makeSlice wdo_binOp wdo_unOp wdo_makeFunc wdo_nilCheck wdo_callV wdo_len wdo_append wdo_copy wdo_delete wdo_max wdo_min wdo_convert jcvt_int
  xput_get put_n put_none put_dfr ibin finQ_n finQ_r finD_nil splice_one ires_nil ires_one ires_two ires_three ires1_tmp ires1_cell jcell_ptr rowLoad_row wrap64 wrapU64 wrapU8 wrapU16 wrapU32 callV_fn buildOf Instr.fill Value.cells Value.oneCell' kindOf slots_all splice_all IHeap.size_set' IHeap.size_push' IHeap.get_set_same IHeap.get_set_ne IHeap.get_pushed IHeap.get_push_ne IHeap.set_set IHeap.set_push IHeap.set_pushed IHeap.set_set3 getU_nil getU_same getU_ne jif_true jif_false pushH_eq setH_eq forceL_eq forceV_eq ibuildSlice
attribute [local simp] wdo_index jopt_some
theorem mixed : Try.prog.follows .mixedOrders = true := by kernel_rfl
/-- How many cells each list has, in memory. -/
def manyR (m : Nat) (L : Nat → List Nat) : List Value := (List.range m).map fun l => .int .i64 ((L l).length : Nat)
theorem manyR_len (m : Nat) (L : Nat → List Nat) : (manyR m L).length = m := by simp [manyR]
theorem manyR_get {m : Nat} {L : Nat → List Nat} {l : Nat} (h : l < m) : (manyR m L)[l]? = some (.int .i64 ((L l).length : Nat)) := by simp [manyR, h]
theorem manyR_set {m : Nat} {L : Nat → List Nat} {l : Nat} (p : List Nat) : (manyR m L).set l (.int .i64 (p.length : Nat)) = manyR m (putL L l p) := by
  apply List.ext_getElem?
  intro j
  rw [List.getElem?_set]
  by_cases e : l = j
  · subst e
    by_cases h : l < m
    · simp [manyR, h, putL]
    · simp [manyR, h]
  · rw [if_neg e]
    by_cases h : j < m
    · simp [manyR, h, putL, Ne.symm e]
    · simp [manyR, h]
theorem spL_b {N : Nat} {b f : Nat → Nat} {t : Nat → Int} {i : Nat} (hi : i < N) (v : Nat) : splice (rowL N b f t) (3 * i) [.int .i64 v] = rowL N (put1 b i v) f t := by
  rw [splice_one _ (by rw [rowL_len]; omega), rowL_setb]
theorem spL_f {N : Nat} {b f : Nat → Nat} {t : Nat → Int} {i : Nat} (hi : i < N) (v : Nat) : splice (rowL N b f t) (3 * i + 1) [.int .i64 v] = rowL N b (put1 f i v) t := by
  rw [splice_one _ (by rw [rowL_len]; omega), rowL_setf]
theorem spL_3 {N : Nat} {b f : Nat → Nat} {t : Nat → Int} {i : Nat} (hi : i < N) (v w : Nat) (z : Int) : splice (rowL N b f t) (3 * i) [.int .i64 v, .int .i64 w, .int .i64 z] = rowL N (put1 b i v) (put1 f i w) (putI t i z) := by
  rw [← rowL_sett, ← rowL_setf, ← rowL_setb]
  have hl := rowL_len N b f t
  generalize rowL N b f t = r at hl
  unfold splice
  apply List.ext_getElem?
  intro j
  simp only [List.getElem?_set, List.length_set]
  by_cases h1 : j < 3 * i
  · rw [List.append_assoc, List.getElem?_append_left (by simp; omega)]
    simp [show ¬ 3 * i + 2 = j by omega, show ¬ 3 * i + 1 = j by omega, show ¬ 3 * i = j by omega, h1]
  · by_cases h2 : j < 3 * i + 3
    · rw [List.append_assoc, List.getElem?_append_right (by simp; omega), List.getElem?_append_left (by simp; omega)]
      have ht : (r.take (3 * i)).length = 3 * i := by simp; omega
      rw [ht]
      rcases (show j = 3 * i ∨ j = 3 * i + 1 ∨ j = 3 * i + 2 by omega) with e | e | e
      · subst e; simp; omega
      · subst e; simp; omega
      · subst e; simp; omega
    · rw [List.append_assoc, List.getElem?_append_right (by simp; omega), List.getElem?_append_right (by simp; omega)]
      have ht : (r.take (3 * i)).length = 3 * i := by simp; omega
      rw [ht]
      simp only [List.getElem?_drop, List.length_cons, List.length_nil]
      rw [if_neg (by omega), if_neg (by omega), if_neg (by omega)]
      congr 1
      omega
/-- Slots in memory: s itself, k the links, q how many. -/
structure SIs (h : IHeap) (s k q n m : Nat) (L : Nat → List Nat) (b f : Nat → Nat) (t : Nat → Int) : Prop where
  gs : h.get s = some (.row false 0 [.slice (some ⟨k, 0, none⟩) (n + m) (n + m), .slice (some ⟨q, 0, none⟩) m m])
  gk : h.get k = some (.row false 3 (rowL (n + m) b f t))
  gq : h.get q = some (.row false 1 (manyR m L))
  rep : SRep n m L b f t
  n1 : 1 ≤ n
  m1 : 1 ≤ m
  nz : n ≤ 65536
  mz : m ≤ 4096
variable {h : IHeap} {s k q n m : Nat} {L : Nat → List Nat} {b f : Nat → Nat} {t : Nat → Int}
theorem SIs.sk (x : SIs h s k q n m L b f t) : s ≠ k := fun e => by
  have := x.gs
  rw [e, x.gk] at this
  cases this
theorem SIs.sq (x : SIs h s k q n m L b f t) : s ≠ q := fun e => by
  have := x.gs
  rw [e, x.gq] at this
  cases this
theorem SIs.kq (x : SIs h s k q n m L b f t) : k ≠ q := fun e => by
  have := x.gk
  rw [e, x.gq] at this
  cases this
theorem cells_c (x : SIs h s k q n m L b f t) : ICall Try.prog 24 #[.pointer (some ⟨s, 0, none⟩)] h (.int .i64 n) h := by
  refine ICall.of_FN ?_
  refine FN.enter mixed (fn := Try.f24) (by kernel_rfl) rfl (by kernel_rfl) fun e hn hg hd => ?_
  simp [Try.f24] at hn
  have a0 : e.get 0 = .pointer (some ⟨s, 0, none⟩) := hg 0 (by omega)
  clear hg
  have gs := x.gs
  have nz := x.nz
  have mz := x.mz
  simp (maxSteps := 1000000) (disch := first | (simp; done) | (simp only [IHeap.size_push', IHeap.size_set']; omega) | omega) [a0, hn, hd, gs, wrap64]
  exact niC_of (by kernel_rfl)
theorem isList_c (x : SIs h s k q n m L b f t) (l : Int) : ICall Try.prog 25 #[.pointer (some ⟨s, 0, none⟩), .int .i64 l] h (.bool (decide (0 ≤ l ∧ l < m))) h := by
  refine ICall.of_FN ?_
  refine FN.enter mixed (fn := Try.f25) (by kernel_rfl) rfl (by kernel_rfl) fun e hn hg hd => ?_
  simp [Try.f25] at hn
  have a0 : e.get 0 = .pointer (some ⟨s, 0, none⟩) := hg 0 (by omega)
  have a1 : e.get 1 = .int .i64 l := hg 1 (by omega)
  clear hg
  have gs := x.gs
  by_cases c : 0 ≤ l
  · simp (maxSteps := 1000000) (disch := first | (simp; done) | (simp only [IHeap.size_push', IHeap.size_set']; omega) | omega) [a0, a1, hn, hd, gs, c, undef]
  · simp (maxSteps := 1000000) (disch := first | (simp; done) | (simp only [IHeap.size_push', IHeap.size_set']; omega) | omega) [a0, a1, hn, hd, gs, c, undef]
theorem isCell_c (x : SIs h s k q n m L b f t) (c : Int) : ICall Try.prog 26 #[.pointer (some ⟨s, 0, none⟩), .int .i64 c] h (.bool (decide (0 ≤ c ∧ c < n))) h := by
  refine ICall.of_FN ?_
  refine FN.enter mixed (fn := Try.f26) (by kernel_rfl) rfl (by kernel_rfl) fun e hn hg hd => ?_
  simp [Try.f26] at hn
  have a0 : e.get 0 = .pointer (some ⟨s, 0, none⟩) := hg 0 (by omega)
  have a1 : e.get 1 = .int .i64 c := hg 1 (by omega)
  clear hg
  by_cases d : 0 ≤ c
  · simp (maxSteps := 1000000) (disch := first | (simp; done) | (simp only [IHeap.size_push', IHeap.size_set']; omega) | omega) [a0, a1, hn, hd, d, undef]
    refine FN.of (cells_c x) ?_
    simp (maxSteps := 1000000) (disch := first | (simp; done) | (simp only [IHeap.size_push', IHeap.size_set']; omega) | omega) [a0, a1, hn, hd, d, undef]
  · simp (maxSteps := 1000000) (disch := first | (simp; done) | (simp only [IHeap.size_push', IHeap.size_set']; omega) | omega) [a0, a1, hn, hd, d, undef]
theorem len_c (x : SIs h s k q n m L b f t) (l : Nat) (hl : l < m) : ICall Try.prog 12 #[.pointer (some ⟨s, 0, none⟩), .int .i64 l] h (.int .i64 (L l).length) h := by
  refine ICall.of_FN ?_
  refine FN.enter mixed (fn := Try.f12) (by kernel_rfl) rfl (by kernel_rfl) fun e hn hg hd => ?_
  simp [Try.f12] at hn
  have a0 : e.get 0 = .pointer (some ⟨s, 0, none⟩) := hg 0 (by omega)
  have a1 : e.get 1 = .int .i64 l := hg 1 (by omega)
  clear hg
  have gs := x.gs
  have gq := x.gq
  have gm := manyR_get (L := L) hl
  have hl2 : (l : Int) < m := by omega
  simp (maxSteps := 1000000) (disch := first | (simp; done) | (simp only [IHeap.size_push', IHeap.size_set']; omega) | omega) [a0, a1, hn, hd]
  refine FN.of (isList_c x l) ?_
  simp (maxSteps := 1000000) (disch := first | (simp; done) | (simp only [IHeap.size_push', IHeap.size_set']; omega) | omega) [a0, a1, hn, hd, gs, gq, gm, hl2, hl]
theorem len_bad (x : SIs h s k q n m L b f t) (l : Int) (hl : ¬ (0 ≤ l ∧ l < m)) : ICall Try.prog 12 #[.pointer (some ⟨s, 0, none⟩), .int .i64 l] h (.int .i64 0) h := by
  refine ICall.of_FN ?_
  refine FN.enter mixed (fn := Try.f12) (by kernel_rfl) rfl (by kernel_rfl) fun e hn hg hd => ?_
  simp [Try.f12] at hn
  have a0 : e.get 0 = .pointer (some ⟨s, 0, none⟩) := hg 0 (by omega)
  have a1 : e.get 1 = .int .i64 l := hg 1 (by omega)
  clear hg
  simp (maxSteps := 1000000) (disch := first | (simp; done) | (simp only [IHeap.size_push', IHeap.size_set']; omega) | omega) [a0, a1, hn, hd]
  refine FN.of (isList_c x l) ?_
  simp (maxSteps := 1000000) (disch := first | (simp; done) | (simp only [IHeap.size_push', IHeap.size_set']; omega) | omega) [a0, a1, hn, hd, hl]
end Go.Proofs.Ytepajeemcalheaa.Ideal
