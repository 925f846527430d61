import Derived.Test.YtnmbpehficchkaaP44r
noncomputable section
open Go.Proofs
namespace Go.Proofs.Ytnmbpehficchkaa.Ideal
open Go.RowKit
set_option linter.unusedSimpArgs false
set_option linter.unusedVariables false
set_option linter.unusedSectionVars false
set_option maxRecDepth 100000
set_option maxHeartbeats 4000000
theorem one_int' (k : IntKind) (n : Int) : (Value.int k n).oneCell' = true := rfl
theorem one_slc' (a : Option Addr) (n c : Nat) : (Value.slice a n c).oneCell' = true := rfl
/-- What lay there stays. -/
structure Keep (h h' : IHeap) : Prop where
  le : h.size ≤ h'.size
  eq : ∀ i, i < h.size → h'.get i = h.get i
theorem Keep.refl (h : IHeap) : Keep h h := ⟨by omega, fun _ _ => rfl⟩
theorem Keep.trans {a b c : IHeap} (x : Keep a b) (y : Keep b c) : Keep a c := ⟨by have := x.le; have := y.le; omega, fun i hi => by have := x.le; rw [y.eq i (by omega), x.eq i hi]⟩
theorem Keep.push (h : IHeap) (o : IObj) : Keep h (h.push o) := ⟨by rw [IHeap.size_push']; omega, fun i hi => IHeap.get_push_ne _ (by omega)⟩
theorem Keep.push' {a h : IHeap} (x : Keep a h) (o : IObj) : Keep a (h.push o) := x.trans (Keep.push h o)
theorem Keep.set {a h : IHeap} (x : Keep a h) {i : Nat} (o : IObj) (hi : a.size ≤ i) : Keep a (h.set i o) := ⟨by rw [IHeap.size_set']; exact x.le, fun j hj => by rw [IHeap.get_set_ne _ (by omega)]; exact x.eq j hj⟩
theorem Keep.get {h h' : IHeap} (x : Keep h h') {i : Nat} {o : IObj} (e : h.get i = some o) : h'.get i = some o := by rw [x.eq i (IHeap.get_lt e)]; exact e
attribute [-simp] IHeap.size_set IHeap.size_push
attribute [local simp ↓] Hid.ap_mk
attribute [local simp] scopeQ_normal scopeQ_ret scopeQ_exit WP_skip WP_label WP_exit WP_goto WP_ret WP_region WP_seq WP_cond WP_block WP_scope WP_loop WP_range thenQ_normal thenQ_ret thenQ_exit thenQ_goto loopQ_normal loopQ_ret loopQ_exit invQ_normal invQ_ret invQ_exit outOf_normal outOf_ret outOf_goto outOf_exit ev_tmp ev_const ev_func
  wops_nil wops_cons wantedE_none wantedE_some jgd_some wnx_eq niC_false wdo_move wdo_assign wdo_pick wdo_load wdo_store wdo_alloc wdo_box wdo_fieldAddr wdo_indexAddr wdo_field wdo_extract wdo_build wdo_buildSlice wdo_makeSlice wdo_binOp wdo_unOp wdo_makeFunc wdo_nilCheck wdo_callV wdo_len wdo_append wdo_copy wdo_delete wdo_max wdo_min wdo_convert jcvt_int
  xput_get put_n put_none put_dfr ibin finQ_n finQ_r finD_nil splice_one ires_nil ires_one ires_two ires_three ires1_tmp ires1_cell jcell_ptr rowLoad_row wrap64 wrapU64 wrapU8 wrapU16 wrapU32 callV_fn buildOf Instr.fill Value.cells Value.oneCell' kindOf slots_all splice_all IHeap.size_set' IHeap.size_push' IHeap.get_set_same IHeap.get_set_ne IHeap.get_pushed IHeap.get_push_ne IHeap.set_set IHeap.set_push IHeap.set_pushed IHeap.set_set3 getU_nil getU_same getU_ne jif_true jif_false pushH_eq setH_eq forceL_eq forceV_eq ibuildSlice
attribute [local simp] wdo_index jopt_some
attribute [-simp] Value.oneCell'
attribute [local simp] one_int' one_slc'
def tkr (k : Nat) (sl : Value) (turns total : Nat) : List Value := [.int .i64 (k : Nat), sl, .int .u64 (turns : Nat), .int .u64 (total : Nat)]
theorem none_c {h : IHeap} {T k turns total : Nat} {sl : Value} (hT : h.get T = some (.row false 0 (tkr k sl turns total))) (hk : 1 ≤ k) : ICall Try.prog 31 #[.pointer (some ⟨T, 0, none⟩)] h (.bool false) h := by
  refine ICall.of_FN ?_
  rw [tkr] at hT
  have k0 : ((k : Int) = 0) = False := eq_false (by omega)
  have k1 : (k = 0) = False := eq_false (by omega)
  refine FN.enter mixed (fn := Try.f31) (by kernel_rfl) rfl (by kernel_rfl) fun e hn hg hd => ?_
  simp [Try.f31] at hn
  have a0 : e.get 0 = .pointer (some ⟨T, 0, none⟩) := hg 0 (by omega)
  clear hg
  simp (maxSteps := 1000000) (disch := first | (simp; done) | (simp only [IHeap.size_push', IHeap.size_set']; omega) | omega) [a0, hn, hd, hT, undef, k0, k1]
theorem total_c {h : IHeap} {T k turns total : Nat} {sl : Value} (hT : h.get T = some (.row false 0 (tkr k sl turns total))) (hk : 1 ≤ k) : ICall Try.prog 16 #[.pointer (some ⟨T, 0, none⟩)] h (.int .u64 total) h := by
  refine ICall.of_FN ?_
  have nc := none_c hT hk
  rw [tkr] at hT
  refine FN.enter mixed (fn := Try.f16) (by kernel_rfl) rfl (by kernel_rfl) fun e hn hg hd => ?_
  simp [Try.f16] at hn
  have a0 : e.get 0 = .pointer (some ⟨T, 0, none⟩) := hg 0 (by omega)
  clear hg
  simp (maxSteps := 1000000) (disch := first | (simp; done) | (simp only [IHeap.size_push', IHeap.size_set']; omega) | omega) [a0, hn, hd]
  refine FN.of nc ?_
  simp (maxSteps := 1000000) (disch := first | (simp; done) | (simp only [IHeap.size_push', IHeap.size_set']; omega) | omega) [a0, hn, hd, hT]
theorem new_c {h : IHeap} {k : Nat} (h1 : 1 ≤ k) (h2 : k ≤ 64) : ICall Try.prog 12 #[.int .i64 k] h (.tuple #[.pointer (some ⟨h.size, 0, none⟩), .int .i64 0]) (h.push (.row false 0 (tkr k (.slice none 0 0) 0 0))) := by
  refine ICall.of_FN ?_
  have k1 : ¬ ((k : Int) < 1) := by omega
  have k2 : ¬ (64 : Int) < k := by omega
  refine FN.enter mixed (fn := Try.f12) (by kernel_rfl) rfl (by kernel_rfl) fun e hn hg hd => ?_
  simp [Try.f12] at hn
  have a0 : e.get 0 = .int .i64 k := hg 0 (by omega)
  clear hg
  simp (maxSteps := 1000000) (disch := first | (simp; done) | (simp only [IHeap.size_push', IHeap.size_set']; omega) | omega) [a0, hn, hd, undef, k1, k2, tkr]
theorem new_n {h : IHeap} {k : Int} (hk : k < 1 ∨ 64 < k) : ICall Try.prog 12 #[.int .i64 k] h (.tuple #[.pointer none, .int .i64 2]) h := by
  refine ICall.of_FN ?_
  refine FN.enter mixed (fn := Try.f12) (by kernel_rfl) rfl (by kernel_rfl) fun e hn hg hd => ?_
  simp [Try.f12] at hn
  have a0 : e.get 0 = .int .i64 k := hg 0 (by omega)
  clear hg
  by_cases k1 : k < 1
  · simp (maxSteps := 1000000) (disch := first | (simp; done) | (simp only [IHeap.size_push', IHeap.size_set']; omega) | omega) [a0, hn, hd, undef, k1]
  · have k2 : (64 : Int) < k := by omega
    simp (maxSteps := 1000000) (disch := first | (simp; done) | (simp only [IHeap.size_push', IHeap.size_set']; omega) | omega) [a0, hn, hd, undef, k1, k2]
theorem sum_c {h : IHeap} {a b : Nat} (hab : a + b ≤ 1000000) : ICall Try.prog 32 #[.int .u64 a, .int .u64 b] h (.int .u64 (a + b : Nat)) h := by
  refine ICall.of_FN ?_
  refine FN.enter mixed (fn := Try.f32) (by kernel_rfl) rfl (by kernel_rfl) fun e hn hg hd => ?_
  simp [Try.f32] at hn
  have a0 : e.get 0 = .int .u64 a := hg 0 (by omega)
  have a1 : e.get 1 = .int .u64 b := hg 1 (by omega)
  clear hg
  have c1 : ¬ ((18446744073709551615 : Int) - a < b) := by omega
  simp (maxSteps := 1000000) (disch := first | (simp; done) | (simp only [IHeap.size_push', IHeap.size_set']; omega) | omega) [a0, a1, hn, hd, c1]
def cmpI (a b : Nat) : Int := if a < b then -1 else if b < a then 1 else 0
theorem nan64_c {h : IHeap} {a : Nat} : ICall Try.prog 49 #[.int .u64 a] h (.bool false) h := by
  refine ICall.of_FN ?_
  refine FN.enter mixed (fn := Try.f49) (by kernel_rfl) rfl (by kernel_rfl) fun e hn hg hd => ?_
  simp [Try.f49] at hn
  have a0 : e.get 0 = .int .u64 a := hg 0 (by omega)
  clear hg
  simp (maxSteps := 1000000) (disch := first | (simp; done) | (simp only [IHeap.size_push', IHeap.size_set']; omega) | omega) [a0, hn, hd]
theorem cmp64_c {h : IHeap} {a b : Nat} : ICall Try.prog 35 #[.int .u64 a, .int .u64 b] h (.int .i64 (cmpI a b)) h := by
  refine ICall.of_FN ?_
  refine FN.enter mixed (fn := Try.f35) (by kernel_rfl) rfl (by kernel_rfl) fun e hn hg hd => ?_
  simp [Try.f35] at hn
  have a0 : e.get 0 = .int .u64 a := hg 0 (by omega)
  have a1 : e.get 1 = .int .u64 b := hg 1 (by omega)
  clear hg
  simp (maxSteps := 1000000) (disch := first | (simp; done) | (simp only [IHeap.size_push', IHeap.size_set']; omega) | omega) [a0, a1, hn, hd]
  refine FN.of nan64_c ?_
  simp (maxSteps := 1000000) (disch := first | (simp; done) | (simp only [IHeap.size_push', IHeap.size_set']; omega) | omega) [a0, a1, hn, hd]
  refine FN.of nan64_c ?_
  by_cases c1 : a < b
  · have e : cmpI a b = -1 := by unfold cmpI; rw [if_pos c1]
    have c1' : (a : Int) < b := by omega
    simp (maxSteps := 1000000) (disch := first | (simp; done) | (simp only [IHeap.size_push', IHeap.size_set']; omega) | omega) [a0, a1, hn, hd, c1, c1', e]
  · have c1' : ¬ (a : Int) < b := by omega
    by_cases c2 : b < a
    · have e : cmpI a b = 1 := by unfold cmpI; rw [if_neg c1, if_pos c2]
      have c2' : (b : Int) < a := by omega
      simp (maxSteps := 1000000) (disch := first | (simp; done) | (simp only [IHeap.size_push', IHeap.size_set']; omega) | omega) [a0, a1, hn, hd, c1, c1', c2, c2', e]
    · have e : cmpI a b = 0 := by unfold cmpI; rw [if_neg c1, if_neg c2]
      have c2' : ¬ (b : Int) < a := by omega
      simp (maxSteps := 1000000) (disch := first | (simp; done) | (simp only [IHeap.size_push', IHeap.size_set']; omega) | omega) [a0, a1, hn, hd, c1, c1', c2, c2', e]
/-- The first that is not 0. -/
def orI : List Int → Int
  | [] => 0
  | x :: l => if x = 0 then orI l else x
theorem orI_drop {l : List Int} {j : Nat} (hj : j < l.length) : orI (l.drop j) = if l[j] = 0 then orI (l.drop (j + 1)) else l[j] := by
  rw [List.drop_eq_getElem_cons hj, orI]
def i64s (l : List Int) : List Value := l.map (.int .i64)
theorem i64s_len (l : List Int) : (i64s l).length = l.length := by simp [i64s]
theorem or_c {h : IHeap} {p c : Nat} {l : List Int} (hp : h.get p = some (.row false 1 (i64s l))) (hl : l.length ≤ 100) : ICall Try.prog 34 #[.slice (some ⟨p, 0, none⟩) l.length c] h (.int .i64 (orI l)) h := by
  refine ICall.of_FN ?_
  refine FN.enter mixed (fn := Try.f34) (by kernel_rfl) rfl (by kernel_rfl) fun e hn hg hd => ?_
  simp [Try.f34] at hn
  have a0 : e.get 0 = .slice (some ⟨p, 0, none⟩) l.length c := hg 0 (by omega)
  clear hg
  simp (maxSteps := 1000000) (disch := first | (simp; done) | (simp only [IHeap.size_push', IHeap.size_set']; omega) | omega) [a0, hn, hd]
  refine WPL.by_inv mixed (by kernel_rfl) (fun k e h' => ∃ (j : Nat), j + k = l.length ∧ e.n = 18 ∧ e.dfr = [] ∧ e.get 3 = .int .i64 0 ∧ e.get 6 = .slice (some ⟨p, 0, none⟩) l.length c ∧ e.get 7 = .int .i64 l.length ∧ e.get 8 = .int .i64 j ∧ h' = h ∧ orI l = orI (l.drop j)) l.length ?_ ?_
  · refine ⟨0, ?_⟩
    simp (maxSteps := 1000000) (disch := first | (simp; done) | (simp only [IHeap.size_push', IHeap.size_set']; omega) | omega) [a0, hn, hd]
  clear hn hd a0 e
  rintro k e h1 ⟨j, hj, hn, hd, a3, a6, a7, a8, rfl, ho⟩
  cases k with
  | zero =>
    obtain rfl : j = l.length := by omega
    rw [List.drop_length, orI] at ho
    simp (maxSteps := 1000000) (disch := first | (simp; done) | (simp only [IHeap.size_push', IHeap.size_set']; omega) | omega) [a3, a6, a7, a8, hn, hd, ho]
  | succ k =>
    have j2 : j < l.length := by omega
    have j1 : (j : Int) < l.length := by omega
    rw [orI_drop j2] at ho
    obtain ⟨x, hx⟩ : ∃ x, l[j] = x := ⟨_, rfl⟩
    have gx : (i64s l)[j]? = some (.int .i64 x) := by simp [i64s, j2, hx]
    rw [hx] at ho
    by_cases x0 : x = 0
    · rw [if_pos x0] at ho
      subst x0
      simp (maxSteps := 1000000) (disch := first | (simp; done) | (simp only [IHeap.size_push', IHeap.size_set']; omega) | omega) [a3, a6, a7, a8, hn, hd, j1, j2, hp, gx]
      exact ⟨k, by omega, j + 1, by omega, by omega, ho⟩
    · rw [if_neg x0] at ho
      simp (maxSteps := 1000000) (disch := first | (simp; done) | (simp only [IHeap.size_push', IHeap.size_set']; omega) | omega) [a3, a6, a7, a8, hn, hd, j1, j2, hp, gx, x0, ho]
end Go.Proofs.Ytnmbpehficchkaa.Ideal
