import Derived.Test.YtepajeemcalheaaP10b
import Derived.Test.YtepajeemcalheaaI35
noncomputable section
open Go.Proofs
namespace Go.Proofs.Ytepajeemcalheaa.Ideal
open Go.RowKit
set_option linter.unusedSimpArgs false
set_option linter.unusedVariables false
set_option linter.unusedSectionVars false
set_option maxRecDepth 100000
set_option maxHeartbeats 4000000
attribute [-simp] IHeap.size_set IHeap.size_push
attribute [local simp ↓] Hid.ap_mk
attribute [local simp] scopeQ_normal scopeQ_ret scopeQ_exit WP_skip WP_label WP_exit WP_goto WP_ret WP_region WP_seq WP_cond WP_block WP_scope WP_loop WP_range thenQ_normal thenQ_ret thenQ_exit thenQ_goto loopQ_normal loopQ_ret loopQ_exit invQ_normal invQ_ret invQ_exit outOf_normal outOf_ret outOf_goto outOf_exit ev_tmp ev_const ev_func
  wops_nil wops_cons wantedE_none wantedE_some jgd_some wnx_eq niC_false wdo_move wdo_assign wdo_pick wdo_load wdo_store wdo_alloc wdo_box wdo_fieldAddr wdo_indexAddr wdo_field wdo_extract wdo_build wdo_buildSlice wdo_makeSlice wdo_binOp wdo_unOp wdo_makeFunc wdo_nilCheck wdo_callV wdo_len wdo_append wdo_copy wdo_delete wdo_max wdo_min wdo_convert jcvt_int
  xput_get put_n put_none put_dfr ibin finQ_n finQ_r finD_nil splice_one ires_nil ires_one ires_two ires_three ires1_tmp ires1_cell jcell_ptr rowLoad_row wrap64 wrapU64 wrapU8 wrapU16 wrapU32 callV_fn buildOf Instr.fill Value.cells Value.oneCell' kindOf slots_all splice_all IHeap.size_set' IHeap.size_push' IHeap.get_set_same IHeap.get_set_ne IHeap.get_pushed IHeap.get_push_ne IHeap.set_set IHeap.set_push IHeap.set_pushed IHeap.set_set3 getU_nil getU_same getU_ne jif_true jif_false pushH_eq setH_eq forceL_eq forceV_eq ibuildSlice
attribute [local simp] wdo_index jopt_some
variable {h : IHeap} {s k q n m : Nat} {L : Nat → List Nat} {b f : Nat → Nat} {t : Nat → Int}
theorem of_c (s : Nat) (l : Int) : ICall Try.prog 10 #[.pointer (some ⟨s, 0, none⟩), .int .i64 l] h (.func (.func 27) #[] #[.pointer (some ⟨h.size, 0, none⟩), .pointer (some ⟨h.size + 1, 0, none⟩)]) ((h.push (.row false 0 [.pointer (some ⟨s, 0, none⟩)])).push (.row false 0 [.int .i64 l])) := by
  refine ICall.of_FN ?_
  refine FN.enter mixed (fn := Try.f10) (by kernel_rfl) rfl (by kernel_rfl) fun e hn hg hd => ?_
  simp [Try.f10] at hn
  have a0 : e.get 0 = .pointer (some ⟨s, 0, none⟩) := hg 0 (by omega)
  have a1 : e.get 1 = .int .i64 l := hg 1 (by omega)
  clear hg
  simp (maxSteps := 1000000) (disch := first | (simp; done) | (simp only [IHeap.size_push', IHeap.size_set']; omega) | omega) [a0, a1, hn, hd]
def nx (z : List Nat) (o i : Nat) : Nat := (z.drop i ++ [o]).headD 0
theorem nx_at {z : List Nat} {o i : Nat} (h : i < z.length) : nx z o i = z[i] := by
  unfold nx
  rw [List.drop_eq_getElem_cons h]
  rfl
theorem nx_end {z : List Nat} {o i : Nat} (h : z.length ≤ i) : nx z o i = o := by
  unfold nx
  rw [List.drop_eq_nil_of_le h]
  rfl
theorem iter_bad {y p1 p2 : Nat} {l : Int} (x : SIs h s k q n m L b f t) (hl : ¬ (0 ≤ l ∧ l < m)) (g1 : h.get p1 = some (.row false 0 [.pointer (some ⟨s, 0, none⟩)])) (g2 : h.get p2 = some (.row false 0 [.int .i64 l])) :
    ICall Try.prog 27 #[.func (.yield y) #[] #[], .pointer (some ⟨p1, 0, none⟩), .pointer (some ⟨p2, 0, none⟩)] h (.tuple #[]) h := by
  refine ICall.of_FN ?_
  refine FN.enter mixed (fn := Try.f27) (by kernel_rfl) rfl (by kernel_rfl) fun e hn hg hd => ?_
  simp [Try.f27] at hn
  have a0 : e.get 0 = .func (.yield y) #[] #[] := hg 0 (by omega)
  have a1 : e.get 1 = .pointer (some ⟨p1, 0, none⟩) := hg 1 (by omega)
  have a2 : e.get 2 = .pointer (some ⟨p2, 0, none⟩) := hg 2 (by omega)
  clear hg
  simp (maxSteps := 1000000) (disch := first | (simp; done) | (simp only [IHeap.size_push', IHeap.size_set']; omega) | omega) [a0, a1, a2, hn, hd, g1, g2]
  refine FN.of (isList_c x l) ?_
  simp (maxSteps := 1000000) (disch := first | (simp; done) | (simp only [IHeap.size_push', IHeap.size_set']; omega) | omega) [a0, a1, a2, hn, hd, g1, g2, hl]
theorem iter_c {y p1 p2 l : Nat} {z : List Nat} (hl : l < m) (J : Nat → IHeap → Prop) (S : IHeap → Prop)
    (hb : ∀ i h, J i h → h.get p1 = some (.row false 0 [.pointer (some ⟨s, 0, none⟩)]) ∧ h.get p2 = some (.row false 0 [.int .i64 l]) ∧ ∃ L b f t p, SIs h s k q n m L b f t ∧ L l = p ++ z.drop i)
    (hJ : ∀ i h (hi : i < z.length), J i h → RN Try.prog y #[.int .i64 z[i]] h (Q := ⟨fun v h' => (v = .bool true ∧ J (i + 1) h') ∨ (v = .bool false ∧ S h')⟩))
    (h0 : J 0 h) (x : SIs h s k q n m L b f t) (hz : L l = z) :
    FN Try.prog 27 #[.func (.yield y) #[] #[], .pointer (some ⟨p1, 0, none⟩), .pointer (some ⟨p2, 0, none⟩)] h (Q := ⟨fun _ h' => J z.length h' ∨ S h'⟩) := by
  refine FN.enter mixed (fn := Try.f27) (by kernel_rfl) rfl (by kernel_rfl) fun e hn hg hd => ?_
  simp [Try.f27] at hn
  have a0 : e.get 0 = .func (.yield y) #[] #[] := hg 0 (by omega)
  have a1 : e.get 1 = .pointer (some ⟨p1, 0, none⟩) := hg 1 (by omega)
  have a2 : e.get 2 = .pointer (some ⟨p2, 0, none⟩) := hg 2 (by omega)
  clear hg
  obtain ⟨g1, g2, _⟩ := hb 0 h h0
  have n1 := x.n1
  have nz := x.nz
  have mz := x.mz
  have hl2 : (l : Int) < m := by omega
  obtain ⟨o, ho⟩ : ∃ o, n + l = o := ⟨_, rfl⟩
  have oi : (n : Int) + l = (o : Int) := by omega
  have ho4 : o < n + m := by omega
  have ho3 : (o : Int) < n + m := by omega
  have mo : o * 3 = 3 * o := by omega
  have gs := x.gs
  have gk := x.gk
  have gf := rowL_f (b := b) (f := f) (t := t) ho4
  have hf : f o = nx z o 0 := by
    have := path_first (x.rep.ring l hl)
    rw [ho, hz] at this
    simpa [nx] using this
  simp (maxSteps := 1000000) (disch := first | (simp; done) | (simp only [IHeap.size_push', IHeap.size_set']; omega) | omega) [a0, a1, a2, hn, hd, g1, g2]
  refine FN.of (isList_c x l) ?_
  simp (maxSteps := 1000000) (disch := first | (simp; done) | (simp only [IHeap.size_push', IHeap.size_set']; omega) | omega) [a0, a1, a2, hn, hd, g1, g2, hl2]
  refine FN.of (cells_c x) ?_
  simp (maxSteps := 1000000) (disch := first | (simp; done) | (simp only [IHeap.size_push', IHeap.size_set']; omega) | omega) [a0, a1, a2, hn, hd, g1, g2, hl2, oi, wrap64, gs, gk, gf, hf, ho3, ho4, mo]
  have k1 : h.get p2 = h.get p2 := rfl
  refine ⟨niC_pend [(1, 2)] (by kernel_rfl) ⟨k1, trivial⟩, ?_⟩
  refine WPL.by_inv mixed (by kernel_rfl) (fun r e h' => ∃ i : Nat, i + r = z.length ∧ e.n = 54 ∧ e.dfr = [] ∧ e.get 0 = .func (.yield y) #[] #[] ∧ e.get 1 = .pointer (some ⟨p1, 0, none⟩) ∧ e.get 2 = .pointer (some ⟨p2, 0, none⟩) ∧ e.get 4 = .int .i64 o ∧ e.get 5 = .int .i64 (nx z o i) ∧ J i h') z.length ?_ ?_
  · refine ⟨0, ?_⟩
    simp (maxSteps := 1000000) (disch := first | (simp; done) | (simp only [IHeap.size_push', IHeap.size_set']; omega) | omega) [a0, a1, a2, hn, hd]
    exact h0
  clear hn hd a0 a1 a2 e
  clear gs gk gf hf
  rintro r e h1 ⟨i, hi, hn, hd, e0, e1, e2, e4, e5, j⟩
  cases r with
  | zero =>
    obtain rfl : i = z.length := by omega
    have := nx_end (o := o) (Nat.le_refl z.length)
    simp (maxSteps := 1000000) (disch := first | (simp; done) | (simp only [IHeap.size_push', IHeap.size_set']; omega) | omega) [e0, e1, e2, e4, e5, hn, hd, this]
    exact .inl j
  | succ r =>
    have hlt : i < z.length := by omega
    obtain ⟨g1, g2, L1, b1, f1, t1, p, x1, hL⟩ := hb i h1 j
    obtain ⟨c, hc⟩ : ∃ c, z[i] = c := ⟨_, rfl⟩
    have nc := nx_at (o := o) hlt
    rw [hc] at nc
    have hdr : z.drop i = c :: z.drop (i + 1) := by rw [List.drop_eq_getElem_cons hlt, hc]
    have hmem : c ∈ L1 l := by rw [hL, hdr]; simp
    obtain ⟨hcn, hct⟩ := x1.rep.mem l hl c hmem
    have hne : ¬ (c : Int) = o := by omega
    have hne2 : ¬ c = o := by omega
    have hc3 : (c : Int) < n + m := by omega
    have hc4 : c < n + m := by omega
    have mc : c * 3 = 3 * c := by omega
    have gs := x1.gs
    have gk := x1.gk
    have gf := rowL_f (b := b1) (f := f1) (t := t1) hc4
    have hf : f1 c = nx z o (i + 1) := by
      have := x1.rep.ring l hl
      rw [hL, hdr, ho] at this
      exact path_first (path_app.1 this).2
    rw [hf] at gf
    simp (maxSteps := 1000000) (disch := first | (simp; done) | (simp only [IHeap.size_push', IHeap.size_set']; omega) | omega) [e0, e1, e2, e4, e5, hn, hd, nc, hne, hne2, g1, g2, gs, gk, gf, hc3, hc4, mc]
    rw [← hc]
    refine RN.mono (hJ i h1 hlt j) ?_
    rintro v h2 (⟨rfl, j2⟩ | ⟨rfl, s2⟩)
    · obtain ⟨g1, g2, L2, b2, f2, t2, p2', x2, hL2⟩ := hb (i + 1) h2 j2
      by_cases hend : i + 1 < z.length
      · obtain ⟨d, hdz⟩ : ∃ d, z[i + 1] = d := ⟨_, rfl⟩
        have nd := nx_at (o := o) hend
        rw [hdz] at nd
        have hmem2 : d ∈ L2 l := by rw [hL2, List.drop_eq_getElem_cons hend, hdz]; simp
        obtain ⟨hdn, hdt⟩ := x2.rep.mem l hl d hmem2
        have hd1 : ¬ (d : Int) = o := by omega
        have hd2 : ¬ d = o := by omega
        have hd3 : (d : Int) < n + m := by omega
        have hd4 : d < n + m := by omega
        have md : d * 3 = 3 * d := by omega
        have gs2 := x2.gs
        have gk2 := x2.gk
        have gt2 := rowL_t (b := b2) (f := f2) (t := t2) hd4
        rw [hdt] at gt2
        simp (maxSteps := 1000000) (disch := first | (simp; done) | (simp only [IHeap.size_push', IHeap.size_set']; omega) | omega) [e0, e1, e2, e4, e5, hn, hd, nc, nd, g1, g2, gs2, gk2, gt2, hd1, hd2, hd3, hd4, md, undef]
        exact ⟨niC_pend [] (by kernel_rfl) trivial, r, by omega, i + 1, by omega, by rw [nd], j2⟩
      · have ne := nx_end (o := o) (i := i + 1) (z := z) (by omega)
        simp (maxSteps := 1000000) (disch := first | (simp; done) | (simp only [IHeap.size_push', IHeap.size_set']; omega) | omega) [e0, e1, e2, e4, e5, hn, hd, nc, ne, g1, g2, undef]
        exact ⟨niC_pend [] (by kernel_rfl) trivial, r, by omega, i + 1, by omega, by rw [ne], j2⟩
    · simp (maxSteps := 1000000) (disch := first | (simp; done) | (simp only [IHeap.size_push', IHeap.size_set']; omega) | omega) [e0, e1, e2, e4, e5, hn, hd]
      exact .inr s2
end Go.Proofs.Ytepajeemcalheaa.Ideal
