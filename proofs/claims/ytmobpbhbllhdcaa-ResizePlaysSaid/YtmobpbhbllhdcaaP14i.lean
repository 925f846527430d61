import Derived.Test.YtmobpbhbllhdcaaP14h
import Derived.Test.YtmobpbhbllhdcaaI40
noncomputable section
open Go.Proofs
namespace Go.Proofs.Ytmobpbhbllhdcaa.Ideal
open Go.RowKit
set_option linter.unusedSimpArgs false
set_option linter.unusedVariables false
set_option linter.unusedSectionVars false
set_option maxRecDepth 100000
set_option maxHeartbeats 4000000
attribute [-simp] IHeap.size_set IHeap.size_push
attribute [local simp ↓] Hid.ap_mk
attribute [local simp] scopeQ_normal scopeQ_ret scopeQ_exit WP_skip WP_label WP_exit WP_goto WP_ret WP_region WP_seq WP_cond WP_block WP_scope WP_loop WP_range thenQ_normal thenQ_ret thenQ_exit thenQ_goto loopQ_normal loopQ_ret loopQ_exit invQ_normal invQ_ret invQ_exit outOf_normal outOf_ret outOf_goto outOf_exit ev_tmp ev_const ev_func
  wops_nil wops_cons wantedE_none wantedE_some jgd_some wnx_eq niC_false wdo_move wdo_assign wdo_pick wdo_load wdo_store wdo_alloc wdo_box wdo_fieldAddr wdo_indexAddr wdo_field wdo_extract wdo_build wdo_buildSlice wdo_makeSlice wdo_binOp wdo_unOp wdo_makeFunc wdo_nilCheck wdo_callV wdo_len wdo_append wdo_copy wdo_delete wdo_max wdo_min wdo_convert jcvt_int
  xput_get put_n put_none put_dfr ibin finQ_n finQ_r finD_nil splice_one ires_nil ires_one ires_two ires_three ires1_tmp ires1_cell jcell_ptr rowLoad_row wrap64 wrapU64 wrapU8 wrapU16 wrapU32 callV_fn buildOf Instr.fill Value.cells Value.oneCell' kindOf slots_all splice_all IHeap.size_set' IHeap.size_push' IHeap.get_set_same IHeap.get_set_ne IHeap.get_pushed IHeap.get_push_ne IHeap.set_set IHeap.set_push IHeap.set_pushed IHeap.set_set3 getU_nil getU_same getU_ne jif_true jif_false pushH_eq setH_eq forceL_eq forceV_eq ibuildSlice
attribute [local simp] wdo_index jopt_some
attribute [-simp] Value.oneCell'
theorem one_int' (k : IntKind) (n : Int) : (Value.int k n).oneCell' = true := rfl
theorem one_ptr' (a : Option Addr) : (Value.pointer a).oneCell' = true := rfl
attribute [local simp] one_int' one_ptr'
/-- A growing table. -/
structure GT where
  now : TB
  nx : Option TB
  most : Nat
  cur : Nat
def GT.nxA (g : GT) (p' : Nat) : Option Addr := match g.nx with | none => none | some _ => some ⟨p', 0, none⟩
def GT.nxT (g : GT) : TB := g.nx.getD ⟨[], 0, 0⟩
structure GAt (g : GT) (h : IHeap) (G p q p' q' : Nat) : Prop where
  gG : h.get G = some (.row false 0 [.pointer (some ⟨p, 0, none⟩), .pointer (g.nxA p'), .int .i64 (g.most : Nat), .int .i64 (g.cur : Nat)])
  now : g.now.at h p q
  nx : TIs h (g.nxA p') g.nxT q'
  ap : g.nx ≠ none → p ≠ p' ∧ p ≠ q' ∧ q ≠ p' ∧ q ≠ q'
theorem GAt.inv {g : GT} {h h' : IHeap} {G p q p' q' : Nat} (x : GAt g h G p q p' q') (k : ∀ i, i < h.size → h'.get i = h.get i) : GAt g h' G p q p' q' :=
  ⟨(k _ (IHeap.get_lt x.gG)).trans x.gG, tat_inv x.now k, x.nx.inv k, x.ap⟩
theorem gnone_c {g : GT} {h : IHeap} {G p q p' q' : Nat} (x : GAt g h G p q p' q') : ICall Try.prog 27 #[.pointer (some ⟨G, 0, none⟩)] h (.bool false) h := by
  refine ICall.of_FN ?_
  have gG := x.gG
  refine FN.enter mixed (fn := Try.f27) (by kernel_rfl) rfl (by kernel_rfl) fun e hn hg hd => ?_
  simp [Try.f27] at hn
  have a0 : e.get 0 = .pointer (some ⟨G, 0, none⟩) := hg 0 (by omega)
  clear hg
  simp (maxSteps := 1000000) (disch := first | (simp; done) | (simp only [IHeap.size_push', IHeap.size_set']; omega) | omega) [a0, hn, hd, gG, undef]
def GT.left (g : GT) : Int := match g.nx with | none => 0 | some _ => (g.now.ps.length : Int) - g.cur
theorem gleft_c {g : GT} {h : IHeap} {G p q p' q' : Nat} (x : GAt g h G p q p' q') (hl : g.now.ps.length ≤ 1000) (hc : g.cur ≤ 1000) : ICall Try.prog 22 #[.pointer (some ⟨G, 0, none⟩)] h (.int .i64 g.left) h := by
  refine ICall.of_FN ?_
  have gG := x.gG
  have nc := gnone_c x
  have pc := places_c (h := h) (A := some ⟨p, 0, none⟩) (.inr ⟨p, rfl, x.now⟩)
  refine FN.enter mixed (fn := Try.f22) (by kernel_rfl) rfl (by kernel_rfl) fun e hn hg hd => ?_
  simp [Try.f22] at hn
  have a0 : e.get 0 = .pointer (some ⟨G, 0, none⟩) := hg 0 (by omega)
  clear hg
  cases hx : g.nx with
  | none =>
    have nA : g.nxA p' = none := by unfold GT.nxA; rw [hx]
    have lf : g.left = 0 := by unfold GT.left; rw [hx]
    rw [nA] at gG
    simp (maxSteps := 1000000) (disch := first | (simp; done) | (simp only [IHeap.size_push', IHeap.size_set']; omega) | omega) [a0, hn, hd]
    refine FN.of nc ?_
    simp (maxSteps := 1000000) (disch := first | (simp; done) | (simp only [IHeap.size_push', IHeap.size_set']; omega) | omega) [a0, hn, hd, gG, undef, lf]
  | some t =>
    have nA : g.nxA p' = some ⟨p', 0, none⟩ := by unfold GT.nxA; rw [hx]
    have lf : g.left = (g.now.ps.length : Int) - g.cur := by unfold GT.left; rw [hx]
    rw [nA] at gG
    simp (maxSteps := 1000000) (disch := first | (simp; done) | (simp only [IHeap.size_push', IHeap.size_set']; omega) | omega) [a0, hn, hd]
    refine FN.of nc ?_
    simp (maxSteps := 1000000) (disch := first | (simp; done) | (simp only [IHeap.size_push', IHeap.size_set']; omega) | omega) [a0, hn, hd, gG, undef]
    refine FN.of pc ?_
    simp (maxSteps := 1000000) (disch := first | (simp; done) | (simp only [IHeap.size_push', IHeap.size_set']; omega) | omega) [a0, hn, hd, gG, undef, lf, wrap64]
    exact niC_pend [(4, 8)] (by kernel_rfl) ⟨rfl, trivial⟩
theorem gplaces_c {g : GT} {h : IHeap} {G p q p' q' : Nat} (x : GAt g h G p q p' q') : ICall Try.prog 10 #[.pointer (some ⟨G, 0, none⟩)] h (.tuple #[.int .i64 g.now.ps.length, .int .i64 g.nxT.ps.length]) h := by
  refine ICall.of_FN ?_
  have gG := x.gG
  refine FN.enter mixed (fn := Try.f10) (by kernel_rfl) rfl (by kernel_rfl) fun e hn hg hd => ?_
  simp [Try.f10] at hn
  have a0 : e.get 0 = .pointer (some ⟨G, 0, none⟩) := hg 0 (by omega)
  clear hg
  simp (maxSteps := 1000000) (disch := first | (simp; done) | (simp only [IHeap.size_push', IHeap.size_set']; omega) | omega) [a0, hn, hd]
  refine FN.of (gnone_c x) ?_
  simp (maxSteps := 1000000) (disch := first | (simp; done) | (simp only [IHeap.size_push', IHeap.size_set']; omega) | omega) [a0, hn, hd, gG, undef]
  refine FN.of (places_c (h := h) (A := some ⟨p, 0, none⟩) (.inr ⟨p, rfl, x.now⟩)) ?_
  simp (maxSteps := 1000000) (disch := first | (simp; done) | (simp only [IHeap.size_push', IHeap.size_set']; omega) | omega) [a0, hn, hd, gG, undef]
  refine FN.of (places_c x.nx) ?_
  simp (maxSteps := 1000000) (disch := first | (simp; done) | (simp only [IHeap.size_push', IHeap.size_set']; omega) | omega) [a0, hn, hd, gG, undef]
  exact niC_pend [(4, 8)] (by kernel_rfl) ⟨rfl, trivial⟩
theorem gentries_c {g : GT} {h : IHeap} {G p q p' q' : Nat} (x : GAt g h G p q p' q') (e1 : 0 ≤ g.now.en ∧ g.now.en ≤ 1000) (e2 : 0 ≤ g.nxT.en ∧ g.nxT.en ≤ 1000) : ICall Try.prog 13 #[.pointer (some ⟨G, 0, none⟩)] h (.int .i64 (g.now.en + g.nxT.en)) h := by
  refine ICall.of_FN ?_
  have gG := x.gG
  refine FN.enter mixed (fn := Try.f13) (by kernel_rfl) rfl (by kernel_rfl) fun e hn hg hd => ?_
  simp [Try.f13] at hn
  have a0 : e.get 0 = .pointer (some ⟨G, 0, none⟩) := hg 0 (by omega)
  clear hg
  simp (maxSteps := 1000000) (disch := first | (simp; done) | (simp only [IHeap.size_push', IHeap.size_set']; omega) | omega) [a0, hn, hd]
  refine FN.of (gnone_c x) ?_
  simp (maxSteps := 1000000) (disch := first | (simp; done) | (simp only [IHeap.size_push', IHeap.size_set']; omega) | omega) [a0, hn, hd, gG, undef]
  refine FN.of (entries_c (h := h) (A := some ⟨p, 0, none⟩) (.inr ⟨p, rfl, x.now⟩)) ?_
  simp (maxSteps := 1000000) (disch := first | (simp; done) | (simp only [IHeap.size_push', IHeap.size_set']; omega) | omega) [a0, hn, hd, gG, undef]
  refine FN.of (entries_c x.nx) ?_
  simp (maxSteps := 1000000) (disch := first | (simp; done) | (simp only [IHeap.size_push', IHeap.size_set']; omega) | omega) [a0, hn, hd, gG, undef, wrap64]
  exact niC_pend [(4, 8)] (by kernel_rfl) ⟨rfl, trivial⟩
theorem gmarks_c {g : GT} {h : IHeap} {G p q p' q' : Nat} (x : GAt g h G p q p' q') (e1 : 0 ≤ g.now.ma ∧ g.now.ma ≤ 1000) (e2 : 0 ≤ g.nxT.ma ∧ g.nxT.ma ≤ 1000) : ICall Try.prog 23 #[.pointer (some ⟨G, 0, none⟩)] h (.int .i64 (g.now.ma + g.nxT.ma)) h := by
  refine ICall.of_FN ?_
  have gG := x.gG
  refine FN.enter mixed (fn := Try.f23) (by kernel_rfl) rfl (by kernel_rfl) fun e hn hg hd => ?_
  simp [Try.f23] at hn
  have a0 : e.get 0 = .pointer (some ⟨G, 0, none⟩) := hg 0 (by omega)
  clear hg
  simp (maxSteps := 1000000) (disch := first | (simp; done) | (simp only [IHeap.size_push', IHeap.size_set']; omega) | omega) [a0, hn, hd]
  refine FN.of (gnone_c x) ?_
  simp (maxSteps := 1000000) (disch := first | (simp; done) | (simp only [IHeap.size_push', IHeap.size_set']; omega) | omega) [a0, hn, hd, gG, undef]
  refine FN.of (marks_c (h := h) (A := some ⟨p, 0, none⟩) (.inr ⟨p, rfl, x.now⟩)) ?_
  simp (maxSteps := 1000000) (disch := first | (simp; done) | (simp only [IHeap.size_push', IHeap.size_set']; omega) | omega) [a0, hn, hd, gG, undef]
  refine FN.of (marks_c x.nx) ?_
  simp (maxSteps := 1000000) (disch := first | (simp; done) | (simp only [IHeap.size_push', IHeap.size_set']; omega) | omega) [a0, hn, hd, gG, undef, wrap64]
  exact niC_pend [(4, 8)] (by kernel_rfl) ⟨rfl, trivial⟩
def roomB (t : TB) (more : Int) : Bool := decide (4 * (t.en + t.ma + more + 1) ≤ 3 * (t.ps.length : Int))
theorem room_c {h : IHeap} {A : Option Addr} {q : Nat} {t : TB} {more : Int} (x : TIs h A t q) (e1 : 0 ≤ t.en ∧ t.en ≤ 1000) (e2 : 0 ≤ t.ma ∧ t.ma ≤ 1000) (e3 : 0 ≤ more ∧ more ≤ 1000) (hl : t.ps.length ≤ 1000) : ICall Try.prog 33 #[.pointer A, .int .i64 more] h (.bool (roomB t more)) h := by
  refine ICall.of_FN ?_
  refine FN.enter mixed (fn := Try.f33) (by kernel_rfl) rfl (by kernel_rfl) fun e hn hg hd => ?_
  simp [Try.f33] at hn
  have a0 : e.get 0 = .pointer A := hg 0 (by omega)
  have a1 : e.get 1 = .int .i64 more := hg 1 (by omega)
  clear hg
  simp (maxSteps := 1000000) (disch := first | (simp; done) | (simp only [IHeap.size_push', IHeap.size_set']; omega) | omega) [a0, a1, hn, hd]
  refine FN.of (entries_c x) ?_
  simp (maxSteps := 1000000) (disch := first | (simp; done) | (simp only [IHeap.size_push', IHeap.size_set']; omega) | omega) [a0, a1, hn, hd]
  refine FN.of (marks_c x) ?_
  simp (maxSteps := 1000000) (disch := first | (simp; done) | (simp only [IHeap.size_push', IHeap.size_set']; omega) | omega) [a0, a1, hn, hd, wrap64]
  refine FN.of (places_c x) ?_
  simp (maxSteps := 1000000) (disch := first | (simp; done) | (simp only [IHeap.size_push', IHeap.size_set']; omega) | omega) [a0, a1, hn, hd, wrap64, roomB]
end Go.Proofs.Ytmobpbhbllhdcaa.Ideal
