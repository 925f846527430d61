import Derived.Test.YthaegngkkannjaaI29
import Derived.Test.YthaegngkkannjaaF48
noncomputable section
open Go.Proofs
namespace Go.Proofs.Ythaegngkkannjaa.Ideal
set_option linter.unusedSimpArgs false
set_option linter.unusedVariables false
set_option maxRecDepth 100000
set_option maxHeartbeats 1000000
attribute [-simp] IHeap.size_set IHeap.size_push
attribute [local simp ↓] Hid.ap_mk
attribute [local simp] scopeQ_normal scopeQ_ret scopeQ_exit WP_skip WP_label WP_exit WP_goto WP_ret WP_region WP_seq WP_cond WP_block WP_scope WP_loop WP_range thenQ_normal thenQ_ret thenQ_exit thenQ_goto loopQ_normal loopQ_ret loopQ_exit invQ_normal invQ_ret invQ_exit outOf_normal outOf_ret outOf_goto outOf_exit ev_tmp ev_const ev_func
  wops_nil wops_cons wantedE_none wantedE_some jgd_some wnx_eq niC_false wdo_move wdo_assign wdo_pick wdo_load wdo_store wdo_alloc wdo_box wdo_fieldAddr wdo_indexAddr wdo_field wdo_extract wdo_build wdo_buildSlice wdo_makeSlice wdo_binOp wdo_unOp wdo_makeFunc wdo_nilCheck wdo_callV wdo_len wdo_append wdo_copy wdo_delete wdo_max wdo_min wdo_convert jcvt_int
  xput_get put_n put_none put_dfr ibin finQ_n finQ_r finD_nil splice_one ires_nil ires_one ires_two ires_three ires1_tmp ires1_cell jcell_ptr rowLoad_row wrap64 wrapU64 wrapU8 wrapU16 wrapU32 callV_fn buildOf Instr.fill Value.cells Value.oneCell' kindOf slots_all splice_all IHeap.size_set' IHeap.size_push' IHeap.get_set_same IHeap.get_set_ne IHeap.get_pushed IHeap.get_push_ne IHeap.set_set IHeap.set_push IHeap.set_pushed IHeap.set_set3 getU_nil getU_same getU_ne jif_true jif_false pushH_eq setH_eq forceL_eq forceV_eq ibuildSlice
theorem mixed : Try.prog.follows .mixedOrders = true := by kernel_rfl
structure PN where
  num : Int
  pri : Int
  itv : Int
  pre : Bool
  act : Bool
  left : Int
  term : Int
  known : Int
def PN.row (n : PN) : List Value := [.int .i64 n.num, .int .i64 n.pri, .int .i64 n.itv, .bool n.pre, .bool n.act, .int .i64 n.left, .int .u64 n.term, .int .u64 n.known]
def PN.obj (n : PN) : IObj := .row false 0 n.row
structure PN.st (n : PN) : Prop where
  num : n.num = 0 ∨ n.num = 1
  pri : 1 ≤ n.pri ∧ n.pri ≤ 254
  itv : 1 ≤ n.itv ∧ n.itv ≤ 100
structure PN.ok (K : Int) (n : PN) : Prop extends n.st where
  left : 1 ≤ n.left ∧ n.left ≤ 304
  term : 0 ≤ n.term ∧ n.term ≤ K
  known : 0 ≤ n.known ∧ n.known ≤ K
def PN.share (n : PN) : Int := (255 - n.pri) / 64 + 1
theorem PN.st.share {n : PN} (ok : n.st) : 1 ≤ n.share ∧ n.share ≤ 4 := by
  have := ok.pri
  unfold PN.share; omega
def PN.stand (n : PN) : PN := { n with act := false, left := 3 * n.itv + n.share }
def PN.adv (n : PN) : Value := .agg #[.int .i64 n.num, .int .i64 n.pri, .int .u64 n.term]
def noAdv : Value := .agg #[.int .i64 0, .int .i64 0, .int .u64 0]
/-- Behind a tick. -/
def PN.next (n : PN) : PN := if n.left - 1 > 0 then { n with left := n.left - 1 } else if n.act then { n with left := n.itv } else { n with act := true, known := n.known + 1, term := n.known + 1, left := n.itv }
def PN.says (n : PN) : Bool := decide (¬ n.left - 1 > 0)
theorem share_c {h : IHeap} {p : Nat} {n : PN} (ok : n.st) (hp : h.get p = some n.obj) : ICall Try.prog 26 #[.pointer (some ⟨p, 0, none⟩)] h (.int .i64 n.share) h := by
  refine ICall.of_FN ?_
  refine FN.enter mixed (fn := Try.f26) (by kernel_rfl) rfl (by kernel_rfl) fun e hn hg hd => ?_
  simp [Try.f26] at hn
  have a0 : e.get 0 = .pointer (some ⟨p, 0, none⟩) := hg 0 (by omega)
  clear hg
  have := ok.pri
  have := Int.tdiv_eq_ediv_of_nonneg (a := 255 - n.pri) (b := 64) (by omega)
  simp (maxSteps := 1000000) (disch := first | (simp; done) | (simp only [IHeap.size_push', IHeap.size_set']; omega) | omega) [a0, hn, hp, PN.obj, PN.row, hd, wrap64, PN.share, this]
theorem none_c {h : IHeap} {p : Nat} {n : PN} (ok : n.st) (hp : h.get p = some n.obj) : ICall Try.prog 21 #[.pointer (some ⟨p, 0, none⟩)] h (.bool false) h := by
  refine ICall.of_FN ?_
  refine FN.enter mixed (fn := Try.f21) (by kernel_rfl) rfl (by kernel_rfl) fun e hn hg hd => ?_
  simp [Try.f21] at hn
  have a0 : e.get 0 = .pointer (some ⟨p, 0, none⟩) := hg 0 (by omega)
  clear hg
  have := ok.itv
  have : ¬ n.itv = 0 := by omega
  simp (maxSteps := 1000000) (disch := first | (simp; done) | (simp only [IHeap.size_push', IHeap.size_set']; omega) | omega) [a0, hn, hp, PN.obj, PN.row, hd, this]
theorem stand_c {h : IHeap} {p : Nat} {n : PN} (ok : n.st) (hp : h.get p = some n.obj) : ICall Try.prog 22 #[.pointer (some ⟨p, 0, none⟩)] h (.tuple #[]) (h.set p n.stand.obj) := by
  refine ICall.of_FN ?_
  refine FN.enter mixed (fn := Try.f22) (by kernel_rfl) rfl (by kernel_rfl) fun e hn hg hd => ?_
  simp [Try.f22] at hn
  have a0 : e.get 0 = .pointer (some ⟨p, 0, none⟩) := hg 0 (by omega)
  clear hg
  have := ok.pri
  have := ok.itv
  have := ok.share
  have hpz := IHeap.get_lt hp
  have h1 := hp
  simp only [PN.obj, PN.row] at hp
  simp (maxSteps := 1000000) (disch := first | (simp; done) | (simp only [IHeap.size_push', IHeap.size_set']; omega) | omega) [a0, hn, hp, hd, wrap64]
  refine FN.of (share_c ok h1) ?_
  simp (maxSteps := 1000000) (disch := first | (simp; done) | (simp only [IHeap.size_push', IHeap.size_set']; omega) | omega) [a0, hn, hp, hd, wrap64, PN.obj, PN.row, PN.stand]
  exact niC_pend [(5, 8)] (by kernel_rfl) ⟨rfl, trivial⟩
theorem says_c {h : IHeap} {p : Nat} {n : PN} (hp : h.get p = some n.obj) : ICall Try.prog 25 #[.pointer (some ⟨p, 0, none⟩)] h (.tuple #[n.adv, .bool true]) ((h.set p { n with left := n.itv : PN }.obj).push (.row false 0 [.int .i64 n.num, .int .i64 n.pri, .int .u64 n.term])) := by
  refine ICall.of_FN ?_
  refine FN.enter mixed (fn := Try.f25) (by kernel_rfl) rfl (by kernel_rfl) fun e hn hg hd => ?_
  simp [Try.f25] at hn
  have a0 : e.get 0 = .pointer (some ⟨p, 0, none⟩) := hg 0 (by omega)
  clear hg
  have hpz := IHeap.get_lt hp
  simp only [PN.obj, PN.row] at hp
  simp (maxSteps := 1000000) (disch := first | (simp; done) | (simp only [IHeap.size_push', IHeap.size_set']; omega) | omega) [a0, hn, hp, hd, PN.adv, PN.obj, PN.row]
  exact niC_of (by kernel_rfl)
theorem tick_c {h : IHeap} {p : Nat} {n : PN} {K : Int} (hK : K < 1000000000) (ok : n.ok K) (hp : h.get p = some n.obj) : CT Try.prog 14 #[.pointer (some ⟨p, 0, none⟩)] h (.tuple #[if n.says then n.next.adv else noAdv, .bool n.says]) [(p, n.next.obj)] := by
  refine FN.enter mixed (fn := Try.f14) (by kernel_rfl) rfl (by kernel_rfl) fun e hn hg hd => ?_
  simp [Try.f14] at hn
  have a0 : e.get 0 = .pointer (some ⟨p, 0, none⟩) := hg 0 (by omega)
  clear hg
  have hpz := IHeap.get_lt hp
  have h1 := hp
  have := ok.left
  have := ok.known
  simp only [PN.obj, PN.row] at hp
  simp (maxSteps := 1000000) (disch := first | (simp; done) | (simp only [IHeap.size_push', IHeap.size_set']; omega) | omega) [a0, hn, hp, hd]
  refine FN.of (none_c ok.tost (by first | exact h1 | simp (maxSteps := 1000000) (disch := first | (simp; done) | (simp only [IHeap.size_push', IHeap.size_set']; omega) | omega) [h1])) ?_
  simp (maxSteps := 1000000) (disch := first | (simp; done) | (simp only [IHeap.size_push', IHeap.size_set']; omega) | omega) [a0, hn, hp, hd]
  refine jif_split (fun h2 => ?_) (fun h2 => ?_)
  · simp (maxSteps := 1000000) (disch := first | (simp; done) | (simp only [IHeap.size_push', IHeap.size_set']; omega) | omega) [a0, hn, hp, hd]
    have e1 : n.says = false := by simp [PN.says]; omega
    simp only [e1]
    exact ⟨by simp [noAdv], ⟨by simp <;> omega, fun i hi => by simp only [IHeap.get_set_if, IHeap.get_push, IHeap.size_set', IHeap.size_push', getU, PN.obj, PN.row, PN.next]; grind⟩⟩
  cases h3 : n.act
  · simp (maxSteps := 1000000) (disch := first | (simp; done) | (simp only [IHeap.size_push', IHeap.size_set']; omega) | omega) [a0, hn, hp, hd, h2, h3]
    have e1 : n.says = true := by simp [PN.says]; omega
    have e2 : n.next = { n with act := true, known := n.known + 1, term := n.known + 1, left := n.itv } := by simp [PN.next, h3]; omega
    refine FN.of (says_c (n := { n with act := true, known := n.known + 1, term := n.known + 1, left := n.left - 1 }) (by simp (maxSteps := 1000000) (disch := first | (simp; done) | (simp only [IHeap.size_push', IHeap.size_set']; omega) | omega) [PN.obj, PN.row])) ?_
    simp (maxSteps := 1000000) (disch := first | (simp; done) | (simp only [IHeap.size_push', IHeap.size_set']; omega) | omega) [hn, hd, PN.adv, e1, e2]
    exact ⟨by simp <;> omega, fun i hi => by simp only [IHeap.get_set_if, IHeap.get_push, IHeap.size_set', IHeap.size_push', getU, PN.obj, PN.row]; grind⟩
  · simp (maxSteps := 1000000) (disch := first | (simp; done) | (simp only [IHeap.size_push', IHeap.size_set']; omega) | omega) [a0, hn, hp, hd, h2, h3]
    have e1 : n.says = true := by simp [PN.says]; omega
    have e2 : n.next = { n with left := n.itv } := by simp [PN.next, h3]; omega
    refine FN.of (says_c (n := { n with left := n.left - 1 }) (by simp (maxSteps := 1000000) (disch := first | (simp; done) | (simp only [IHeap.size_push', IHeap.size_set']; omega) | omega) [PN.obj, PN.row, h3])) ?_
    simp (maxSteps := 1000000) (disch := first | (simp; done) | (simp only [IHeap.size_push', IHeap.size_set']; omega) | omega) [hn, hd, PN.adv, e1, e2]
    exact ⟨by simp <;> omega, fun i hi => by simp only [IHeap.get_set_if, IHeap.get_push, IHeap.size_set', IHeap.size_push', getU, PN.obj, PN.row]; grind⟩
theorem nan_c {h : IHeap} (a : Int) : ICall Try.prog 30 #[.int .i64 a] h (.bool false) h := by
  refine ICall.of_FN ?_
  refine FN.enter mixed (fn := Try.f30) (by kernel_rfl) rfl (by kernel_rfl) fun e hn hg hd => ?_
  simp [Try.f30] at hn
  have a0 : e.get 0 = .int .i64 a := hg 0 (by omega)
  clear hg
  simp (maxSteps := 1000000) (disch := first | (simp; done) | (simp only [IHeap.size_push', IHeap.size_set']; omega) | omega) [a0, hn, hd]
theorem cmp_c {h : IHeap} (a b : Int) : ICall Try.prog 29 #[.int .i64 a, .int .i64 b] h (.int .i64 (if a < b then -1 else if b < a then 1 else 0)) h := by
  refine ICall.of_FN ?_
  refine FN.enter mixed (fn := Try.f29) (by kernel_rfl) rfl (by kernel_rfl) fun e hn hg hd => ?_
  simp [Try.f29] at hn
  have a0 : e.get 0 = .int .i64 a := hg 0 (by omega)
  have a1 : e.get 1 = .int .i64 b := hg 1 (by omega)
  clear hg
  simp (maxSteps := 1000000) (disch := first | (simp; done) | (simp only [IHeap.size_push', IHeap.size_set']; omega) | omega) [a0, a1, hn, hd]
  refine FN.of (nan_c a) ?_
  simp (maxSteps := 1000000) (disch := first | (simp; done) | (simp only [IHeap.size_push', IHeap.size_set']; omega) | omega) [a0, a1, hn, hd]
  refine FN.of (nan_c b) ?_
  (simp (maxSteps := 1000000) (disch := first | (simp; done) | (simp only [IHeap.size_push', IHeap.size_set']; omega) | omega) [a0, a1, hn, hd]) <;> repeat' (refine jif_split (fun hc => ?_) (fun hc => ?_) <;> (try simp only [Classical.not_not] at hc) <;> (try simp (maxSteps := 1000000) (disch := first | (simp; done) | (simp only [IHeap.size_push', IHeap.size_set']; omega) | omega) [*, Hid.ap_mk, a0, a1, hn, hd]))
  all_goals ((repeat' split) <;> first | rfl | omega | (simp_all <;> omega))
/-- cmp.Or of two. -/
theorem or_c {h : IHeap} {q : Nat} (a b : Int) (hq : h.get q = some (.row false 1 [.int .i64 a, .int .i64 b])) : ICall Try.prog 28 #[.slice (some ⟨q, 0, none⟩) 2 2] h (.int .i64 (if a = 0 then b else a)) h := by
  refine ICall.of_FN ?_
  refine FN.enter mixed (fn := Try.f28) (by kernel_rfl) rfl (by kernel_rfl) fun e hn hg hd => ?_
  simp [Try.f28] at hn
  have a0 : e.get 0 = .slice (some ⟨q, 0, none⟩) 2 2 := hg 0 (by omega)
  clear hg
  simp (maxSteps := 1000000) (disch := first | (simp; done) | (simp only [IHeap.size_push', IHeap.size_set']; omega) | omega) [a0, hn, hd, hq]
  refine WPL.unroll mixed (by kernel_rfl) ?_
  by_cases h1 : a = 0
  · simp (maxSteps := 1000000) (disch := first | (simp; done) | (simp only [IHeap.size_push', IHeap.size_set']; omega) | omega) [a0, hn, hd, hq, h1]
    refine WPL.unroll mixed (by kernel_rfl) ?_
    by_cases h2 : b = 0
    · simp (maxSteps := 1000000) (disch := first | (simp; done) | (simp only [IHeap.size_push', IHeap.size_set']; omega) | omega) [a0, hn, hd, hq, h2]
      refine WPL.unroll mixed (by kernel_rfl) ?_
      simp (maxSteps := 1000000) (disch := first | (simp; done) | (simp only [IHeap.size_push', IHeap.size_set']; omega) | omega) [a0, hn, hd, hq]
    · simp (maxSteps := 1000000) (disch := first | (simp; done) | (simp only [IHeap.size_push', IHeap.size_set']; omega) | omega) [a0, hn, hd, hq, h2]
  · simp (maxSteps := 1000000) (disch := first | (simp; done) | (simp only [IHeap.size_push', IHeap.size_set']; omega) | omega) [a0, hn, hd, hq, h1]
def AB (p num q other : Int) : Bool := decide (q < p ∨ (p = q ∧ num < other))
theorem above_c {h : IHeap} (p num q other : Int) : CT Try.prog 27 #[.int .i64 p, .int .i64 num, .int .i64 q, .int .i64 other] h (.bool (AB p num q other)) [] := by
  refine FN.enter mixed (fn := Try.f27) (by kernel_rfl) rfl (by kernel_rfl) fun e hn hg hd => ?_
  simp [Try.f27] at hn
  have a0 : e.get 0 = .int .i64 p := hg 0 (by omega)
  have a1 : e.get 1 = .int .i64 num := hg 1 (by omega)
  have a2 : e.get 2 = .int .i64 q := hg 2 (by omega)
  have a3 : e.get 3 = .int .i64 other := hg 3 (by omega)
  clear hg
  simp (maxSteps := 1000000) (disch := first | (simp; done) | (simp only [IHeap.size_push', IHeap.size_set']; omega) | omega) [a0, a1, a2, a3, hn, hd]
  refine FN.of (cmp_c p q) ?_
  simp (maxSteps := 1000000) (disch := first | (simp; done) | (simp only [IHeap.size_push', IHeap.size_set']; omega) | omega) [a0, a1, a2, a3, hn, hd]
  refine FN.of (cmp_c other num) ?_
  simp (maxSteps := 1000000) (disch := first | (simp; done) | (simp only [IHeap.size_push', IHeap.size_set']; omega) | omega) [a0, a1, a2, a3, hn, hd, ibuildSlice, zeros]
  refine FN.of (or_c _ _ (IHeap.get_pushed _ rfl)) ?_
  simp (maxSteps := 1000000) (disch := first | (simp; done) | (simp only [IHeap.size_push', IHeap.size_set']; omega) | omega) [a0, a1, a2, a3, hn, hd]
  refine ⟨?_, ⟨by simp <;> omega, fun i hi => by simp only [IHeap.get_set_if, IHeap.get_push, IHeap.size_set', IHeap.size_push', getU, ]; grind⟩⟩
  unfold AB
  (repeat' split) <;> simp <;> omega
structure Ad where
  frm : Int
  pri : Int
  term : Int
def Ad.val (a : Ad) : Value := .agg #[.int .i64 a.frm, .int .i64 a.pri, .int .u64 a.term]
def PN.waits (n : PN) (a : Ad) : PN := if a.pri = 0 then { n with left := n.share } else if n.pre = false ∨ AB a.pri a.frm n.pri n.num = true then n.stand else n
def PN.holds (n : PN) (a : Ad) : PN := if a.pri > 0 ∧ AB a.pri a.frm n.pri n.num = true then n.stand else { n with left := 1 }
theorem waits_c {h : IHeap} {p : Nat} {n : PN} (a : Ad) (ok : n.st) (hp : h.get p = some n.obj) : CT Try.prog 23 #[.pointer (some ⟨p, 0, none⟩), a.val] h (.tuple #[]) [(p, (n.waits a).obj)] := by
  refine FN.enter mixed (fn := Try.f23) (by kernel_rfl) rfl (by kernel_rfl) fun e hn hg hd => ?_
  simp [Try.f23] at hn
  have a0 : e.get 0 = .pointer (some ⟨p, 0, none⟩) := hg 0 (by omega)
  have a1 : e.get 1 = a.val := hg 1 (by omega)
  clear hg
  have hpz := IHeap.get_lt hp
  have h1 := hp
  simp only [PN.obj, PN.row] at hp
  by_cases h2 : a.pri = 0
  · simp (maxSteps := 1000000) (disch := first | (simp; done) | (simp only [IHeap.size_push', IHeap.size_set']; omega) | omega) [a0, a1, hn, hp, hd, Ad.val, h2]
    refine FN.of (share_c ok (by first | exact h1 | simp (maxSteps := 1000000) (disch := first | (simp; done) | (simp only [IHeap.size_push', IHeap.size_set']; omega) | omega) [h1])) ?_
    simp (maxSteps := 1000000) (disch := first | (simp; done) | (simp only [IHeap.size_push', IHeap.size_set']; omega) | omega) [a0, a1, hn, hp, hd]
    exact ⟨by simp <;> omega, fun i hi => by simp only [IHeap.get_set_if, IHeap.get_push, IHeap.size_set', IHeap.size_push', getU, PN.obj, PN.row, PN.waits, h2]; grind⟩
  · cases h3 : n.pre with
    | false =>
      simp (maxSteps := 1000000) (disch := first | (simp; done) | (simp only [IHeap.size_push', IHeap.size_set']; omega) | omega) [a0, a1, hn, hp, hd, Ad.val, h2, h3]
      refine ⟨niC_of (by kernel_rfl), FN.of (stand_c ok (by simp (maxSteps := 1000000) (disch := first | (simp; done) | (simp only [IHeap.size_push', IHeap.size_set']; omega) | omega) [h1])) ?_⟩
      simp (maxSteps := 1000000) (disch := first | (simp; done) | (simp only [IHeap.size_push', IHeap.size_set']; omega) | omega) [a0, a1, hn, hp, hd]
      exact ⟨by simp <;> omega, fun i hi => by simp only [IHeap.get_set_if, IHeap.get_push, IHeap.size_set', IHeap.size_push', getU, PN.obj, PN.row, PN.waits, h2, h3]; grind⟩
    | true =>
      simp (maxSteps := 1000000) (disch := first | (simp; done) | (simp only [IHeap.size_push', IHeap.size_set']; omega) | omega) [a0, a1, hn, hp, hd, Ad.val, h2, h3]
      refine FN.ct (above_c _ _ _ _) fun h' fr => ?_
      have hz := fr.size
      simp only [IHeap.size_push'] at hz
      cases h4 : AB a.pri a.frm n.pri n.num with
      | false =>
        simp (maxSteps := 1000000) (disch := first | (simp; done) | (simp only [IHeap.size_push', IHeap.size_set']; omega) | omega) [a0, a1, hn, hp, hd, h4]
        refine ⟨niC_of (by kernel_rfl), ?_⟩
        exact ⟨by have := (fr).size; simp at this ⊢ <;> omega, fun i hi => by have hz9 := (fr).size; have hg9 := (fr).get i (by simp <;> omega); simp only [IHeap.get_set_if, IHeap.get_push, IHeap.size_set', IHeap.size_push', getU,  PN.obj, PN.row, PN.waits, h2, h3, h4] at hg9 hz9 ⊢; grind⟩
      | true =>
        simp (maxSteps := 1000000) (disch := first | (simp; done) | (simp only [IHeap.size_push', IHeap.size_set']; omega) | omega) [a0, a1, hn, hp, hd, h4]
        refine ⟨niC_of (by kernel_rfl), FN.of (stand_c ok (by first | exact h1 | simp (maxSteps := 1000000) (disch := first | (simp; done) | (simp only [IHeap.size_push', IHeap.size_set']; omega) | omega) [h1, fr.get])) ?_⟩
        simp (maxSteps := 1000000) (disch := first | (simp; done) | (simp only [IHeap.size_push', IHeap.size_set']; omega) | omega) [a0, a1, hn, hp, hd]
        exact ⟨by have := (fr).size; simp at this ⊢ <;> omega, fun i hi => by have hz9 := (fr).size; have hg9 := (fr).get i (by simp <;> omega); simp only [IHeap.get_set_if, IHeap.get_push, IHeap.size_set', IHeap.size_push', getU,  PN.obj, PN.row, PN.waits, h2, h3, h4] at hg9 hz9 ⊢; grind⟩
theorem holds_c {h : IHeap} {p : Nat} {n : PN} (a : Ad) (ok : n.st) (hp : h.get p = some n.obj) : CT Try.prog 24 #[.pointer (some ⟨p, 0, none⟩), a.val] h (.tuple #[]) [(p, (n.holds a).obj)] := by
  refine FN.enter mixed (fn := Try.f24) (by kernel_rfl) rfl (by kernel_rfl) fun e hn hg hd => ?_
  simp [Try.f24] at hn
  have a0 : e.get 0 = .pointer (some ⟨p, 0, none⟩) := hg 0 (by omega)
  have a1 : e.get 1 = a.val := hg 1 (by omega)
  clear hg
  have hpz := IHeap.get_lt hp
  have h1 := hp
  simp only [PN.obj, PN.row] at hp
  by_cases h2 : 0 < a.pri
  · simp (maxSteps := 1000000) (disch := first | (simp; done) | (simp only [IHeap.size_push', IHeap.size_set']; omega) | omega) [a0, a1, hn, hp, hd, Ad.val, h2]
    refine FN.ct (above_c _ _ _ _) fun h' fr => ?_
    have hz := fr.size
    simp only [IHeap.size_push'] at hz
    cases h4 : AB a.pri a.frm n.pri n.num with
    | false =>
      simp (maxSteps := 1000000) (disch := first | (simp; done) | (simp only [IHeap.size_push', IHeap.size_set']; omega) | omega) [a0, a1, hn, hp, hd, h4, fr.get]
      refine ⟨niC_of (by kernel_rfl), ?_⟩
      exact ⟨by have := (fr).size; simp at this ⊢ <;> omega, fun i hi => by have hz9 := (fr).size; have hg9 := (fr).get i (by simp <;> omega); simp only [IHeap.get_set_if, IHeap.get_push, IHeap.size_set', IHeap.size_push', getU,  PN.obj, PN.row, PN.holds, h2, h4] at hg9 hz9 ⊢; grind⟩
    | true =>
      simp (maxSteps := 1000000) (disch := first | (simp; done) | (simp only [IHeap.size_push', IHeap.size_set']; omega) | omega) [a0, a1, hn, hp, hd, h4]
      refine ⟨niC_of (by kernel_rfl), FN.of (stand_c ok (by first | exact h1 | simp (maxSteps := 1000000) (disch := first | (simp; done) | (simp only [IHeap.size_push', IHeap.size_set']; omega) | omega) [h1, fr.get])) ?_⟩
      simp (maxSteps := 1000000) (disch := first | (simp; done) | (simp only [IHeap.size_push', IHeap.size_set']; omega) | omega) [a0, a1, hn, hp, hd]
      exact ⟨by have := (fr).size; simp at this ⊢ <;> omega, fun i hi => by have hz9 := (fr).size; have hg9 := (fr).get i (by simp <;> omega); simp only [IHeap.get_set_if, IHeap.get_push, IHeap.size_set', IHeap.size_push', getU,  PN.obj, PN.row, PN.holds, h2, h4] at hg9 hz9 ⊢; grind⟩
  · simp (maxSteps := 1000000) (disch := first | (simp; done) | (simp only [IHeap.size_push', IHeap.size_set']; omega) | omega) [a0, a1, hn, hp, hd, Ad.val, h2]
    refine ⟨niC_of (by kernel_rfl), ?_⟩
    exact ⟨by simp <;> omega, fun i hi => by simp only [IHeap.get_set_if, IHeap.get_push, IHeap.size_set', IHeap.size_push', getU, PN.obj, PN.row, PN.holds, h2]; grind⟩
def PN.learn (n : PN) (a : Ad) : PN := { n with known := if a.term > n.known then a.term else n.known }
def PN.hear (n : PN) (a : Ad) : PN := if n.act = true then (n.learn a).holds a else (n.learn a).waits a
theorem PN.st.learn {n : PN} (a : Ad) (ok : n.st) : (n.learn a).st := ⟨ok.num, ok.pri, ok.itv⟩
theorem hear_c {h : IHeap} {p : Nat} {n : PN} (pr tm : Int) (ok : n.st) (hb : 0 ≤ pr ∧ pr ≤ 254) (hp : h.get p = some n.obj) : CT Try.prog 13 #[.pointer (some ⟨p, 0, none⟩), Ad.val ⟨1 - n.num, pr, tm⟩] h (.int .i64 0) [(p, (n.hear ⟨1 - n.num, pr, tm⟩).obj)] := by
  refine FN.enter mixed (fn := Try.f13) (by kernel_rfl) rfl (by kernel_rfl) fun e hn hg hd => ?_
  simp [Try.f13] at hn
  have a0 : e.get 0 = .pointer (some ⟨p, 0, none⟩) := hg 0 (by omega)
  have a1 : e.get 1 = Ad.val ⟨1 - n.num, pr, tm⟩ := hg 1 (by omega)
  clear hg
  have hpz := IHeap.get_lt hp
  have h1 := hp
  have := ok.num
  simp only [PN.obj, PN.row] at hp
  simp (maxSteps := 1000000) (disch := first | (simp; done) | (simp only [IHeap.size_push', IHeap.size_set']; omega) | omega) [a0, a1, hn, hp, hd, Ad.val]
  refine FN.of (none_c ok (by simp (maxSteps := 1000000) (disch := first | (simp; done) | (simp only [IHeap.size_push', IHeap.size_set']; omega) | omega) [h1])) ?_
  have e1 : ¬ pr < 0 := by omega
  have e2 : ¬ 254 < pr := by omega
  simp (maxSteps := 1000000) (disch := first | (simp; done) | (simp only [IHeap.size_push', IHeap.size_set']; omega) | omega) [a0, a1, hn, hp, hd, e1, e2]
  refine ⟨niC_of (by kernel_rfl), niC_of (by kernel_rfl), ?_⟩
  cases h2 : n.act with
  | true =>
    simp (maxSteps := 1000000) (disch := first | (simp; done) | (simp only [IHeap.size_push', IHeap.size_set']; omega) | omega) [a0, a1, hn, hp, hd, h2]
    refine FN.ct (holds_c (n := n.learn ⟨1 - n.num, pr, tm⟩) (p := p) ⟨1 - n.num, pr, tm⟩ (ok.learn _) ?_) fun h' fr => ?_
    · simp (maxSteps := 1000000) (disch := first | (simp; done) | (simp only [IHeap.size_push', IHeap.size_set']; omega) | omega) [PN.obj, PN.row, PN.learn, h2]
    simp (maxSteps := 1000000) (disch := first | (simp; done) | (simp only [IHeap.size_push', IHeap.size_set']; omega) | omega) [a0, a1, hn, hp, hd, h2]
    refine ⟨niC_of (by kernel_rfl), ?_⟩
    exact ⟨by have := (fr).size; simp at this ⊢ <;> omega, fun i hi => by have hz9 := (fr).size; have hg9 := (fr).get i (by simp <;> omega); simp only [IHeap.get_set_if, IHeap.get_push, IHeap.size_set', IHeap.size_push', getU,  PN.hear, h2] at hg9 hz9 ⊢; grind⟩
  | false =>
    simp (maxSteps := 1000000) (disch := first | (simp; done) | (simp only [IHeap.size_push', IHeap.size_set']; omega) | omega) [a0, a1, hn, hp, hd, h2]
    refine FN.ct (waits_c (n := n.learn ⟨1 - n.num, pr, tm⟩) (p := p) ⟨1 - n.num, pr, tm⟩ (ok.learn _) ?_) fun h' fr => ?_
    · simp (maxSteps := 1000000) (disch := first | (simp; done) | (simp only [IHeap.size_push', IHeap.size_set']; omega) | omega) [PN.obj, PN.row, PN.learn, h2]
    simp (maxSteps := 1000000) (disch := first | (simp; done) | (simp only [IHeap.size_push', IHeap.size_set']; omega) | omega) [a0, a1, hn, hp, hd, h2]
    refine ⟨niC_of (by kernel_rfl), ?_⟩
    exact ⟨by have := (fr).size; simp at this ⊢ <;> omega, fun i hi => by have hz9 := (fr).size; have hg9 := (fr).get i (by simp <;> omega); simp only [IHeap.get_set_if, IHeap.get_push, IHeap.size_set', IHeap.size_push', getU,  PN.hear, h2] at hg9 hz9 ⊢; grind⟩
def PN.resign (n : PN) : PN := if n.act = true then n.stand else n
def PN.res (n : PN) : Value := if n.act = true then .agg #[.int .i64 n.num, .int .i64 0, .int .u64 n.term] else noAdv
theorem resign_c {h : IHeap} {p : Nat} {n : PN} (ok : n.st) (hp : h.get p = some n.obj) : CT Try.prog 12 #[.pointer (some ⟨p, 0, none⟩)] h (.tuple #[n.res, .bool n.act]) [(p, n.resign.obj)] := by
  refine FN.enter mixed (fn := Try.f12) (by kernel_rfl) rfl (by kernel_rfl) fun e hn hg hd => ?_
  simp [Try.f12] at hn
  have a0 : e.get 0 = .pointer (some ⟨p, 0, none⟩) := hg 0 (by omega)
  clear hg
  have hpz := IHeap.get_lt hp
  have h1 := hp
  simp only [PN.obj, PN.row] at hp
  simp (maxSteps := 1000000) (disch := first | (simp; done) | (simp only [IHeap.size_push', IHeap.size_set']; omega) | omega) [a0, hn, hp, hd]
  refine FN.of (none_c ok (by simp (maxSteps := 1000000) (disch := first | (simp; done) | (simp only [IHeap.size_push', IHeap.size_set']; omega) | omega) [h1])) ?_
  cases h2 : n.act with
  | true =>
    simp (maxSteps := 1000000) (disch := first | (simp; done) | (simp only [IHeap.size_push', IHeap.size_set']; omega) | omega) [a0, hn, hp, hd, h2]
    refine FN.of (stand_c ok (by simp (maxSteps := 1000000) (disch := first | (simp; done) | (simp only [IHeap.size_push', IHeap.size_set']; omega) | omega) [h1])) ?_
    simp (maxSteps := 1000000) (disch := first | (simp; done) | (simp only [IHeap.size_push', IHeap.size_set']; omega) | omega) [a0, hn, hp, hd, h2, PN.obj, PN.row, PN.stand, PN.res]
    refine ⟨niC_of (by kernel_rfl), ?_⟩
    exact ⟨by simp <;> omega, fun i hi => by simp only [IHeap.get_set_if, IHeap.get_push, IHeap.size_set', IHeap.size_push', getU, PN.obj, PN.row, PN.resign, PN.stand, h2]; grind⟩
  | false =>
    simp (maxSteps := 1000000) (disch := first | (simp; done) | (simp only [IHeap.size_push', IHeap.size_set']; omega) | omega) [a0, hn, hp, hd, h2, PN.res, noAdv]
    exact ⟨by simp <;> omega, fun i hi => by simp only [IHeap.get_set_if, IHeap.get_push, IHeap.size_set', IHeap.size_push', getU, PN.obj, PN.row, PN.resign, PN.stand, h2]; grind⟩
theorem active_c {h : IHeap} {p : Nat} {n : PN} (ok : n.st) (hp : h.get p = some n.obj) : ICall Try.prog 10 #[.pointer (some ⟨p, 0, none⟩)] h (.bool n.act) h := by
  refine ICall.of_FN ?_
  refine FN.enter mixed (fn := Try.f10) (by kernel_rfl) rfl (by kernel_rfl) fun e hn hg hd => ?_
  simp [Try.f10] at hn
  have a0 : e.get 0 = .pointer (some ⟨p, 0, none⟩) := hg 0 (by omega)
  clear hg
  have h1 := hp
  simp only [PN.obj, PN.row] at hp
  simp (maxSteps := 1000000) (disch := first | (simp; done) | (simp only [IHeap.size_push', IHeap.size_set']; omega) | omega) [a0, hn, hp, hd]
  refine FN.of (none_c ok h1) ?_
  simp (maxSteps := 1000000) (disch := first | (simp; done) | (simp only [IHeap.size_push', IHeap.size_set']; omega) | omega) [a0, hn, hp, hd]
theorem term_c {h : IHeap} {p : Nat} {n : PN} (ok : n.st) (hp : h.get p = some n.obj) : ICall Try.prog 15 #[.pointer (some ⟨p, 0, none⟩)] h (.int .u64 n.term) h := by
  refine ICall.of_FN ?_
  refine FN.enter mixed (fn := Try.f15) (by kernel_rfl) rfl (by kernel_rfl) fun e hn hg hd => ?_
  simp [Try.f15] at hn
  have a0 : e.get 0 = .pointer (some ⟨p, 0, none⟩) := hg 0 (by omega)
  clear hg
  have h1 := hp
  simp only [PN.obj, PN.row] at hp
  simp (maxSteps := 1000000) (disch := first | (simp; done) | (simp only [IHeap.size_push', IHeap.size_set']; omega) | omega) [a0, hn, hp, hd]
  refine FN.of (none_c ok h1) ?_
  simp (maxSteps := 1000000) (disch := first | (simp; done) | (simp only [IHeap.size_push', IHeap.size_set']; omega) | omega) [a0, hn, hp, hd]
def mayB (num pri itv : Int) : Bool := decide ((num = 0 ∨ num = 1) ∧ 0 < pri ∧ pri < 255 ∧ 0 < itv ∧ itv < 101)
theorem may_c {h : IHeap} (num pri itv : Int) : ICall Try.prog 8 #[.int .i64 num, .int .i64 pri, .int .i64 itv] h (.bool (mayB num pri itv)) h := by
  refine ICall.of_FN ?_
  refine FN.enter mixed (fn := Try.f8) (by kernel_rfl) rfl (by kernel_rfl) fun e hn hg hd => ?_
  simp [Try.f8] at hn
  have a0 : e.get 0 = .int .i64 num := hg 0 (by omega)
  have a1 : e.get 1 = .int .i64 pri := hg 1 (by omega)
  have a2 : e.get 2 = .int .i64 itv := hg 2 (by omega)
  clear hg
  (simp (maxSteps := 1000000) (disch := first | (simp; done) | (simp only [IHeap.size_push', IHeap.size_set']; omega) | omega) [a0, a1, a2, hn, hd, mayB]) <;> repeat' (refine jif_split (fun hc => ?_) (fun hc => ?_) <;> (try simp only [Classical.not_not] at hc) <;> (try simp (maxSteps := 1000000) (disch := first | (simp; done) | (simp only [IHeap.size_push', IHeap.size_set']; omega) | omega) [*, Hid.ap_mk, a0, a1, a2, hn, hd, mayB]))
  all_goals (first | omega | (simp_all; done) | (simp_all; omega) | grind)
theorem rabove_c {h : IHeap} (p num q other : Int) : ICall Try.prog 11 #[.int .i64 p, .int .i64 num, .int .i64 q, .int .i64 other] h (.bool (AB p num q other)) h := by
  refine ICall.of_FN ?_
  refine FN.enter mixed (fn := Try.f11) (by kernel_rfl) rfl (by kernel_rfl) fun e hn hg hd => ?_
  simp [Try.f11] at hn
  have a0 : e.get 0 = .int .i64 p := hg 0 (by omega)
  have a1 : e.get 1 = .int .i64 num := hg 1 (by omega)
  have a2 : e.get 2 = .int .i64 q := hg 2 (by omega)
  have a3 : e.get 3 = .int .i64 other := hg 3 (by omega)
  clear hg
  (simp (maxSteps := 1000000) (disch := first | (simp; done) | (simp only [IHeap.size_push', IHeap.size_set']; omega) | omega) [a0, a1, a2, a3, hn, hd, AB]) <;> repeat' (refine jif_split (fun hc => ?_) (fun hc => ?_) <;> (try simp only [Classical.not_not] at hc) <;> (try simp (maxSteps := 1000000) (disch := first | (simp; done) | (simp only [IHeap.size_push', IHeap.size_set']; omega) | omega) [*, Hid.ap_mk, a0, a1, a2, a3, hn, hd, AB]))
  all_goals (first | omega | (simp_all; done) | (simp_all; omega) | grind)
def newN (num pri itv : Int) (pre : Bool) : PN := PN.stand ⟨num, pri, itv, pre, false, 0, 0, 0⟩
theorem mayB_true {num pri itv : Int} : mayB num pri itv = true ↔ (num = 0 ∨ num = 1) ∧ 0 < pri ∧ pri < 255 ∧ 0 < itv ∧ itv < 101 := by simp [mayB]
theorem newN_st {num pri itv : Int} {pre : Bool} (h : mayB num pri itv = true) : (newN num pri itv pre).st := by
  obtain ⟨h1, h2, h3, h4, h5⟩ := mayB_true.1 h
  exact ⟨h1, by simp [newN, PN.stand]; omega, by simp [newN, PN.stand]; omega⟩
theorem new_c {h : IHeap} {num pri itv : Int} {pre : Bool} (hm : mayB num pri itv = true) : ICall Try.prog 20 #[.int .i64 num, .int .i64 pri, .int .i64 itv, .bool pre] h (.tuple #[.pointer (some ⟨h.size, 0, none⟩), .int .i64 0]) (h.push (newN num pri itv pre).obj) := by
  refine ICall.of_FN ?_
  refine FN.enter mixed (fn := Try.f20) (by kernel_rfl) rfl (by kernel_rfl) fun e hn hg hd => ?_
  simp [Try.f20] at hn
  have a0 : e.get 0 = .int .i64 num := hg 0 (by omega)
  have a1 : e.get 1 = .int .i64 pri := hg 1 (by omega)
  have a2 : e.get 2 = .int .i64 itv := hg 2 (by omega)
  have a3 : e.get 3 = .bool pre := hg 3 (by omega)
  clear hg
  obtain ⟨h1, h2, h3, h4, h5⟩ := mayB_true.1 hm
  have e1 : ¬ num < 0 := by omega
  have e2 : ¬ 1 < num := by omega
  have e3 : ¬ pri < 1 := by omega
  have e4 : ¬ 254 < pri := by omega
  have e5 : ¬ itv < 1 := by omega
  have e6 : ¬ 100 < itv := by omega
  simp (maxSteps := 1000000) (disch := first | (simp; done) | (simp only [IHeap.size_push', IHeap.size_set']; omega) | omega) [a0, a1, a2, a3, hn, hd, e1, e2, e3, e4, e5, e6]
  refine FN.of (stand_c (n := ⟨num, pri, itv, pre, false, 0, 0, 0⟩) ⟨h1, ⟨by show 1 ≤ pri; omega, by show pri ≤ 254; omega⟩, ⟨by show 1 ≤ itv; omega, by show itv ≤ 100; omega⟩⟩ (by simp (maxSteps := 1000000) (disch := first | (simp; done) | (simp only [IHeap.size_push', IHeap.size_set']; omega) | omega) [PN.obj, PN.row])) ?_
  simp (maxSteps := 1000000) (disch := first | (simp; done) | (simp only [IHeap.size_push', IHeap.size_set']; omega) | omega) [hn, hd, newN]
theorem new_n {h : IHeap} {num pri itv : Int} {pre : Bool} (hm : mayB num pri itv = false) : ICall Try.prog 20 #[.int .i64 num, .int .i64 pri, .int .i64 itv, .bool pre] h (.tuple #[.pointer none, .int .i64 2]) h := by
  refine ICall.of_FN ?_
  refine FN.enter mixed (fn := Try.f20) (by kernel_rfl) rfl (by kernel_rfl) fun e hn hg hd => ?_
  simp [Try.f20] at hn
  have a0 : e.get 0 = .int .i64 num := hg 0 (by omega)
  have a1 : e.get 1 = .int .i64 pri := hg 1 (by omega)
  have a2 : e.get 2 = .int .i64 itv := hg 2 (by omega)
  have a3 : e.get 3 = .bool pre := hg 3 (by omega)
  clear hg
  simp [mayB] at hm
  by_cases e1 : num < 0
  · simp (maxSteps := 1000000) (disch := first | (simp; done) | (simp only [IHeap.size_push', IHeap.size_set']; omega) | omega) [a0, a1, a2, a3, hn, hd, e1]
  by_cases e2 : 1 < num
  · simp (maxSteps := 1000000) (disch := first | (simp; done) | (simp only [IHeap.size_push', IHeap.size_set']; omega) | omega) [a0, a1, a2, a3, hn, hd, e1, e2]
  by_cases e3 : pri < 1
  · simp (maxSteps := 1000000) (disch := first | (simp; done) | (simp only [IHeap.size_push', IHeap.size_set']; omega) | omega) [a0, a1, a2, a3, hn, hd, e1, e2, e3]
  by_cases e4 : 254 < pri
  · simp (maxSteps := 1000000) (disch := first | (simp; done) | (simp only [IHeap.size_push', IHeap.size_set']; omega) | omega) [a0, a1, a2, a3, hn, hd, e1, e2, e3, e4]
  by_cases e5 : itv < 1
  · simp (maxSteps := 1000000) (disch := first | (simp; done) | (simp only [IHeap.size_push', IHeap.size_set']; omega) | omega) [a0, a1, a2, a3, hn, hd, e1, e2, e3, e4, e5]
  by_cases e6 : 100 < itv
  · simp (maxSteps := 1000000) (disch := first | (simp; done) | (simp only [IHeap.size_push', IHeap.size_set']; omega) | omega) [a0, a1, a2, a3, hn, hd, e1, e2, e3, e4, e5, e6]
  omega
def PN.ad (n : PN) : Ad := ⟨n.num, n.pri, n.term⟩
theorem PN.ad_val (n : PN) : n.ad.val = n.adv := rfl
theorem PN.ok.mono {n : PN} {K K' : Int} (ok : n.ok K) (h : K ≤ K') : n.ok K' := ⟨ok.tost, ok.left, ⟨ok.term.1, by have := ok.term; omega⟩, ⟨ok.known.1, by have := ok.known; omega⟩⟩
theorem PN.ok.next {n : PN} {K : Int} (ok : n.ok K) : n.next.ok (K + 1) := by
  have h1 := ok.left
  have h2 := ok.itv
  have h3 := ok.known
  have h4 := ok.term
  unfold PN.next
  split
  · exact ⟨⟨ok.num, ok.pri, ok.itv⟩, by simp only; omega, by simp only; omega, by simp only; omega⟩
  · split
    · exact ⟨⟨ok.num, ok.pri, ok.itv⟩, by simp only; omega, by simp only; omega, by simp only; omega⟩
    · exact ⟨⟨ok.num, ok.pri, ok.itv⟩, by simp only; omega, by simp only; omega, by simp only; omega⟩
theorem PN.ok.stand {n : PN} {K : Int} (ok : n.ok K) : n.stand.ok K := by
  have h2 := ok.itv
  have h3 := ok.tost.share
  exact ⟨⟨ok.num, ok.pri, ok.itv⟩, by simp only [PN.stand]; omega, ok.term, ok.known⟩
theorem PN.ok.hear {n : PN} {K : Int} {a : Ad} (ok : n.ok K) (ha : a.term ≤ K) : (n.hear a).ok K := by
  have h1 := ok.left
  have h3 := ok.known
  have hs := ok.tost.share
  have l : (n.learn a).ok K := ⟨⟨ok.num, ok.pri, ok.itv⟩, ok.left, ok.term, by simp only [PN.learn]; split <;> omega⟩
  unfold PN.hear PN.holds PN.waits
  split
  · split
    · exact l.stand
    · exact ⟨⟨ok.num, ok.pri, ok.itv⟩, by simp only; omega, l.term, l.known⟩
  · split
    · exact ⟨⟨ok.num, ok.pri, ok.itv⟩, by show 1 ≤ n.share ∧ n.share ≤ 304; omega, l.term, l.known⟩
    · split
      · exact l.stand
      · exact l
theorem PN.next_num (n : PN) : n.next.num = n.num := by unfold PN.next; (repeat' split) <;> rfl
theorem PN.next_pri (n : PN) : n.next.pri = n.pri := by unfold PN.next; (repeat' split) <;> rfl
theorem PN.hear_num (n : PN) (a : Ad) : (n.hear a).num = n.num := by unfold PN.hear PN.holds PN.waits; (repeat' split) <;> rfl
/-- Both nodes behind a tick of the first one; of the second one. -/
def half (A B : PN) (lost : Bool) : PN × PN := (A.next, if A.says && !lost then B.hear A.next.ad else B)
def rnd (A B : PN) (lost : Bool) : PN × PN := let x := half A B lost; let y := half x.2 x.1 lost; (y.2, y.1)
end Go.Proofs.Ythaegngkkannjaa.Ideal
