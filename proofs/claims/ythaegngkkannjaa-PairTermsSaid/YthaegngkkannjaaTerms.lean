import Derived.Test.YthaegngkkannjaaP48c
import Derived.Test.YthaegngkkannjaaI37
noncomputable section
open Go.Proofs
namespace Go.Proofs.Ythaegngkkannjaa.Ideal
open Go.RowKit
set_option linter.unusedSimpArgs false
set_option linter.unusedVariables false
set_option maxRecDepth 100000
set_option maxHeartbeats 4000000
attribute [-simp] IHeap.size_set IHeap.size_push
attribute [local simp ↓] Hid.ap_mk
attribute [local simp] scopeQ_normal scopeQ_ret scopeQ_exit WP_skip WP_label WP_exit WP_goto WP_ret WP_region WP_seq WP_cond WP_block WP_scope WP_loop WP_range thenQ_normal thenQ_ret thenQ_exit thenQ_goto loopQ_normal loopQ_ret loopQ_exit invQ_normal invQ_ret invQ_exit outOf_normal outOf_ret outOf_goto outOf_exit ev_tmp ev_const ev_func
  wops_nil wops_cons wantedE_none wantedE_some jgd_some wnx_eq niC_false wdo_move wdo_assign wdo_pick wdo_load wdo_store wdo_alloc wdo_box wdo_fieldAddr wdo_indexAddr wdo_field wdo_extract wdo_build wdo_buildSlice wdo_makeSlice wdo_binOp wdo_unOp wdo_makeFunc wdo_nilCheck wdo_callV wdo_len wdo_append wdo_copy wdo_delete wdo_max wdo_min wdo_convert jcvt_int
  xput_get put_n put_none put_dfr ibin finQ_n finQ_r finD_nil splice_one ires_nil ires_one ires_two ires_three ires1_tmp ires1_cell jcell_ptr rowLoad_row wrap64 wrapU64 wrapU8 wrapU16 wrapU32 callV_fn buildOf Instr.fill Value.cells Value.oneCell' kindOf slots_all splice_all IHeap.size_set' IHeap.size_push' IHeap.get_set_same IHeap.get_set_ne IHeap.get_pushed IHeap.get_push_ne IHeap.set_set IHeap.set_push IHeap.set_pushed IHeap.set_set3 getU_nil getU_same getU_ne jif_true jif_false pushH_eq setH_eq forceL_eq forceV_eq ibuildSlice
/-- A slice argument whose elements lie in a heap. -/
def RowAt (h : IHeap) (A : Option Addr) (vs : List Value) : Prop := vs ≠ [] → ∃ i o ro esz cs, A = some ⟨i, o, none⟩ ∧ h.get i = some (.row ro esz cs) ∧ ∀ (j : Nat) (b : Value), vs[j]? = some b → cs[o + j]? = some b
/-- What lies in memory: both nodes, which were active, terms, what was heard. -/
structure TS (h0 h : IHeap) (K : Int) (A B : PN) (w0 w1 : Bool) (t0 t1 d0 d1 : Int) : Prop where
  sz : h0.size + 1 + 1 + 1 + 1 + 1 + 1 < h.size
  n : h.get (h0.size + 1 + 1 + 1) = some (.row false 0 [.pointer (some ⟨h0.size + 1, 0, none⟩), .pointer (some ⟨h0.size + 2, 0, none⟩)])
  a : h.get (h0.size + 1) = some A.obj
  b : h.get (h0.size + 2) = some B.obj
  w : h.get (h0.size + 1 + 1 + 1 + 1) = some (.row false 0 [.bool w0, .bool w1])
  t : h.get (h0.size + 1 + 1 + 1 + 1 + 1) = some (.row false 0 [.int .u64 t0, .int .u64 t1])
  d : h.get (h0.size + 1 + 1 + 1 + 1 + 1 + 1) = some (.row false 0 [.int .u64 d0, .int .u64 d1])
  old : ∀ i, i < h0.size → h.get i = h0.get i
  okA : A.ok K
  okB : B.ok K
  nA : A.num = 0
  nB : B.num = 1
  tA : 0 ≤ t0 ∧ t0 ≤ A.known
  tB : 0 ≤ t1 ∧ t1 ≤ B.known
  dA : 0 ≤ d0 ∧ d0 ≤ A.known
  dB : 0 ≤ d1 ∧ d1 ≤ B.known
theorem TS.push {h0 h : IHeap} {K : Int} {A B : PN} {w0 w1 : Bool} {t0 t1 d0 d1 : Int} (x : TS h0 h K A B w0 w1 t0 t1 d0 d1) (o : IObj) : TS h0 (h.push o) K A B w0 w1 t0 t1 d0 d1 := by
  have z := x.sz
  refine ⟨by simp; omega, ?_, ?_, ?_, ?_, ?_, ?_, fun i hi => ?_, x.okA, x.okB, x.nA, x.nB, x.tA, x.tB, x.dA, x.dB⟩
  · rw [IHeap.get_push_ne _ (by omega)]; exact x.n
  · rw [IHeap.get_push_ne _ (by omega)]; exact x.a
  · rw [IHeap.get_push_ne _ (by omega)]; exact x.b
  · rw [IHeap.get_push_ne _ (by omega)]; exact x.w
  · rw [IHeap.get_push_ne _ (by omega)]; exact x.t
  · rw [IHeap.get_push_ne _ (by omega)]; exact x.d
  · rw [IHeap.get_push_ne _ (by omega)]; exact x.old i hi
theorem TS.setA {h0 h h' : IHeap} {K K' : Int} {A B A' : PN} {w0 w1 : Bool} {t0 t1 d0 d1 : Int} (x : TS h0 h K A B w0 w1 t0 t1 d0 d1) (f : Fr h h' [(h0.size + 1, A'.obj)]) (hK : K ≤ K') (ok : A'.ok K') (nm : A'.num = A.num) (hk : A.known ≤ A'.known) : TS h0 h' K' A' B w0 w1 t0 t1 d0 d1 := by
  have z := x.sz
  have hz := f.size
  refine ⟨by omega, ?_, ?_, ?_, ?_, ?_, ?_, fun i hi => ?_, ok, x.okB.mono hK, nm.trans x.nA, x.nB, ⟨x.tA.1, by have := x.tA.2; omega⟩, x.tB, ⟨x.dA.1, by have := x.dA.2; omega⟩, x.dB⟩
  · rw [f.get _ (by omega), getU_ne _ (by omega)]; exact x.n
  · rw [f.get _ (by omega), getU_same _ rfl]
  · rw [f.get _ (by omega), getU_ne _ (by omega)]; exact x.b
  · rw [f.get _ (by omega), getU_ne _ (by omega)]; exact x.w
  · rw [f.get _ (by omega), getU_ne _ (by omega)]; exact x.t
  · rw [f.get _ (by omega), getU_ne _ (by omega)]; exact x.d
  · rw [f.get _ (by omega), getU_ne _ (by omega)]; exact x.old i hi
theorem TS.setB {h0 h h' : IHeap} {K K' : Int} {A B A' : PN} {w0 w1 : Bool} {t0 t1 d0 d1 : Int} (x : TS h0 h K A B w0 w1 t0 t1 d0 d1) (f : Fr h h' [(h0.size + 2, A'.obj)]) (hK : K ≤ K') (ok : A'.ok K') (nm : A'.num = B.num) (hk : B.known ≤ A'.known) : TS h0 h' K' A A' w0 w1 t0 t1 d0 d1 := by
  have z := x.sz
  have hz := f.size
  refine ⟨by omega, ?_, ?_, ?_, ?_, ?_, ?_, fun i hi => ?_, x.okA.mono hK, ok, x.nA, nm.trans x.nB, x.tA, ⟨x.tB.1, by have := x.tB.2; omega⟩, x.dA, ⟨x.dB.1, by have := x.dB.2; omega⟩⟩
  · rw [f.get _ (by omega), getU_ne _ (by omega)]; exact x.n
  · rw [f.get _ (by omega), getU_ne _ (by omega)]; exact x.a
  · rw [f.get _ (by omega), getU_same _ rfl]
  · rw [f.get _ (by omega), getU_ne _ (by omega)]; exact x.w
  · rw [f.get _ (by omega), getU_ne _ (by omega)]; exact x.t
  · rw [f.get _ (by omega), getU_ne _ (by omega)]; exact x.d
  · rw [f.get _ (by omega), getU_ne _ (by omega)]; exact x.old i hi
theorem TS.setW {h0 h : IHeap} {K : Int} {A B : PN} {w0 w1 : Bool} {t0 t1 d0 d1 : Int} (x : TS h0 h K A B w0 w1 t0 t1 d0 d1) (v0 v1 : Bool) : TS h0 (h.set (h0.size + 1 + 1 + 1 + 1) (.row false 0 [.bool v0, .bool v1])) K A B v0 v1 t0 t1 d0 d1 := by
  have z := x.sz
  refine ⟨by simp; omega, ?_, ?_, ?_, ?_, ?_, ?_, fun i hi => ?_, x.okA, x.okB, x.nA, x.nB, x.tA, x.tB, x.dA, x.dB⟩
  · rw [IHeap.get_set_ne _ (by omega)]; exact x.n
  · rw [IHeap.get_set_ne _ (by omega)]; exact x.a
  · rw [IHeap.get_set_ne _ (by omega)]; exact x.b
  · exact IHeap.get_set_same _ (by omega)
  · rw [IHeap.get_set_ne _ (by omega)]; exact x.t
  · rw [IHeap.get_set_ne _ (by omega)]; exact x.d
  · rw [IHeap.get_set_ne _ (by omega)]; exact x.old i hi
theorem TS.setT {h0 h : IHeap} {K : Int} {A B : PN} {w0 w1 : Bool} {t0 t1 d0 d1 : Int} (x : TS h0 h K A B w0 w1 t0 t1 d0 d1) (v0 v1 : Int) (k0 : 0 ≤ v0 ∧ v0 ≤ A.known) (k1 : 0 ≤ v1 ∧ v1 ≤ B.known) : TS h0 (h.set (h0.size + 1 + 1 + 1 + 1 + 1) (.row false 0 [.int .u64 v0, .int .u64 v1])) K A B w0 w1 v0 v1 d0 d1 := by
  have z := x.sz
  refine ⟨by simp; omega, ?_, ?_, ?_, ?_, ?_, ?_, fun i hi => ?_, x.okA, x.okB, x.nA, x.nB, k0, k1, x.dA, x.dB⟩
  · rw [IHeap.get_set_ne _ (by omega)]; exact x.n
  · rw [IHeap.get_set_ne _ (by omega)]; exact x.a
  · rw [IHeap.get_set_ne _ (by omega)]; exact x.b
  · rw [IHeap.get_set_ne _ (by omega)]; exact x.w
  · exact IHeap.get_set_same _ (by omega)
  · rw [IHeap.get_set_ne _ (by omega)]; exact x.d
  · rw [IHeap.get_set_ne _ (by omega)]; exact x.old i hi
theorem TS.setD {h0 h : IHeap} {K : Int} {A B : PN} {w0 w1 : Bool} {t0 t1 d0 d1 : Int} (x : TS h0 h K A B w0 w1 t0 t1 d0 d1) (v0 v1 : Int) (k0 : 0 ≤ v0 ∧ v0 ≤ A.known) (k1 : 0 ≤ v1 ∧ v1 ≤ B.known) : TS h0 (h.set (h0.size + 1 + 1 + 1 + 1 + 1 + 1) (.row false 0 [.int .u64 v0, .int .u64 v1])) K A B w0 w1 t0 t1 v0 v1 := by
  have z := x.sz
  refine ⟨by simp; omega, ?_, ?_, ?_, ?_, ?_, ?_, fun i hi => ?_, x.okA, x.okB, x.nA, x.nB, x.tA, x.tB, k0, k1⟩
  · rw [IHeap.get_set_ne _ (by omega)]; exact x.n
  · rw [IHeap.get_set_ne _ (by omega)]; exact x.a
  · rw [IHeap.get_set_ne _ (by omega)]; exact x.b
  · rw [IHeap.get_set_ne _ (by omega)]; exact x.w
  · rw [IHeap.get_set_ne _ (by omega)]; exact x.t
  · exact IHeap.get_set_same _ (by omega)
  · rw [IHeap.get_set_ne _ (by omega)]; exact x.old i hi
theorem newN_ok {num pri itv : Int} {pre : Bool} (h : mayB num pri itv = true) : (newN num pri itv pre).ok 0 := by
  have s := newN_st (pre := pre) h
  have h2 := s.share
  have h3 := s.itv
  refine ⟨s, ?_, by simp [newN, PN.stand], by simp [newN, PN.stand]⟩
  simp only [newN, PN.stand, PN.share] at h2 h3 ⊢
  omega
theorem PN.ok.resign {n : PN} {K : Int} (ok : n.ok K) : n.resign.ok K := by
  unfold PN.resign
  split
  · exact ok.stand
  · exact ok
theorem PN.resign_num (n : PN) : n.resign.num = n.num := by unfold PN.resign; split <;> rfl
theorem PN.resign_known (n : PN) : n.resign.known = n.known := by unfold PN.resign; split <;> rfl
theorem PN.hear_known (n : PN) (a : Ad) : (n.hear a).known = max n.known a.term := by
  unfold PN.hear PN.holds PN.waits
  have : (n.learn a).known = max n.known a.term := by simp only [PN.learn]; split <;> omega
  (repeat' split) <;> exact this
theorem PN.next_known {n : PN} : n.known ≤ n.next.known ∧ (n.next.act = true → n.act = false → n.next.term = n.known + 1 ∧ n.next.known = n.known + 1) := by
  unfold PN.next
  (repeat' split) <;> simp_all <;> omega
theorem PN.next_act {n : PN} (h : n.act = true) : n.next.act = true := by
  unfold PN.next
  (repeat' split) <;> simp_all
theorem max_u64 (a b : Int) : jmax (.int .u64 a) (.int .u64 b) = some (.int .u64 (max a b)) := by
  simp [jmax]
  omega
theorem RowAt.get {h : IHeap} {A : Option Addr} {vs : List Value} (x : RowAt h A vs) {j : Nat} (hj : j < vs.length) : ∃ i o ro esz cs, A = some ⟨i, o, none⟩ ∧ h.get i = some (.row ro esz cs) ∧ ∀ (j : Nat) (b : Value), vs[j]? = some b → cs[o + j]? = some b := x (by intro e; rw [e] at hj; simp at hj)
/-- .. of any content. -/
def TSE (h0 h : IHeap) (K : Int) : Prop := ∃ (A B : PN) (w0 w1 : Bool) (t0 t1 d0 d1 : Int), TS h0 h K A B w0 w1 t0 t1 d0 d1
/-- .. and an advert of number m at z. -/
def TSM (h0 h : IHeap) (K : Int) (m : Int) (z : Nat) (s : Bool) : Prop := TSE h0 h K ∧ h0.size + 1 + 1 + 1 + 1 + 1 + 1 < z ∧ ∃ (n pr tm : Int), h.get z = some (.row false 0 [.int .i64 n, .int .i64 pr, .int .u64 tm]) ∧ (s = true → n = m ∧ (0 ≤ pr ∧ pr ≤ 254) ∧ 0 ≤ tm ∧ tm ≤ K)

theorem terms_c {h : IHeap} {p q itv : Int} {A : Option Addr} {bs : List Bool} {cap : Nat} {R : Option Addr} {rs : List Int} {cap2 : Nat} (hb : RowAt h A (bs.map .bool)) (hr : RowAt h R (rs.map (.int .u8))) (hrb : ∀ r ∈ rs, 0 ≤ r ∧ r < 256) :
    FN Try.prog 4 #[.int .i64 p, .int .i64 q, .int .i64 itv, .slice A bs.length cap, .slice R rs.length cap2] h (Q := ⟨fun v _ => v = .bool true⟩) := by
  refine FN.enter mixed (fn := Try.f4) (by kernel_rfl) rfl (by kernel_rfl) fun e hn hg hd => ?_
  simp [Try.f4] at hn
  have a0 : e.get 0 = .int .i64 p := hg 0 (by omega)
  have a1 : e.get 1 = .int .i64 q := hg 1 (by omega)
  have a2 : e.get 2 = .int .i64 itv := hg 2 (by omega)
  have a3 : e.get 3 = .slice A bs.length cap := hg 3 (by omega)
  have a4 : e.get 4 = .slice R rs.length cap2 := hg 4 (by omega)
  clear hg
  cases hm : mayB 0 p itv && mayB 1 q itv with
  | false =>
    simp (maxSteps := 1000000) (disch := first | (simp; done) | (simp only [IHeap.size_push', IHeap.size_set']; omega) | omega) [a0, a1, a2, a3, a4, hn, hd]
    refine FN.mono (two_n hm) ?_
    rintro _ h1 ⟨c, d, rfl⟩
    by_cases c1 : (150 : Int) < bs.length
    · simp (maxSteps := 1000000) (disch := first | (simp; done) | (simp only [IHeap.size_push', IHeap.size_set']; omega) | omega) [a0, a1, a2, a3, a4, hn, hd, c1, undef]
      refine FN.of known_c ?_
      simp (maxSteps := 1000000) (disch := first | (simp; done) | (simp only [IHeap.size_push', IHeap.size_set']; omega) | omega) [hn, hd]
    by_cases c2 : (150 : Int) < rs.length
    · simp (maxSteps := 1000000) (disch := first | (simp; done) | (simp only [IHeap.size_push', IHeap.size_set']; omega) | omega) [a0, a1, a2, a3, a4, hn, hd, c1, c2, undef]
      refine FN.of known_c ?_
      simp (maxSteps := 1000000) (disch := first | (simp; done) | (simp only [IHeap.size_push', IHeap.size_set']; omega) | omega) [hn, hd]
    simp (maxSteps := 1000000) (disch := first | (simp; done) | (simp only [IHeap.size_push', IHeap.size_set']; omega) | omega) [a0, a1, a2, a3, a4, hn, hd, c1, c2, undef]
    refine FN.of (may_c _ _ _) ?_
    cases m0 : mayB 0 p itv with
    | false =>
      simp (maxSteps := 1000000) (disch := first | (simp; done) | (simp only [IHeap.size_push', IHeap.size_set']; omega) | omega) [a0, a1, a2, a3, a4, hn, hd, undef]
      refine FN.of known_c ?_
      simp (maxSteps := 1000000) (disch := first | (simp; done) | (simp only [IHeap.size_push', IHeap.size_set']; omega) | omega) [hn, hd]
    | true =>
      simp [m0] at hm
      simp (maxSteps := 1000000) (disch := first | (simp; done) | (simp only [IHeap.size_push', IHeap.size_set']; omega) | omega) [a0, a1, a2, a3, a4, hn, hd, undef]
      refine FN.of (may_c _ _ _) ?_
      simp (maxSteps := 1000000) (disch := first | (simp; done) | (simp only [IHeap.size_push', IHeap.size_set']; omega) | omega) [a0, a1, a2, a3, a4, hn, hd, hm, undef]
      refine FN.of known_c ?_
      simp (maxSteps := 1000000) (disch := first | (simp; done) | (simp only [IHeap.size_push', IHeap.size_set']; omega) | omega) [hn, hd]
  | true =>
    simp only [Bool.and_eq_true] at hm
    obtain ⟨_, p2, p3, _, _⟩ := mayB_true.1 hm.1
    obtain ⟨_, q2, q3, _, _⟩ := mayB_true.1 hm.2
    simp (maxSteps := 1000000) (disch := first | (simp; done) | (simp only [IHeap.size_push', IHeap.size_set']; omega) | omega) [a0, a1, a2, a3, a4, hn, hd]
    refine FN.of (two_c hm.1 hm.2) ?_
    by_cases c1 : (150 : Int) < bs.length
    · simp (maxSteps := 1000000) (disch := first | (simp; done) | (simp only [IHeap.size_push', IHeap.size_set']; omega) | omega) [a0, a1, a2, a3, a4, hn, hd, c1, undef]
      refine FN.of known_c ?_
      simp (maxSteps := 1000000) (disch := first | (simp; done) | (simp only [IHeap.size_push', IHeap.size_set']; omega) | omega) [hn, hd]
    by_cases c2 : (150 : Int) < rs.length
    · simp (maxSteps := 1000000) (disch := first | (simp; done) | (simp only [IHeap.size_push', IHeap.size_set']; omega) | omega) [a0, a1, a2, a3, a4, hn, hd, c1, c2, undef]
      refine FN.of known_c ?_
      simp (maxSteps := 1000000) (disch := first | (simp; done) | (simp only [IHeap.size_push', IHeap.size_set']; omega) | omega) [hn, hd]
    simp (maxSteps := 1000000) (disch := first | (simp; done) | (simp only [IHeap.size_push', IHeap.size_set']; omega) | omega) [a0, a1, a2, a3, a4, hn, hd, c1, c2, undef]
    refine WPL.by_inv mixed (by kernel_rfl) (fun k e h' => ∃ (j : Nat), j + k = bs.length ∧ e.n = 188 ∧ e.dfr = [] ∧ e.get 4 = .slice R rs.length cap2 ∧
      e.get 11 = .pointer (some ⟨h.size + 1 + 1 + 1, 0, none⟩) ∧ e.get 13 = .pointer (some ⟨h.size + 1 + 1 + 1 + 1, 0, none⟩) ∧ e.get 14 = .pointer (some ⟨h.size + 1 + 1 + 1 + 1 + 1, 0, none⟩) ∧ e.get 15 = .pointer (some ⟨h.size + 1 + 1 + 1 + 1 + 1 + 1, 0, none⟩) ∧
      e.get 65 = .slice A bs.length cap ∧ e.get 66 = .int .i64 bs.length ∧ e.get 67 = .int .i64 j ∧ TSE h h' (2 * j)) bs.length ?_ ?_
    · refine ⟨0, ?_⟩
      simp (maxSteps := 1000000) (disch := first | (simp; done) | (simp only [IHeap.size_push', IHeap.size_set']; omega) | omega) [a0, a1, a2, a3, a4, hn, hd]
      have s0 := newN_ok (pre := true) hm.1
      have s1 := newN_ok (pre := false) hm.2
      refine ⟨newN 0 p itv true, newN 1 q itv false, false, false, 0, 0, 0, 0, ⟨by simp (maxSteps := 1000000) (disch := first | (simp; done) | (simp only [IHeap.size_push', IHeap.size_set']; omega) | omega) [], by simp (maxSteps := 1000000) (disch := first | (simp; done) | (simp only [IHeap.size_push', IHeap.size_set']; omega) | omega) [], by simp (maxSteps := 1000000) (disch := first | (simp; done) | (simp only [IHeap.size_push', IHeap.size_set']; omega) | omega) [], by simp (maxSteps := 1000000) (disch := first | (simp; done) | (simp only [IHeap.size_push', IHeap.size_set']; omega) | omega) [], by simp (maxSteps := 1000000) (disch := first | (simp; done) | (simp only [IHeap.size_push', IHeap.size_set']; omega) | omega) [], by simp (maxSteps := 1000000) (disch := first | (simp; done) | (simp only [IHeap.size_push', IHeap.size_set']; omega) | omega) [], by simp (maxSteps := 1000000) (disch := first | (simp; done) | (simp only [IHeap.size_push', IHeap.size_set']; omega) | omega) [], fun i hi => by simp (maxSteps := 1000000) (disch := first | (simp; done) | (simp only [IHeap.size_push', IHeap.size_set']; omega) | omega) [], s0, s1, rfl, rfl, ?_, ?_, ?_, ?_⟩⟩ <;> simp [newN, PN.stand]
    clear hn hd a0 a1 a2 a3 a4 e
    rintro k e h1 ⟨j, hj, hn, hd, e4, e11, e13, e14, e15, e65, e66, e67, x⟩
    cases k with
    | zero =>
      obtain rfl : j = bs.length := by omega
      simp (maxSteps := 1000000) (disch := first | (simp; done) | (simp only [IHeap.size_push', IHeap.size_set']; omega) | omega) [e4, e11, e13, e14, e15, e65, e66, e67, hn, hd]
      refine FN.of known_c ?_
      simp (maxSteps := 1000000) (disch := first | (simp; done) | (simp only [IHeap.size_push', IHeap.size_set']; omega) | omega) [hn, hd]
    | succ k =>
      have hlt : j < bs.length := by omega
      have hlt2 : (j : Int) < bs.length := by omega
      obtain ⟨i, o, ro, esz, cs, rfl, hrow, hcs⟩ := hb.get (j := j) (by simpa using hlt)
      have g1 := hcs j (.bool bs[j]) (by simp [hlt])
      have g2 : h1.get i = h.get i := by obtain ⟨_, _, _, _, _, _, _, _, x⟩ := x; exact x.old i (IHeap.get_lt hrow)
      rw [hrow] at g2
      simp (maxSteps := 1000000) (disch := first | (simp; done) | (simp only [IHeap.size_push', IHeap.size_set']; omega) | omega) [e4, e11, e13, e14, e15, e65, e66, e67, hn, hd, g2, g1, hlt2]
      refine WPL.by_inv mixed (by kernel_rfl) (fun k e h' => ∃ (m : Nat), m + k = 2 ∧ e.n = 188 ∧ e.dfr = [] ∧ e.get 4 = .slice R rs.length cap2 ∧
        e.get 11 = .pointer (some ⟨h.size + 1 + 1 + 1, 0, none⟩) ∧ e.get 13 = .pointer (some ⟨h.size + 1 + 1 + 1 + 1, 0, none⟩) ∧ e.get 14 = .pointer (some ⟨h.size + 1 + 1 + 1 + 1 + 1, 0, none⟩) ∧ e.get 15 = .pointer (some ⟨h.size + 1 + 1 + 1 + 1 + 1 + 1, 0, none⟩) ∧
        e.get 65 = .slice (some ⟨i, o, none⟩) bs.length cap ∧ e.get 66 = .int .i64 bs.length ∧ e.get 67 = .int .i64 j ∧ e.get 16 = .int .i64 j ∧ e.get 17 = .bool bs[j] ∧ e.get 72 = .int .i64 m ∧ TSE h h' (2 * j + m)) 2 ?_ ?_
      · refine ⟨0, ?_⟩
        simp (maxSteps := 1000000) (disch := first | (simp; done) | (simp only [IHeap.size_push', IHeap.size_set']; omega) | omega) [e4, e11, e13, e14, e15, e65, e66, e67, hn, hd]
        exact x
      obtain ⟨l, hl⟩ : ∃ l, bs[j] = l := ⟨_, rfl⟩
      rw [hl]
      clear hn hd e4 e11 e13 e14 e15 e65 e66 e67 e x g1 g2 hrow hcs h1 hb
      rintro k2 e h1 ⟨m, hmk, hn, hd, e4, e11, e13, e14, e15, e65, e66, e67, e16, e17, e72, x⟩
      have hm3 : m = 2 ∨ m = 0 ∨ m = 1 := by omega
      rcases hm3 with rfl | rfl | rfl
      · simp (maxSteps := 1000000) (disch := first | (simp; done) | (simp only [IHeap.size_push', IHeap.size_set']; omega) | omega) [e4, e11, e13, e14, e15, e65, e66, e67, e16, e17, e72, hn, hd]
        obtain rfl : k2 = 0 := by omega
        refine ⟨k, by omega, j + 1, by omega, by omega, ?_⟩
        rw [show (2 : Int) * ((j + 1 : Nat) : Int) = 2 * j + (2 : Nat) by push_cast; omega]
        exact x

      · have e2 : ((0 : Nat) : Int) = 0 := rfl
        rw [e2] at e72 x
        try rw [Int.add_zero] at x
        obtain ⟨A1, B1, w0, w1, t0, t1, d0, d1, x⟩ := x
        rw [WP_seq (Q := _)]
        simp (maxSteps := 1000000) (disch := first | (simp; done) | (simp only [IHeap.size_push', IHeap.size_set']; omega) | omega) [-WP_seq, e4, e11, e13, e14, e15, e65, e66, e67, e16, e17, e72, hn, hd]
        rw [WP_seq (Q := _)]
        simp (maxSteps := 1000000) (disch := first | (simp; done) | (simp only [IHeap.size_push', IHeap.size_set']; omega) | omega) [-WP_seq, e4, e11, e13, e14, e15, e65, e66, e67, e16, e17, e72, hn, hd]
        rw [WP_seq (Q := _)]
        simp (maxSteps := 1000000) (disch := first | (simp; done) | (simp only [IHeap.size_push', IHeap.size_set']; omega) | omega) [-WP_seq, e4, e11, e13, e14, e15, e65, e66, e67, e16, e17, e72, hn, hd]
        refine WP.cut2 (fun e h' => e.n = 188 ∧ e.dfr = [] ∧ e.get 4 = .slice R rs.length cap2 ∧
          e.get 11 = .pointer (some ⟨h.size + 1 + 1 + 1, 0, none⟩) ∧ e.get 13 = .pointer (some ⟨h.size + 1 + 1 + 1 + 1, 0, none⟩) ∧ e.get 14 = .pointer (some ⟨h.size + 1 + 1 + 1 + 1 + 1, 0, none⟩) ∧ e.get 15 = .pointer (some ⟨h.size + 1 + 1 + 1 + 1 + 1 + 1, 0, none⟩) ∧
          e.get 65 = .slice (some ⟨i, o, none⟩) bs.length cap ∧ e.get 66 = .int .i64 bs.length ∧ e.get 67 = .int .i64 j ∧ e.get 16 = .int .i64 j ∧ e.get 17 = .bool l ∧ e.get 72 = .int .i64 0 ∧ e.get 18 = .int .i64 0 ∧ TSE h h' (2 * j + 0)) ?_ ?_
        · by_cases g1 : j < rs.length
          · have g1' : (j : Int) < rs.length := by omega
            obtain ⟨i2, o2, ro2, esz2, cs2, rfl, hrow2, hcs2⟩ := hr.get (j := j) (by simpa using g1)
            have g3 := hcs2 j (.int .u8 rs[j]) (by simp [g1])
            have g4 : h1.get i2 = some (.row ro2 esz2 cs2) := by rw [x.old i2 (IHeap.get_lt hrow2)]; exact hrow2
            have g5 := hrb rs[j] (List.getElem_mem g1)
            by_cases g2 : rs[j] = 1
            · simp (maxSteps := 1000000) (disch := first | (simp; done) | (simp only [IHeap.size_push', IHeap.size_set']; omega) | omega) [e4, e11, e13, e14, e15, e65, e66, e67, e16, e17, e72, hn, hd, g1, g1', g2, g3, g4, x.n]
              refine FN.ct (resign_c x.okA.tost x.a) fun h2 fr => ?_
              have x2 := x.setA fr (Int.le_refl _) x.okA.resign (PN.resign_num _) (by rw [PN.resign_known]; exact Int.le_refl _)
              have x2z := x2.sz
              have x2n := x2.n
              have x2b := x2.b
              have x2d := x2.d
              have num := x.nA
              cases hact : A1.act with
              | false =>
                simp (maxSteps := 1000000) (disch := first | (simp; done) | (simp only [IHeap.size_push', IHeap.size_set']; omega) | omega) [e4, e11, e13, e14, e15, e65, e66, e67, e16, e17, e72, hn, hd, PN.res, hact, noAdv, undef]
                exact ⟨_, _, _, _, _, _, _, _, x2.push _⟩
              | true =>
                cases l with
                | true =>
                  simp (maxSteps := 1000000) (disch := first | (simp; done) | (simp only [IHeap.size_push', IHeap.size_set']; omega) | omega) [e4, e11, e13, e14, e15, e65, e66, e67, e16, e17, e72, hn, hd, PN.res, hact, noAdv, undef, num]
                  exact ⟨_, _, _, _, _, _, _, _, x2.push _⟩
                | false =>
                  simp (maxSteps := 1000000) (disch := first | (simp; done) | (simp only [IHeap.size_push', IHeap.size_set']; omega) | omega) [e4, e11, e13, e14, e15, e65, e66, e67, e16, e17, e72, hn, hd, PN.res, hact, noAdv, undef, num, x2n]
                  have hc := hear_c (h := h2.push (.row false 0 [.int .i64 0, .int .i64 0, .int .u64 A1.term])) (p := h.size + 2) (n := B1) 0 A1.term x.okB.tost (by omega) (by rw [IHeap.get_push_ne _ (by omega)]; exact x2b)
                  have e9 : (1 : Int) - B1.num = 0 := by rw [x.nB]; rfl
                  rw [e9] at hc
                  refine FN.ct hc fun h3 fr3 => ?_
                  have x3 := (x2.push _).setB fr3 (Int.le_refl _) (x.okB.hear (a := ⟨0, 0, A1.term⟩) x.okA.term.2) (PN.hear_num _ _) (by rw [PN.hear_known]; omega)
                  have x3d := x3.d
                  have fz := fr3.size
                  rw [IHeap.size_push] at fz
                  have g9 : h3.get h2.size = some (.row false 0 [.int .i64 0, .int .i64 0, .int .u64 A1.term]) := by
                    rw [fr3.get _ (by simp), getU_ne _ (by omega), getU_nil, IHeap.get_pushed _ rfl]
                  simp (maxSteps := 1000000) (disch := first | (simp; done) | (simp only [IHeap.size_push', IHeap.size_set']; omega) | omega) [e4, e11, e13, e14, e15, e65, e66, e67, e16, e17, e72, hn, hd, undef, x3d, g9]
                  refine ⟨niC_of (by kernel_rfl), niC_of (by kernel_rfl), _, _, _, _, _, _, _, _, x3.setD d0 (if d1 < A1.term then A1.term else d1) x3.dA ?_⟩
                  have := x.dA
                  have := x.dB
                  have := x.okA.term
                  rw [PN.hear_known]
                  dsimp only
                  split <;> omega
            · simp (maxSteps := 1000000) (disch := first | (simp; done) | (simp only [IHeap.size_push', IHeap.size_set']; omega) | omega) [e4, e11, e13, e14, e15, e65, e66, e67, e16, e17, e72, hn, hd, g1, g1', g2, g3, g4]
              exact ⟨A1, B1, w0, w1, t0, t1, d0, d1, x⟩
          · have g1' : ¬ (j : Int) < rs.length := by omega
            simp (maxSteps := 1000000) (disch := first | (simp; done) | (simp only [IHeap.size_push', IHeap.size_set']; omega) | omega) [e4, e11, e13, e14, e15, e65, e66, e67, e16, e17, e72, hn, hd, g1, g1', undef]
            exact ⟨A1, B1, w0, w1, t0, t1, d0, d1, x⟩
        clear hn hd e4 e11 e13 e14 e15 e65 e66 e67 e16 e17 e72 e x h1 A1 B1 w0 w1 t0 t1 d0 d1
        rintro e h1 ⟨hn, hd, e4, e11, e13, e14, e15, e65, e66, e67, e16, e17, e72, e18, x⟩
        try rw [Int.add_zero] at x
        obtain ⟨A1, B1, w0, w1, t0, t1, d0, d1, x⟩ := x
        have xn := x.n
        have xw := x.w
        have xz := x.sz
        rw [WP_seq (Q := _)]
        simp (maxSteps := 1000000) (disch := first | (simp; done) | (simp only [IHeap.size_push', IHeap.size_set']; omega) | omega) [-WP_seq, e4, e11, e13, e14, e15, e65, e66, e67, e16, e17, e72, e18, hn, hd, xn]
        refine FN.of (active_c x.okA.tost x.a) ?_
        simp (maxSteps := 1000000) (disch := first | (simp; done) | (simp only [IHeap.size_push', IHeap.size_set']; omega) | omega) [-WP_seq, e4, e11, e13, e14, e15, e65, e66, e67, e16, e17, e72, e18, hn, hd, xn, xw]
        have x2 := x.setW A1.act w1
        have x2n := x2.n
        rw [WP_seq (Q := _)]
        simp (maxSteps := 1000000) (disch := first | (simp; done) | (simp only [IHeap.size_push', IHeap.size_set']; omega) | omega) [-WP_seq, e4, e11, e13, e14, e15, e65, e66, e67, e16, e17, e72, e18, hn, hd, x2n]
        have adv : ∃ n pr tm, (if A1.says then A1.next.adv else noAdv) = .agg #[.int .i64 n, .int .i64 pr, .int .u64 tm] ∧ (A1.says = true → n = 0 ∧ (0 ≤ pr ∧ pr ≤ 254) ∧ 0 ≤ tm ∧ tm ≤ A1.next.term) := by
          by_cases hs : A1.says = true
          · refine ⟨_, _, _, by rw [if_pos hs]; rfl, fun _ => ⟨by rw [PN.next_num]; exact x.nA, by have := x.okA.next.pri; omega, x.okA.next.term.1, Int.le_refl _⟩⟩
          · exact ⟨0, 0, 0, by rw [if_neg hs]; rfl, fun h => absurd h hs⟩
        obtain ⟨an, ap, at', adv, advh⟩ := adv
        have tk := tick_c (by omega) x2.okA x2.a
        rw [adv] at tk
        refine FN.ct tk fun h3 fr3 => ?_
        have x3 := x2.setA fr3 (show (_ : Int) ≤ _ + 1 by omega) x2.okA.next (PN.next_num _) PN.next_known.1
        obtain ⟨s, hs⟩ : ∃ s, A1.says = s := ⟨_, rfl⟩
        rw [hs] at advh
        simp (maxSteps := 1000000) (disch := first | (simp; done) | (simp only [IHeap.size_push', IHeap.size_set']; omega) | omega) [-WP_seq, e4, e11, e13, e14, e15, e65, e66, e67, e16, e17, e72, e18, hn, hd, x2n, hs]
        refine WP.cut1 (fun e h' => e.n = 188 ∧ e.dfr = [] ∧ e.get 4 = .slice R rs.length cap2 ∧
          e.get 11 = .pointer (some ⟨h.size + 1 + 1 + 1, 0, none⟩) ∧ e.get 13 = .pointer (some ⟨h.size + 1 + 1 + 1 + 1, 0, none⟩) ∧ e.get 14 = .pointer (some ⟨h.size + 1 + 1 + 1 + 1 + 1, 0, none⟩) ∧ e.get 15 = .pointer (some ⟨h.size + 1 + 1 + 1 + 1 + 1 + 1, 0, none⟩) ∧
          e.get 65 = .slice (some ⟨i, o, none⟩) bs.length cap ∧ e.get 66 = .int .i64 bs.length ∧ e.get 67 = .int .i64 j ∧ e.get 16 = .int .i64 j ∧ e.get 17 = .bool l ∧ e.get 72 = .int .i64 0 ∧ e.get 18 = .int .i64 0 ∧ e.get 22 = .bool s ∧ e.get 21 = .pointer (some ⟨h3.size, 0, none⟩) ∧ TSM h h' (2 * j + 1) 0 h3.size s) ?_ ?_
        · have x4 := x3.push (.row false 0 [.int .i64 an, .int .i64 ap, .int .u64 at'])
          have x3n := x3.n
          have x3w := x3.w
          have x3t := x3.t
          have x3d := x3.d
          have x3z := x3.sz
          have tsm : TSM h (h3.push (.row false 0 [.int .i64 an, .int .i64 ap, .int .u64 at'])) (2 * j + 1) 0 h3.size s := by
            refine ⟨⟨_, _, _, _, _, _, _, _, by have := x4; rw [show (2 * (j : Int) : Int) + 1 = 2 * j + 1 by omega] at this; exact this⟩, x3z, _, _, _, IHeap.get_pushed _ rfl, fun hs => ?_⟩
            obtain ⟨y1, y2, y3, y4⟩ := advh hs
            refine ⟨y1, y2, y3, ?_⟩
            have := x3.okA.term.2
            omega
          simp (maxSteps := 1000000) (disch := first | (simp; done) | (simp only [IHeap.size_push', IHeap.size_set']; omega) | omega) [e4, e11, e13, e14, e15, e65, e66, e67, e16, e17, e72, e18, hn, hd, x3n]
          refine FN.of (active_c x3.okA.tost (by simp (maxSteps := 1000000) (disch := first | (simp; done) | (simp only [IHeap.size_push', IHeap.size_set']; omega) | omega) [x3.a])) ?_
          cases hact : A1.next.act with
          | false =>
            simp (maxSteps := 1000000) (disch := first | (simp; done) | (simp only [IHeap.size_push', IHeap.size_set']; omega) | omega) [e4, e11, e13, e14, e15, e65, e66, e67, e16, e17, e72, e18, hn, hd, x3n, undef, tsm]
          | true =>
            cases hwas : A1.act with
            | true =>
              simp (maxSteps := 1000000) (disch := first | (simp; done) | (simp only [IHeap.size_push', IHeap.size_set']; omega) | omega) [e4, e11, e13, e14, e15, e65, e66, e67, e16, e17, e72, e18, hn, hd, x3n, undef, tsm, x3w, hwas]
            | false =>
              obtain ⟨nt, nk⟩ := PN.next_known.2 hact hwas
              have y1 := x.tA
              have y2 := x.dA
              have y3 : ¬ A1.next.term ≤ t0 := by omega
              have y4 : ¬ A1.next.term ≤ d0 := by omega
              simp (maxSteps := 1000000) (disch := first | (simp; done) | (simp only [IHeap.size_push', IHeap.size_set']; omega) | omega) [e4, e11, e13, e14, e15, e65, e66, e67, e16, e17, e72, e18, hn, hd, x3n, x3w, hwas]
              refine FN.of (term_c x3.okA.tost (by simp (maxSteps := 1000000) (disch := first | (simp; done) | (simp only [IHeap.size_push', IHeap.size_set']; omega) | omega) [x3.a])) ?_
              simp (maxSteps := 1000000) (disch := first | (simp; done) | (simp only [IHeap.size_push', IHeap.size_set']; omega) | omega) [e4, e11, e13, e14, e15, e65, e66, e67, e16, e17, e72, e18, hn, hd, x3n, x3w, x3t, hwas, y3]
              refine FN.of (term_c x3.okA.tost (by simp (maxSteps := 1000000) (disch := first | (simp; done) | (simp only [IHeap.size_push', IHeap.size_set']; omega) | omega) [x3.a])) ?_
              simp (maxSteps := 1000000) (disch := first | (simp; done) | (simp only [IHeap.size_push', IHeap.size_set']; omega) | omega) [e4, e11, e13, e14, e15, e65, e66, e67, e16, e17, e72, e18, hn, hd, x3n, x3w, x3t, x3d, hwas, y3, y4]
              refine ⟨niC_pend [(3, 6), (12, 15)] (by kernel_rfl) ⟨rfl, rfl, trivial⟩, ?_⟩
              refine FN.of (term_c x3.okA.tost (by simp (maxSteps := 1000000) (disch := first | (simp; done) | (simp only [IHeap.size_push', IHeap.size_set']; omega) | omega) [x3.a])) ?_
              simp (maxSteps := 1000000) (disch := first | (simp; done) | (simp only [IHeap.size_push', IHeap.size_set']; omega) | omega) [e4, e11, e13, e14, e15, e65, e66, e67, e16, e17, e72, e18, hn, hd, x3n, x3w, x3t, x3d, hwas, y3, y4]
              have y5 := x3.okA.term
              have y6 := x.okA.known
              have x5 := (x3.setT A1.next.term t1 ⟨by omega, by omega⟩ x3.tB).push (.row false 0 [.int .i64 an, .int .i64 ap, .int .u64 at'])
              refine ⟨⟨_, _, _, _, _, _, _, _, by have := x5; rw [show (2 * (j : Int) : Int) + 1 = 2 * j + 1 by omega] at this; exact this⟩, x3z, _, _, _, IHeap.get_pushed _ (by rw [IHeap.size_set']), fun hs => ?_⟩
              obtain ⟨z1, z2, z3, z4⟩ := advh hs
              exact ⟨z1, z2, z3, by omega⟩
        clear hn hd e4 e11 e13 e14 e15 e65 e66 e67 e16 e17 e72 e18 e x h1 xn xw xz x2 x2n adv advh tk fr3 x3 hs A1 B1 w0 w1 t0 t1 d0 d1
        rintro e h1 ⟨hn, hd, e4, e11, e13, e14, e15, e65, e66, e67, e16, e17, e72, e18, e22, e21, x, z1, an, ap, at', z2, advh⟩
        obtain ⟨A1, B1, w0, w1, t0, t1, d0, d1, x⟩ := x
        have xn := x.n
        cases s with
        | false =>
          simp (maxSteps := 1000000) (disch := first | (simp; done) | (simp only [IHeap.size_push', IHeap.size_set']; omega) | omega) [e4, e11, e13, e14, e15, e65, e66, e67, e16, e17, e72, e18, e22, e21, hn, hd, undef]
          exact ⟨k2 - 1, by omega, 1, by omega, by omega, ⟨_, _, _, _, _, _, _, _, x⟩⟩
        | true =>
          obtain ⟨y1, y2, y3, y4⟩ := advh rfl
          subst y1
          cases l with
          | true =>
            simp (maxSteps := 1000000) (disch := first | (simp; done) | (simp only [IHeap.size_push', IHeap.size_set']; omega) | omega) [e4, e11, e13, e14, e15, e65, e66, e67, e16, e17, e72, e18, e22, e21, hn, hd, undef]
            exact ⟨k2 - 1, by omega, 1, by omega, by omega, ⟨_, _, _, _, _, _, _, _, x⟩⟩
          | false =>
            simp (maxSteps := 1000000) (disch := first | (simp; done) | (simp only [IHeap.size_push', IHeap.size_set']; omega) | omega) [e4, e11, e13, e14, e15, e65, e66, e67, e16, e17, e72, e18, e22, e21, hn, hd, undef, xn, z2]
            have hc := hear_c (p := h.size + 2) (n := B1) ap at' x.okB.tost y2 x.b
            have e9 : (1 : Int) - B1.num = 0 := by rw [x.nB]; rfl
            rw [e9] at hc
            refine FN.ct hc fun h4 fr4 => ?_
            have x4 := x.setB fr4 (Int.le_refl _) (x.okB.hear (a := ⟨0, ap, at'⟩) y4) (PN.hear_num _ _) (by rw [PN.hear_known]; omega)
            have x4d := x4.d
            have fz := fr4.size
            have z3 := IHeap.get_lt z2
            have g9 : h4.get h3.size = some (.row false 0 [.int .i64 0, .int .i64 ap, .int .u64 at']) := by
              rw [fr4.get _ z3, getU_ne _ (by omega), getU_nil, z2]
            simp (maxSteps := 1000000) (disch := first | (simp; done) | (simp only [IHeap.size_push', IHeap.size_set']; omega) | omega) [e4, e11, e13, e14, e15, e65, e66, e67, e16, e17, e72, e18, e22, e21, hn, hd, undef, x4d, g9]
            refine ⟨niC_of (by kernel_rfl), niC_of (by kernel_rfl), k2 - 1, by omega, 1, by omega, by omega, _, _, _, _, _, _, _, _, x4.setD d0 (if d1 < at' then at' else d1) x4.dA ?_⟩
            have := x.dA
            have := x.dB
            rw [PN.hear_known]
            dsimp only
            split <;> omega

      · have e2 : ((1 : Nat) : Int) = 1 := rfl
        rw [e2] at e72 x
        try rw [Int.add_zero] at x
        obtain ⟨A1, B1, w0, w1, t0, t1, d0, d1, x⟩ := x
        rw [WP_seq (Q := _)]
        simp (maxSteps := 1000000) (disch := first | (simp; done) | (simp only [IHeap.size_push', IHeap.size_set']; omega) | omega) [-WP_seq, e4, e11, e13, e14, e15, e65, e66, e67, e16, e17, e72, hn, hd]
        rw [WP_seq (Q := _)]
        simp (maxSteps := 1000000) (disch := first | (simp; done) | (simp only [IHeap.size_push', IHeap.size_set']; omega) | omega) [-WP_seq, e4, e11, e13, e14, e15, e65, e66, e67, e16, e17, e72, hn, hd]
        rw [WP_seq (Q := _)]
        simp (maxSteps := 1000000) (disch := first | (simp; done) | (simp only [IHeap.size_push', IHeap.size_set']; omega) | omega) [-WP_seq, e4, e11, e13, e14, e15, e65, e66, e67, e16, e17, e72, hn, hd]
        refine WP.cut2 (fun e h' => e.n = 188 ∧ e.dfr = [] ∧ e.get 4 = .slice R rs.length cap2 ∧
          e.get 11 = .pointer (some ⟨h.size + 1 + 1 + 1, 0, none⟩) ∧ e.get 13 = .pointer (some ⟨h.size + 1 + 1 + 1 + 1, 0, none⟩) ∧ e.get 14 = .pointer (some ⟨h.size + 1 + 1 + 1 + 1 + 1, 0, none⟩) ∧ e.get 15 = .pointer (some ⟨h.size + 1 + 1 + 1 + 1 + 1 + 1, 0, none⟩) ∧
          e.get 65 = .slice (some ⟨i, o, none⟩) bs.length cap ∧ e.get 66 = .int .i64 bs.length ∧ e.get 67 = .int .i64 j ∧ e.get 16 = .int .i64 j ∧ e.get 17 = .bool l ∧ e.get 72 = .int .i64 1 ∧ e.get 18 = .int .i64 1 ∧ TSE h h' (2 * j + 1)) ?_ ?_
        · by_cases g1 : j < rs.length
          · have g1' : (j : Int) < rs.length := by omega
            obtain ⟨i2, o2, ro2, esz2, cs2, rfl, hrow2, hcs2⟩ := hr.get (j := j) (by simpa using g1)
            have g3 := hcs2 j (.int .u8 rs[j]) (by simp [g1])
            have g4 : h1.get i2 = some (.row ro2 esz2 cs2) := by rw [x.old i2 (IHeap.get_lt hrow2)]; exact hrow2
            have g5 := hrb rs[j] (List.getElem_mem g1)
            by_cases g2 : rs[j] = 2
            · simp (maxSteps := 1000000) (disch := first | (simp; done) | (simp only [IHeap.size_push', IHeap.size_set']; omega) | omega) [e4, e11, e13, e14, e15, e65, e66, e67, e16, e17, e72, hn, hd, g1, g1', g2, g3, g4, x.n]
              refine FN.ct (resign_c x.okB.tost x.b) fun h2 fr => ?_
              have x2 := x.setB fr (Int.le_refl _) x.okB.resign (PN.resign_num _) (by rw [PN.resign_known]; exact Int.le_refl _)
              have x2z := x2.sz
              have x2n := x2.n
              have x2b := x2.a
              have x2d := x2.d
              have num := x.nB
              cases hact : B1.act with
              | false =>
                simp (maxSteps := 1000000) (disch := first | (simp; done) | (simp only [IHeap.size_push', IHeap.size_set']; omega) | omega) [e4, e11, e13, e14, e15, e65, e66, e67, e16, e17, e72, hn, hd, PN.res, hact, noAdv, undef]
                exact ⟨_, _, _, _, _, _, _, _, x2.push _⟩
              | true =>
                cases l with
                | true =>
                  simp (maxSteps := 1000000) (disch := first | (simp; done) | (simp only [IHeap.size_push', IHeap.size_set']; omega) | omega) [e4, e11, e13, e14, e15, e65, e66, e67, e16, e17, e72, hn, hd, PN.res, hact, noAdv, undef, num]
                  exact ⟨_, _, _, _, _, _, _, _, x2.push _⟩
                | false =>
                  simp (maxSteps := 1000000) (disch := first | (simp; done) | (simp only [IHeap.size_push', IHeap.size_set']; omega) | omega) [e4, e11, e13, e14, e15, e65, e66, e67, e16, e17, e72, hn, hd, PN.res, hact, noAdv, undef, num, x2n]
                  have hc := hear_c (h := h2.push (.row false 0 [.int .i64 1, .int .i64 0, .int .u64 B1.term])) (p := h.size + 1) (n := A1) 0 B1.term x.okA.tost (by omega) (by rw [IHeap.get_push_ne _ (by omega)]; exact x2b)
                  have e9 : (1 : Int) - A1.num = 1 := by rw [x.nA]; rfl
                  rw [e9] at hc
                  refine FN.ct hc fun h3 fr3 => ?_
                  have x3 := (x2.push _).setA fr3 (Int.le_refl _) (x.okA.hear (a := ⟨1, 0, B1.term⟩) x.okB.term.2) (PN.hear_num _ _) (by rw [PN.hear_known]; omega)
                  have x3d := x3.d
                  have fz := fr3.size
                  rw [IHeap.size_push] at fz
                  have g9 : h3.get h2.size = some (.row false 0 [.int .i64 1, .int .i64 0, .int .u64 B1.term]) := by
                    rw [fr3.get _ (by simp), getU_ne _ (by omega), getU_nil, IHeap.get_pushed _ rfl]
                  simp (maxSteps := 1000000) (disch := first | (simp; done) | (simp only [IHeap.size_push', IHeap.size_set']; omega) | omega) [e4, e11, e13, e14, e15, e65, e66, e67, e16, e17, e72, hn, hd, undef, x3d, g9]
                  refine ⟨niC_of (by kernel_rfl), niC_of (by kernel_rfl), _, _, _, _, _, _, _, _, x3.setD (if d0 < B1.term then B1.term else d0) d1 ?_ x3.dB⟩
                  have := x.dA
                  have := x.dB
                  have := x.okB.term
                  rw [PN.hear_known]
                  dsimp only
                  split <;> omega
            · simp (maxSteps := 1000000) (disch := first | (simp; done) | (simp only [IHeap.size_push', IHeap.size_set']; omega) | omega) [e4, e11, e13, e14, e15, e65, e66, e67, e16, e17, e72, hn, hd, g1, g1', g2, g3, g4]
              exact ⟨A1, B1, w0, w1, t0, t1, d0, d1, x⟩
          · have g1' : ¬ (j : Int) < rs.length := by omega
            simp (maxSteps := 1000000) (disch := first | (simp; done) | (simp only [IHeap.size_push', IHeap.size_set']; omega) | omega) [e4, e11, e13, e14, e15, e65, e66, e67, e16, e17, e72, hn, hd, g1, g1', undef]
            exact ⟨A1, B1, w0, w1, t0, t1, d0, d1, x⟩
        clear hn hd e4 e11 e13 e14 e15 e65 e66 e67 e16 e17 e72 e x h1 A1 B1 w0 w1 t0 t1 d0 d1
        rintro e h1 ⟨hn, hd, e4, e11, e13, e14, e15, e65, e66, e67, e16, e17, e72, e18, x⟩
        try rw [Int.add_zero] at x
        obtain ⟨A1, B1, w0, w1, t0, t1, d0, d1, x⟩ := x
        have xn := x.n
        have xw := x.w
        have xz := x.sz
        rw [WP_seq (Q := _)]
        simp (maxSteps := 1000000) (disch := first | (simp; done) | (simp only [IHeap.size_push', IHeap.size_set']; omega) | omega) [-WP_seq, e4, e11, e13, e14, e15, e65, e66, e67, e16, e17, e72, e18, hn, hd, xn]
        refine FN.of (active_c x.okB.tost x.b) ?_
        simp (maxSteps := 1000000) (disch := first | (simp; done) | (simp only [IHeap.size_push', IHeap.size_set']; omega) | omega) [-WP_seq, e4, e11, e13, e14, e15, e65, e66, e67, e16, e17, e72, e18, hn, hd, xn, xw]
        have x2 := x.setW w0 B1.act
        have x2n := x2.n
        rw [WP_seq (Q := _)]
        simp (maxSteps := 1000000) (disch := first | (simp; done) | (simp only [IHeap.size_push', IHeap.size_set']; omega) | omega) [-WP_seq, e4, e11, e13, e14, e15, e65, e66, e67, e16, e17, e72, e18, hn, hd, x2n]
        have adv : ∃ n pr tm, (if B1.says then B1.next.adv else noAdv) = .agg #[.int .i64 n, .int .i64 pr, .int .u64 tm] ∧ (B1.says = true → n = 1 ∧ (0 ≤ pr ∧ pr ≤ 254) ∧ 0 ≤ tm ∧ tm ≤ B1.next.term) := by
          by_cases hs : B1.says = true
          · refine ⟨_, _, _, by rw [if_pos hs]; rfl, fun _ => ⟨by rw [PN.next_num]; exact x.nB, by have := x.okB.next.pri; omega, x.okB.next.term.1, Int.le_refl _⟩⟩
          · exact ⟨0, 0, 0, by rw [if_neg hs]; rfl, fun h => absurd h hs⟩
        obtain ⟨an, ap, at', adv, advh⟩ := adv
        have tk := tick_c (by omega) x2.okB x2.b
        rw [adv] at tk
        refine FN.ct tk fun h3 fr3 => ?_
        have x3 := x2.setB fr3 (show (_ : Int) ≤ _ + 1 by omega) x2.okB.next (PN.next_num _) PN.next_known.1
        obtain ⟨s, hs⟩ : ∃ s, B1.says = s := ⟨_, rfl⟩
        rw [hs] at advh
        simp (maxSteps := 1000000) (disch := first | (simp; done) | (simp only [IHeap.size_push', IHeap.size_set']; omega) | omega) [-WP_seq, e4, e11, e13, e14, e15, e65, e66, e67, e16, e17, e72, e18, hn, hd, x2n, hs]
        refine WP.cut1 (fun e h' => e.n = 188 ∧ e.dfr = [] ∧ e.get 4 = .slice R rs.length cap2 ∧
          e.get 11 = .pointer (some ⟨h.size + 1 + 1 + 1, 0, none⟩) ∧ e.get 13 = .pointer (some ⟨h.size + 1 + 1 + 1 + 1, 0, none⟩) ∧ e.get 14 = .pointer (some ⟨h.size + 1 + 1 + 1 + 1 + 1, 0, none⟩) ∧ e.get 15 = .pointer (some ⟨h.size + 1 + 1 + 1 + 1 + 1 + 1, 0, none⟩) ∧
          e.get 65 = .slice (some ⟨i, o, none⟩) bs.length cap ∧ e.get 66 = .int .i64 bs.length ∧ e.get 67 = .int .i64 j ∧ e.get 16 = .int .i64 j ∧ e.get 17 = .bool l ∧ e.get 72 = .int .i64 1 ∧ e.get 18 = .int .i64 1 ∧ e.get 22 = .bool s ∧ e.get 21 = .pointer (some ⟨h3.size, 0, none⟩) ∧ TSM h h' (2 * j + 2) 1 h3.size s) ?_ ?_
        · have x4 := x3.push (.row false 0 [.int .i64 an, .int .i64 ap, .int .u64 at'])
          have x3n := x3.n
          have x3w := x3.w
          have x3t := x3.t
          have x3d := x3.d
          have x3z := x3.sz
          have tsm : TSM h (h3.push (.row false 0 [.int .i64 an, .int .i64 ap, .int .u64 at'])) (2 * j + 2) 1 h3.size s := by
            refine ⟨⟨_, _, _, _, _, _, _, _, by have := x4; rw [show (2 * (j : Int) + 1 : Int) + 1 = 2 * j + 2 by omega] at this; exact this⟩, x3z, _, _, _, IHeap.get_pushed _ rfl, fun hs => ?_⟩
            obtain ⟨y1, y2, y3, y4⟩ := advh hs
            refine ⟨y1, y2, y3, ?_⟩
            have := x3.okB.term.2
            omega
          simp (maxSteps := 1000000) (disch := first | (simp; done) | (simp only [IHeap.size_push', IHeap.size_set']; omega) | omega) [e4, e11, e13, e14, e15, e65, e66, e67, e16, e17, e72, e18, hn, hd, x3n]
          refine FN.of (active_c x3.okB.tost (by simp (maxSteps := 1000000) (disch := first | (simp; done) | (simp only [IHeap.size_push', IHeap.size_set']; omega) | omega) [x3.b])) ?_
          cases hact : B1.next.act with
          | false =>
            simp (maxSteps := 1000000) (disch := first | (simp; done) | (simp only [IHeap.size_push', IHeap.size_set']; omega) | omega) [e4, e11, e13, e14, e15, e65, e66, e67, e16, e17, e72, e18, hn, hd, x3n, undef, tsm]
          | true =>
            cases hwas : B1.act with
            | true =>
              simp (maxSteps := 1000000) (disch := first | (simp; done) | (simp only [IHeap.size_push', IHeap.size_set']; omega) | omega) [e4, e11, e13, e14, e15, e65, e66, e67, e16, e17, e72, e18, hn, hd, x3n, undef, tsm, x3w, hwas]
            | false =>
              obtain ⟨nt, nk⟩ := PN.next_known.2 hact hwas
              have y1 := x.tB
              have y2 := x.dB
              have y3 : ¬ B1.next.term ≤ t1 := by omega
              have y4 : ¬ B1.next.term ≤ d1 := by omega
              simp (maxSteps := 1000000) (disch := first | (simp; done) | (simp only [IHeap.size_push', IHeap.size_set']; omega) | omega) [e4, e11, e13, e14, e15, e65, e66, e67, e16, e17, e72, e18, hn, hd, x3n, x3w, hwas]
              refine FN.of (term_c x3.okB.tost (by simp (maxSteps := 1000000) (disch := first | (simp; done) | (simp only [IHeap.size_push', IHeap.size_set']; omega) | omega) [x3.b])) ?_
              simp (maxSteps := 1000000) (disch := first | (simp; done) | (simp only [IHeap.size_push', IHeap.size_set']; omega) | omega) [e4, e11, e13, e14, e15, e65, e66, e67, e16, e17, e72, e18, hn, hd, x3n, x3w, x3t, hwas, y3]
              refine FN.of (term_c x3.okB.tost (by simp (maxSteps := 1000000) (disch := first | (simp; done) | (simp only [IHeap.size_push', IHeap.size_set']; omega) | omega) [x3.b])) ?_
              simp (maxSteps := 1000000) (disch := first | (simp; done) | (simp only [IHeap.size_push', IHeap.size_set']; omega) | omega) [e4, e11, e13, e14, e15, e65, e66, e67, e16, e17, e72, e18, hn, hd, x3n, x3w, x3t, x3d, hwas, y3, y4]
              refine ⟨niC_pend [(3, 6), (12, 15)] (by kernel_rfl) ⟨rfl, rfl, trivial⟩, ?_⟩
              refine FN.of (term_c x3.okB.tost (by simp (maxSteps := 1000000) (disch := first | (simp; done) | (simp only [IHeap.size_push', IHeap.size_set']; omega) | omega) [x3.b])) ?_
              simp (maxSteps := 1000000) (disch := first | (simp; done) | (simp only [IHeap.size_push', IHeap.size_set']; omega) | omega) [e4, e11, e13, e14, e15, e65, e66, e67, e16, e17, e72, e18, hn, hd, x3n, x3w, x3t, x3d, hwas, y3, y4]
              have y5 := x3.okB.term
              have y6 := x.okB.known
              have x5 := (x3.setT t0 B1.next.term x3.tA ⟨by omega, by omega⟩).push (.row false 0 [.int .i64 an, .int .i64 ap, .int .u64 at'])
              refine ⟨⟨_, _, _, _, _, _, _, _, by have := x5; rw [show (2 * (j : Int) + 1 : Int) + 1 = 2 * j + 2 by omega] at this; exact this⟩, x3z, _, _, _, IHeap.get_pushed _ (by rw [IHeap.size_set']), fun hs => ?_⟩
              obtain ⟨z1, z2, z3, z4⟩ := advh hs
              exact ⟨z1, z2, z3, by omega⟩
        clear hn hd e4 e11 e13 e14 e15 e65 e66 e67 e16 e17 e72 e18 e x h1 xn xw xz x2 x2n adv advh tk fr3 x3 hs A1 B1 w0 w1 t0 t1 d0 d1
        rintro e h1 ⟨hn, hd, e4, e11, e13, e14, e15, e65, e66, e67, e16, e17, e72, e18, e22, e21, x, z1, an, ap, at', z2, advh⟩
        obtain ⟨A1, B1, w0, w1, t0, t1, d0, d1, x⟩ := x
        have xn := x.n
        cases s with
        | false =>
          simp (maxSteps := 1000000) (disch := first | (simp; done) | (simp only [IHeap.size_push', IHeap.size_set']; omega) | omega) [e4, e11, e13, e14, e15, e65, e66, e67, e16, e17, e72, e18, e22, e21, hn, hd, undef]
          exact ⟨k2 - 1, by omega, 2, by omega, by omega, ⟨_, _, _, _, _, _, _, _, x⟩⟩
        | true =>
          obtain ⟨y1, y2, y3, y4⟩ := advh rfl
          subst y1
          cases l with
          | true =>
            simp (maxSteps := 1000000) (disch := first | (simp; done) | (simp only [IHeap.size_push', IHeap.size_set']; omega) | omega) [e4, e11, e13, e14, e15, e65, e66, e67, e16, e17, e72, e18, e22, e21, hn, hd, undef]
            exact ⟨k2 - 1, by omega, 2, by omega, by omega, ⟨_, _, _, _, _, _, _, _, x⟩⟩
          | false =>
            simp (maxSteps := 1000000) (disch := first | (simp; done) | (simp only [IHeap.size_push', IHeap.size_set']; omega) | omega) [e4, e11, e13, e14, e15, e65, e66, e67, e16, e17, e72, e18, e22, e21, hn, hd, undef, xn, z2]
            have hc := hear_c (p := h.size + 1) (n := A1) ap at' x.okA.tost y2 x.a
            have e9 : (1 : Int) - A1.num = 1 := by rw [x.nA]; rfl
            rw [e9] at hc
            refine FN.ct hc fun h4 fr4 => ?_
            have x4 := x.setA fr4 (Int.le_refl _) (x.okA.hear (a := ⟨1, ap, at'⟩) y4) (PN.hear_num _ _) (by rw [PN.hear_known]; omega)
            have x4d := x4.d
            have fz := fr4.size
            have z3 := IHeap.get_lt z2
            have g9 : h4.get h3.size = some (.row false 0 [.int .i64 1, .int .i64 ap, .int .u64 at']) := by
              rw [fr4.get _ z3, getU_ne _ (by omega), getU_nil, z2]
            simp (maxSteps := 1000000) (disch := first | (simp; done) | (simp only [IHeap.size_push', IHeap.size_set']; omega) | omega) [e4, e11, e13, e14, e15, e65, e66, e67, e16, e17, e72, e18, e22, e21, hn, hd, undef, x4d, g9]
            refine ⟨niC_of (by kernel_rfl), niC_of (by kernel_rfl), k2 - 1, by omega, 2, by omega, by omega, _, _, _, _, _, _, _, _, x4.setD (if d0 < at' then at' else d0) d1 ?_ x4.dB⟩
            have := x.dA
            have := x.dB
            rw [PN.hear_known]
            dsimp only
            split <;> omega

end Go.Proofs.Ythaegngkkannjaa.Ideal
