import Derived.Test.YthaegngkkannjaaP48d
noncomputable section
open Go.Proofs
namespace Go.Proofs.Ythaegngkkannjaa.Ideal
open Go.RowKit
set_option linter.unusedSimpArgs false
set_option linter.unusedVariables false
set_option maxRecDepth 100000
set_option maxHeartbeats 1000000
attribute [-simp] IHeap.size_set IHeap.size_push
attribute [local simp ↓] Hid.ap_mk
attribute [local simp] scopeQ_normal scopeQ_ret scopeQ_exit WP_skip WP_label WP_exit WP_goto WP_ret WP_region WP_seq WP_cond WP_block WP_scope WP_loop WP_range thenQ_normal thenQ_ret thenQ_exit thenQ_goto loopQ_normal loopQ_ret loopQ_exit invQ_normal invQ_ret invQ_exit outOf_normal outOf_ret outOf_goto outOf_exit ev_tmp ev_const ev_func
  wops_nil wops_cons wantedE_none wantedE_some jgd_some wnx_eq niC_false wdo_move wdo_assign wdo_pick wdo_load wdo_store wdo_alloc wdo_box wdo_fieldAddr wdo_indexAddr wdo_field wdo_extract wdo_build wdo_buildSlice wdo_makeSlice wdo_binOp wdo_unOp wdo_makeFunc wdo_nilCheck wdo_callV wdo_len wdo_append wdo_copy wdo_delete wdo_max wdo_min wdo_convert jcvt_int
  xput_get put_n put_none put_dfr ibin finQ_n finQ_r finD_nil splice_one ires_nil ires_one ires_two ires_three ires1_tmp ires1_cell jcell_ptr rowLoad_row wrap64 wrapU64 wrapU8 wrapU16 wrapU32 callV_fn buildOf Instr.fill Value.cells Value.oneCell' kindOf slots_all splice_all IHeap.size_set' IHeap.size_push' IHeap.get_set_same IHeap.get_set_ne IHeap.get_pushed IHeap.get_push_ne IHeap.set_set IHeap.set_push IHeap.set_pushed IHeap.set_set3 getU_nil getU_same getU_ne jif_true jif_false pushH_eq setH_eq forceL_eq forceV_eq ibuildSlice
/-- A slice argument of bools that lies in a heap. -/
def BoolsAt (h : IHeap) (A : Option Addr) (bs : List Bool) : Prop := bs ≠ [] → ∃ i o ro esz cs, A = some ⟨i, o, none⟩ ∧ h.get i = some (.row ro esz cs) ∧ ∀ (j : Nat) (b : Bool), bs[j]? = some b → cs[o + j]? = some (.bool b)
/-- Where both nodes lie, and what was there ahead. -/
structure At (h0 h : IHeap) (N P Q : Nat) (A B : PN) : Prop where
  np : N ≠ P
  nq : N ≠ Q
  pq : P ≠ Q
  nz : h0.size ≤ N
  pz : h0.size ≤ P
  qz : h0.size ≤ Q
  z : h0.size ≤ h.size
  n : h.get N = some (.row false 0 [.pointer (some ⟨P, 0, none⟩), .pointer (some ⟨Q, 0, none⟩)])
  a : h.get P = some A.obj
  b : h.get Q = some B.obj
  old : ∀ i, i < h0.size → h.get i = h0.get i
theorem At.fr {h0 h h' : IHeap} {N P Q : Nat} {A B A' B' : PN} (x : At h0 h N P Q A B) (f : Fr h h' [(P, A'.obj), (Q, B'.obj)]) : At h0 h' N P Q A' B' := by
  have z1 := IHeap.get_lt x.n
  have z2 := IHeap.get_lt x.a
  have z3 := IHeap.get_lt x.b
  refine ⟨x.np, x.nq, x.pq, x.nz, x.pz, x.qz, Nat.le_trans x.z f.size, ?_, ?_, ?_, fun i hi => ?_⟩
  · rw [f.get _ z1]; simp [getU, x.np, x.nq, x.n]
  · rw [f.get _ z2]; simp [getU]
  · rw [f.get _ z3]; simp [getU, Ne.symm x.pq]
  · rw [f.get _ (Nat.lt_of_lt_of_le hi x.z)]
    have := x.pz
    have := x.qz
    simp [getU, show i ≠ P by omega, show i ≠ Q by omega, x.old i hi]
theorem rnd_ok {A B : PN} {K : Int} (lost : Bool) (okA : A.ok K) (okB : B.ok K) : (rnd A B lost).1.ok (K + 2) ∧ (rnd A B lost).2.ok (K + 2) := by
  have h1 : ∀ {X Y : PN} {K : Int}, X.ok K → Y.ok K → (half X Y lost).1.ok (K + 1) ∧ (half X Y lost).2.ok (K + 1) := by
    intro X Y K okX okY
    refine ⟨okX.next, ?_⟩
    unfold half; dsimp only
    split
    · exact PN.ok.hear (okY.mono (by omega)) okX.next.term.2
    · exact okY.mono (by omega)
  obtain ⟨a1, a2⟩ := h1 okA okB
  obtain ⟨b1, b2⟩ := h1 a2 a1
  exact ⟨b2.mono (by omega), b1.mono (by omega)⟩
theorem runs_ok {A B : PN} : ∀ {K : Int} (ls : List Bool), A.ok K → B.ok K → (runs A B ls).1.ok (K + 2 * ls.length) ∧ (runs A B ls).2.ok (K + 2 * ls.length) := by
  intro K ls
  induction ls generalizing A B K with
  | nil => intro h1 h2; simpa [runs] using ⟨h1, h2⟩
  | cons l ls ih =>
    intro h1 h2
    obtain ⟨a, b⟩ := rnd_ok l h1 h2
    have := ih a b
    simp only [runs, List.length_cons]
    push_cast
    rw [show K + 2 * ((ls.length : Int) + 1) = K + 2 + 2 * ls.length by omega]
    exact this
theorem runs_num {A B : PN} (hA : A.num = 0) (hB : B.num = 1) : ∀ ls : List Bool, (runs A B ls).1.num = 0 ∧ (runs A B ls).2.num = 1 := by
  have h1 : ∀ (X Y : PN) (l : Bool), (half X Y l).1.num = X.num ∧ (half X Y l).2.num = Y.num := by
    intro X Y l
    refine ⟨X.next_num, ?_⟩
    unfold half; dsimp only
    split
    · exact Y.hear_num _
    · rfl
  intro ls
  induction ls generalizing A B with
  | nil => exact ⟨hA, hB⟩
  | cons l ls ih =>
    have a := h1 A B l
    have b := h1 (half A B l).2 (half A B l).1 l
    exact ih (A := (rnd A B l).1) (B := (rnd A B l).2) (b.2.trans (a.1.trans hA)) (b.1.trans (a.2.trans hB))
theorem newN_ok {num pri itv : Int} {pre : Bool} (h : mayB num pri itv = true) : (newN num pri itv pre).ok 0 := by
  have s := newN_st (pre := pre) h
  have h2 := s.share
  have h3 := s.itv
  refine ⟨s, ?_, by simp [newN, PN.stand], by simp [newN, PN.stand]⟩
  simp only [newN, PN.stand, PN.share] at h2 h3 ⊢
  omega
/-- A round, at the place. -/
theorem round_at {h0 h : IHeap} {N P Q : Nat} {p q itv : Int} {a b : Bool} {ls : List Bool} {l : Bool} (m0 : mayB 0 p itv = true) (m1 : mayB 1 q itv = true) (hl : ls.length < 400000)
    (x : At h0 h N P Q (runs (newN 0 p itv a) (newN 1 q itv b) ls).1 (runs (newN 0 p itv a) (newN 1 q itv b) ls).2) :
    FN Try.prog 9 #[.agg #[.pointer (some ⟨P, 0, none⟩), .pointer (some ⟨Q, 0, none⟩)], .bool l] h (Q := ⟨fun v h' => v = .tuple #[] ∧ At h0 h' N P Q (runs (newN 0 p itv a) (newN 1 q itv b) (ls ++ [l])).1 (runs (newN 0 p itv a) (newN 1 q itv b) (ls ++ [l])).2⟩) := by
  obtain ⟨o1, o2⟩ := runs_ok ls (newN_ok (pre := a) m0) (newN_ok (pre := b) m1)
  obtain ⟨n1, n2⟩ := runs_num (A := newN 0 p itv a) (B := newN 1 q itv b) rfl rfl ls
  refine FN.mono (round_c l (by omega) x.pq o1 o2 n1 n2 x.a x.b) ?_
  rintro v h' ⟨rfl, f⟩
  refine ⟨rfl, ?_⟩
  rw [runs_snoc]
  exact x.fr f
theorem both_new {p q itv : Int} {a b : Bool} (m0 : mayB 0 p itv = true) (m1 : mayB 1 q itv = true) : Both itv p q a b (newN 0 p itv a) (newN 1 q itv b) := by
  have s0 := (newN_st (pre := a) m0)
  have s1 := (newN_st (pre := b) m1)
  have h0 := s0.share
  have h1 := s1.share
  have hi := s0.itv
  refine ⟨rfl, rfl, rfl, rfl, rfl, rfl, rfl, rfl, ⟨?_, fun h => by cases h⟩, ⟨?_, fun h => by cases h⟩⟩
  · show 1 ≤ 3 * itv + (newN 0 p itv a).share ∧ 3 * itv + (newN 0 p itv a).share ≤ 3 * itv + (newN 0 p itv a).share
    have : 1 ≤ itv := hi.1
    omega
  · show 1 ≤ 3 * itv + (newN 1 q itv b).share ∧ 3 * itv + (newN 1 q itv b).share ≤ 3 * itv + (newN 1 q itv b).share
    have : 1 ≤ itv := hi.1
    omega
theorem tail_good {I p q : Int} {a b : Bool} {A B : PN} (h : Both I p q a b A B) (hI : 1 ≤ I) (hp : 1 ≤ p ∧ p ≤ 254) (hq : 1 ≤ q ∧ q ≤ 254) {M : Nat} (hM : (M : Int) = 3 * I + 6) : ∀ j : Nat,
    Good a b (AB p 0 q 1) (runs A B (List.replicate (M + j) false)).1 (runs A B (List.replicate (M + j) false)).2 ∧ (runs A B (List.replicate (M + j) false)).1.act = (runs A B (List.replicate M false)).1.act
  | 0 => by
    refine ⟨good_comes h hI hp hq M ?_, rfl⟩
    by_cases c : Good a b (AB p 0 q 1) A B
    · exact .inr c
    · have sA := share_pos (n := A) (by rw [h.pA]; exact hp)
      have sB := share_pos (n := B) (by rw [h.pB]; exact hq)
      have := vmu_le hI sA.2 sB.2 h.vA h.vB c
      exact .inl (by omega)
  | j + 1 => by
    obtain ⟨g, e⟩ := tail_good h hI hp hq hM j
    rw [← Nat.add_assoc, List.replicate_succ', runs_snoc]
    obtain ⟨g2, e2⟩ := good_step (h.runs hI hp hq (List.replicate (M + j) false)) hI hp hq g
    exact ⟨g2, e2.trans e⟩
theorem good_acts {a b rk : Bool} {A B : PN} (g : Good a b rk A B) : B.act = !A.act ∧ (a = true → b = true → A.act = rk) := by
  rcases g with ⟨h1, h2, h3, _⟩ | ⟨h1, h2, h3, _⟩
  · have h1 : A.act = true := h1
    have h2 : B.act = false := h2
    refine ⟨by rw [h1, h2]; rfl, fun ha hb => ?_⟩
    rw [hb] at h3
    rw [h1]
    rcases h3 with h3 | h3
    · cases h3
    · exact h3.symm
  · have h1 : B.act = true := h1
    have h2 : A.act = false := h2
    refine ⟨by rw [h1, h2]; rfl, fun ha hb => ?_⟩
    rw [ha] at h3
    rw [h2]
    rcases h3 with h3 | h3
    · cases h3
    · exact h3.symm
theorem one_c {h : IHeap} {p q itv : Int} {a b : Bool} {A : Option Addr} {bs : List Bool} {cap : Nat} (hb : BoolsAt h A bs) :
    FN Try.prog 3 #[.int .i64 p, .int .i64 q, .int .i64 itv, .bool a, .bool b, .slice A bs.length cap] h (Q := ⟨fun v _ => v = .bool true⟩) := by
  refine FN.enter mixed (fn := Try.f3) (by kernel_rfl) rfl (by kernel_rfl) fun e hn hg hd => ?_
  simp [Try.f3] at hn
  have a0 : e.get 0 = .int .i64 p := hg 0 (by omega)
  have a1 : e.get 1 = .int .i64 q := hg 1 (by omega)
  have a2 : e.get 2 = .int .i64 itv := hg 2 (by omega)
  have a3 : e.get 3 = .bool a := hg 3 (by omega)
  have a4 : e.get 4 = .bool b := hg 4 (by omega)
  have a5 : e.get 5 = .slice A bs.length cap := hg 5 (by omega)
  clear hg
  by_cases c1 : 80 < bs.length
  · have c1' : (80 : Int) < bs.length := by omega
    simp (maxSteps := 1000000) (disch := first | (simp; done) | (simp only [IHeap.size_push', IHeap.size_set']; omega) | omega) [a0, a1, a2, a3, a4, a5, hn, hd, c1']
    refine FN.of known_c ?_
    simp (maxSteps := 1000000) (disch := first | (simp; done) | (simp only [IHeap.size_push', IHeap.size_set']; omega) | omega) [hn, hd]
  have c1' : ¬ (80 : Int) < bs.length := by omega
  by_cases c2 : 20 < itv
  · simp (maxSteps := 1000000) (disch := first | (simp; done) | (simp only [IHeap.size_push', IHeap.size_set']; omega) | omega) [a0, a1, a2, a3, a4, a5, hn, hd, c1', c2]
    refine FN.of known_c ?_
    simp (maxSteps := 1000000) (disch := first | (simp; done) | (simp only [IHeap.size_push', IHeap.size_set']; omega) | omega) [hn, hd]
  simp (maxSteps := 1000000) (disch := first | (simp; done) | (simp only [IHeap.size_push', IHeap.size_set']; omega) | omega) [a0, a1, a2, a3, a4, a5, hn, hd, c1', c2]
  cases hm : mayB 0 p itv && mayB 1 q itv with
  | false =>
    refine FN.mono (two_n hm) ?_
    rintro _ h1 ⟨c, d, rfl⟩
    simp (maxSteps := 1000000) (disch := first | (simp; done) | (simp only [IHeap.size_push', IHeap.size_set']; omega) | omega) [a0, a1, a2, a3, a4, a5, hn, hd]
    refine FN.of (may_c _ _ _) ?_
    cases m0 : mayB 0 p itv with
    | false =>
      simp (maxSteps := 1000000) (disch := first | (simp; done) | (simp only [IHeap.size_push', IHeap.size_set']; omega) | omega) [a0, a1, a2, a3, a4, a5, hn, hd]
      refine FN.of known_c ?_
      simp (maxSteps := 1000000) (disch := first | (simp; done) | (simp only [IHeap.size_push', IHeap.size_set']; omega) | omega) [hn, hd]
    | true =>
      simp [m0] at hm
      simp (maxSteps := 1000000) (disch := first | (simp; done) | (simp only [IHeap.size_push', IHeap.size_set']; omega) | omega) [a0, a1, a2, a3, a4, a5, hn, hd]
      refine FN.of (may_c _ _ _) ?_
      simp (maxSteps := 1000000) (disch := first | (simp; done) | (simp only [IHeap.size_push', IHeap.size_set']; omega) | omega) [a0, a1, a2, a3, a4, a5, hn, hd, hm]
      refine FN.of known_c ?_
      simp (maxSteps := 1000000) (disch := first | (simp; done) | (simp only [IHeap.size_push', IHeap.size_set']; omega) | omega) [hn, hd]
  | true =>
    simp only [Bool.and_eq_true] at hm
    obtain ⟨_, p2, p3, _, _⟩ := mayB_true.1 hm.1
    obtain ⟨_, q2, q3, _, _⟩ := mayB_true.1 hm.2
    obtain ⟨m1, m2, m3, m4, m5⟩ := mayB_true.1 hm.1
    refine FN.of (two_c hm.1 hm.2) ?_
    simp (maxSteps := 1000000) (disch := first | (simp; done) | (simp only [IHeap.size_push', IHeap.size_set']; omega) | omega) [a0, a1, a2, a3, a4, a5, hn, hd]
    refine WPL.by_inv mixed (by kernel_rfl) (fun k e h' => ∃ j, j + k = bs.length ∧ e.n = 111 ∧ e.dfr = [] ∧ e.get 0 = .int .i64 p ∧ e.get 1 = .int .i64 q ∧ e.get 2 = .int .i64 itv ∧ e.get 3 = .bool a ∧ e.get 4 = .bool b ∧
      e.get 13 = .pointer (some ⟨h.size + 1 + 1 + 1, 0, none⟩) ∧ e.get 50 = .slice A bs.length cap ∧ e.get 51 = .int .i64 bs.length ∧ e.get 52 = .int .i64 j ∧ At h h' (h.size + 1 + 1 + 1) (h.size + 1) (h.size + 2) (runs (newN 0 p itv a) (newN 1 q itv b) (bs.take j)).1 (runs (newN 0 p itv a) (newN 1 q itv b) (bs.take j)).2) bs.length ?_ ?_
    · refine ⟨0, ?_⟩
      simp (maxSteps := 1000000) (disch := first | (simp; done) | (simp only [IHeap.size_push', IHeap.size_set']; omega) | omega) [a0, a1, a2, a3, a4, a5, hn, hd, runs]
      refine ⟨by omega, by omega, by omega, by omega, by omega, by omega, by simp (maxSteps := 1000000) (disch := first | (simp; done) | (simp only [IHeap.size_push', IHeap.size_set']; omega) | omega) [] <;> omega, by simp (maxSteps := 1000000) (disch := first | (simp; done) | (simp only [IHeap.size_push', IHeap.size_set']; omega) | omega) [], by simp (maxSteps := 1000000) (disch := first | (simp; done) | (simp only [IHeap.size_push', IHeap.size_set']; omega) | omega) [], by simp (maxSteps := 1000000) (disch := first | (simp; done) | (simp only [IHeap.size_push', IHeap.size_set']; omega) | omega) [], fun i hi => by simp (maxSteps := 1000000) (disch := first | (simp; done) | (simp only [IHeap.size_push', IHeap.size_set']; omega) | omega) []⟩
    clear hn hd a0 a1 a2 a3 a4 a5 e
    rintro k e h1 ⟨j, hj, hn, hd, a0, a1, a2, a3, a4, a13, a50, a51, a52, x⟩
    cases k with
    | zero =>
      obtain rfl : j = bs.length := by omega
      rw [List.take_length] at x
      simp (maxSteps := 1000000) (disch := first | (simp; done) | (simp only [IHeap.size_push', IHeap.size_set']; omega) | omega) [a0, a1, a2, a3, a4, a13, a50, a51, a52, hn, hd]
      clear hb hj a50 a51 a52
      obtain ⟨M, hM⟩ : ∃ M : Nat, (M : Int) = 3 * itv + 6 := ⟨(3 * itv + 6).toNat, by omega⟩
      refine WPL.by_inv mixed (by kernel_rfl) (fun k e h' => ∃ j, j + k = M ∧ e.n = 111 ∧ e.dfr = [] ∧ e.get 0 = .int .i64 p ∧ e.get 1 = .int .i64 q ∧ e.get 2 = .int .i64 itv ∧ e.get 3 = .bool a ∧ e.get 4 = .bool b ∧
        e.get 13 = .pointer (some ⟨h.size + 1 + 1 + 1, 0, none⟩) ∧ e.get 62 = .int .i64 (3 * itv + 6) ∧ e.get 63 = .int .i64 j ∧ At h h' (h.size + 1 + 1 + 1) (h.size + 1) (h.size + 2) (runs (newN 0 p itv a) (newN 1 q itv b) (bs ++ List.replicate j false)).1 (runs (newN 0 p itv a) (newN 1 q itv b) (bs ++ List.replicate j false)).2) M ?_ ?_
      · refine ⟨0, ?_⟩
        simp (maxSteps := 1000000) (disch := first | (simp; done) | (simp only [IHeap.size_push', IHeap.size_set']; omega) | omega) [a0, a1, a2, a3, a4, a13, hn, hd]
        exact x
      clear hn hd a0 a1 a2 a3 a4 a13 e x h1
      rintro k e h1 ⟨j, hj, hn, hd, a0, a1, a2, a3, a4, a13, a62, a63, x⟩
      have hjM : (j : Int) + k = 3 * itv + 6 := by omega
      cases k with
      | zero =>
        obtain rfl : j = M := by omega
        have e1 : ¬ (j : Int) < 3 * itv + 6 := by omega
        simp (maxSteps := 1000000) (disch := first | (simp; done) | (simp only [IHeap.size_push', IHeap.size_set']; omega) | omega) [a0, a1, a2, a3, a4, a13, a62, a63, hn, hd, e1, x.n]
        obtain ⟨o1, o2⟩ := runs_ok (bs ++ List.replicate j false) (newN_ok (pre := a) hm.1) (newN_ok (pre := b) hm.2)
        refine FN.of (active_c o1.tost x.a) ?_
        have bth := (both_new (a := a) (b := b) hm.1 hm.2).runs (by omega) (by omega) (by omega) bs
        have tg := tail_good bth (by omega) (by omega) (by omega) hM
        simp only [← runs_append] at tg
        obtain ⟨N0, hN0⟩ : ∃ N : Nat, N = (2 * (3 * itv + 6) + 20).toNat := ⟨_, rfl⟩
        have hN : (N0 : Int) = 2 * (3 * itv + 6) + 20 := by omega
        obtain ⟨first, hfirst⟩ : ∃ f, f = (runs (newN 0 p itv a) (newN 1 q itv b) (bs ++ List.replicate j false)).1.act := ⟨_, rfl⟩
        rw [← hfirst] at tg ⊢
        simp (maxSteps := 1000000) (disch := first | (simp; done) | (simp only [IHeap.size_push', IHeap.size_set']; omega) | omega) [a0, a1, a2, a3, a4, a13, a62, a63, hn, hd, e1]
        refine WPL.by_inv mixed (by kernel_rfl) (fun k e h' => ∃ i, i + k = N0 ∧ e.n = 111 ∧ e.dfr = [] ∧ e.get 0 = .int .i64 p ∧ e.get 1 = .int .i64 q ∧ e.get 3 = .bool a ∧ e.get 4 = .bool b ∧
          e.get 13 = .pointer (some ⟨h.size + 1 + 1 + 1, 0, none⟩) ∧ e.get 17 = .bool first ∧ e.get 75 = .int .i64 (2 * (3 * itv + 6) + 20) ∧ e.get 76 = .int .i64 i ∧ At h h' (h.size + 1 + 1 + 1) (h.size + 1) (h.size + 2) (runs (newN 0 p itv a) (newN 1 q itv b) (bs ++ List.replicate (j + i) false)).1 (runs (newN 0 p itv a) (newN 1 q itv b) (bs ++ List.replicate (j + i) false)).2) N0 ?_ ?_
        · refine ⟨0, ?_⟩
          simp (maxSteps := 1000000) (disch := first | (simp; done) | (simp only [IHeap.size_push', IHeap.size_set']; omega) | omega) [a0, a1, a2, a3, a4, a13, hn, hd]
          exact x
        clear hn hd a0 a1 a2 a3 a4 a13 a62 a63 e x h1 o1 o2
        rintro k e h1 ⟨i, hi, hn, hd, a0, a1, a3, a4, a13, a17, a75, a76, x⟩
        have hik : (i : Int) + k = 2 * (3 * itv + 6) + 20 := by omega
        obtain ⟨g, gf⟩ := tg i
        obtain ⟨g1, g2⟩ := good_acts g
        cases k with
        | zero =>
          have e1 : ¬ (i : Int) < 2 * (3 * itv + 6) + 20 := by omega
          rw [gf] at g2
          clear x g gf g1 tg hfirst bth
          cases a with
          | false =>
            simp (maxSteps := 1000000) (disch := first | (simp; done) | (simp only [IHeap.size_push', IHeap.size_set']; omega) | omega) [a0, a1, a3, a4, a13, a17, a75, a76, hn, hd, e1]
            refine FN.of known_c ?_
            simp (maxSteps := 1000000) (disch := first | (simp; done) | (simp only [IHeap.size_push', IHeap.size_set']; omega) | omega) [hn, hd]
          | true =>
            cases b with
            | false =>
              simp (maxSteps := 1000000) (disch := first | (simp; done) | (simp only [IHeap.size_push', IHeap.size_set']; omega) | omega) [a0, a1, a3, a4, a13, a17, a75, a76, hn, hd, e1]
              refine FN.of known_c ?_
              simp (maxSteps := 1000000) (disch := first | (simp; done) | (simp only [IHeap.size_push', IHeap.size_set']; omega) | omega) [hn, hd]
            | true =>
              have g3 := g2 rfl rfl
              subst g3
              simp (maxSteps := 1000000) (disch := first | (simp; done) | (simp only [IHeap.size_push', IHeap.size_set']; omega) | omega) [a0, a1, a3, a4, a13, a17, a75, a76, hn, hd, e1]
              refine FN.of (rabove_c _ _ _ _) ?_
              simp (maxSteps := 1000000) (disch := first | (simp; done) | (simp only [IHeap.size_push', IHeap.size_set']; omega) | omega) [a0, a1, a3, a4, a13, a17, a75, a76, hn, hd, e1]
              refine FN.of known_c ?_
              simp (maxSteps := 1000000) (disch := first | (simp; done) | (simp only [IHeap.size_push', IHeap.size_set']; omega) | omega) [hn, hd]
        | succ k =>
          have e1 : (i : Int) < 2 * (3 * itv + 6) + 20 := by omega
          obtain ⟨o1, o2⟩ := runs_ok (bs ++ List.replicate (j + i) false) (newN_ok (pre := a) hm.1) (newN_ok (pre := b) hm.2)
          have ac1 := active_c o1.tost x.a
          have ac2 := active_c o2.tost x.b
          rw [g1, gf] at ac2
          rw [gf] at ac1
          have rd := round_at (l := false) hm.1 hm.2 (by simp; omega) x
          have xn := x.n
          clear x g gf g1 g2 o1 o2
          simp (maxSteps := 1000000) (disch := first | (simp; done) | (simp only [IHeap.size_push', IHeap.size_set']; omega) | omega) [a0, a1, a3, a4, a13, a17, a75, a76, hn, hd, e1, xn]
          refine FN.of ac1 ?_
          simp (maxSteps := 1000000) (disch := first | (simp; done) | (simp only [IHeap.size_push', IHeap.size_set']; omega) | omega) [a0, a1, a3, a4, a13, a17, a75, a76, hn, hd, e1, xn]
          refine FN.of ac2 ?_
          have e2 : (first == !first) = false := by cases first <;> rfl
          simp (maxSteps := 1000000) (disch := first | (simp; done) | (simp only [IHeap.size_push', IHeap.size_set']; omega) | omega) [a0, a1, a3, a4, a13, a17, a75, a76, hn, hd, e1, xn, e2]
          refine FN.of ac1 ?_
          simp (maxSteps := 1000000) (disch := first | (simp; done) | (simp only [IHeap.size_push', IHeap.size_set']; omega) | omega) [a0, a1, a3, a4, a13, a17, a75, a76, hn, hd, e1, xn, e2]
          refine ⟨niC_pend [(2, 4)] (by kernel_rfl) ⟨rfl, trivial⟩, ?_⟩
          refine FN.mono rd ?_
          rintro _ h2 ⟨rfl, x2⟩
          simp (maxSteps := 1000000) (disch := first | (simp; done) | (simp only [IHeap.size_push', IHeap.size_set']; omega) | omega) [a0, a1, a3, a4, a13, a17, a75, a76, hn, hd]
          refine ⟨k, by omega, i + 1, by omega, by simp, ?_⟩
          rw [← Nat.add_assoc, List.replicate_succ', ← List.append_assoc]
          exact x2
      | succ k =>
        have e1 : (j : Int) < 3 * itv + 6 := by omega
        simp (maxSteps := 1000000) (disch := first | (simp; done) | (simp only [IHeap.size_push', IHeap.size_set']; omega) | omega) [a0, a1, a2, a3, a4, a13, a62, a63, hn, hd, e1, x.n]
        refine FN.mono (round_at hm.1 hm.2 (by simp; omega) x) ?_
        rintro _ h2 ⟨rfl, x2⟩
        simp (maxSteps := 1000000) (disch := first | (simp; done) | (simp only [IHeap.size_push', IHeap.size_set']; omega) | omega) [a0, a1, a2, a3, a4, a13, a62, a63, hn, hd]
        refine ⟨k, by omega, j + 1, by omega, by simp, ?_⟩
        rw [List.replicate_succ', ← List.append_assoc]
        exact x2
    | succ k =>
      obtain ⟨i, o, ro, esz, cs, rfl, hrow, hcs⟩ := hb (by intro e; rw [e] at hj; simp at hj)
      have hlt : j < bs.length := by omega
      have g1 := hcs j bs[j] (by simp [hlt])
      have g2 := x.old i (IHeap.get_lt hrow)
      simp (maxSteps := 1000000) (disch := first | (simp; done) | (simp only [IHeap.size_push', IHeap.size_set']; omega) | omega) [a0, a1, a2, a3, a4, a13, a50, a51, a52, hn, hd, g2, hrow, g1, x.n, hlt]
      refine FN.mono (round_at hm.1 hm.2 (by simp; omega) x) ?_
      rintro _ h2 ⟨rfl, x2⟩
      simp (maxSteps := 1000000) (disch := first | (simp; done) | (simp only [IHeap.size_push', IHeap.size_set']; omega) | omega) [a0, a1, a2, a3, a4, a13, a50, a51, a52, hn, hd]
      refine ⟨k, by omega, j + 1, by omega, by simp, ?_⟩
      rw [List.take_succ_eq_append_getElem hlt]
      exact x2
end Go.Proofs.Ythaegngkkannjaa.Ideal
