import Derived.Test.YtmobpbhbllhdcaaP14o
noncomputable section
open Go.Proofs
namespace Go.Proofs.Ytmobpbhbllhdcaa.Ideal
open Go.RowKit
set_option linter.unusedSimpArgs false
set_option linter.unusedVariables false
set_option linter.unusedSectionVars false
set_option maxRecDepth 100000
set_option maxHeartbeats 4000000
attribute [-simp] IHeap.size_set IHeap.size_push
attribute [local simp ↓] Hid.ap_mk
attribute [local simp] scopeQ_normal scopeQ_ret scopeQ_exit WP_skip WP_label WP_exit WP_goto WP_ret WP_region WP_seq WP_cond WP_block WP_scope WP_loop WP_range thenQ_normal thenQ_ret thenQ_exit thenQ_goto loopQ_normal loopQ_ret loopQ_exit invQ_normal invQ_ret invQ_exit outOf_normal outOf_ret outOf_goto outOf_exit ev_tmp ev_const ev_func
  wops_nil wops_cons wantedE_none wantedE_some jgd_some wnx_eq niC_false wdo_move wdo_assign wdo_pick wdo_load wdo_store wdo_alloc wdo_box wdo_fieldAddr wdo_indexAddr wdo_field wdo_extract wdo_build wdo_buildSlice wdo_makeSlice wdo_binOp wdo_unOp wdo_makeFunc wdo_nilCheck wdo_callV wdo_len wdo_append wdo_copy wdo_delete wdo_max wdo_min wdo_convert jcvt_int
  xput_get put_n put_none put_dfr ibin finQ_n finQ_r finD_nil splice_one ires_nil ires_one ires_two ires_three ires1_tmp ires1_cell jcell_ptr rowLoad_row wrap64 wrapU64 wrapU8 wrapU16 wrapU32 callV_fn buildOf Instr.fill Value.cells Value.oneCell' kindOf slots_all splice_all IHeap.size_set' IHeap.size_push' IHeap.get_set_same IHeap.get_set_ne IHeap.get_pushed IHeap.get_push_ne IHeap.set_set IHeap.set_push IHeap.set_pushed IHeap.set_set3 getU_nil getU_same getU_ne jif_true jif_false pushH_eq setH_eq forceL_eq forceV_eq ibuildSlice
attribute [local simp] wdo_index jopt_some
attribute [-simp] Value.oneCell'
attribute [local simp] one_int' one_ptr'
def newGT (m : Nat) : GT := ⟨newTB 16, none, m, 0⟩
theorem p2_fin : (List.range 257).all (fun n => decide (n < 16) || (mayB n == decide (n = 16 ∨ n = 32 ∨ n = 64 ∨ n = 128 ∨ n = 256))) = true := by kernel_rfl
theorem p2_may {n : Nat} (h : 16 ≤ n ∧ n ≤ 256) : mayB n = decide (n = 16 ∨ n = 32 ∨ n = 64 ∨ n = 128 ∨ n = 256) := by
  have := List.all_eq_true.1 p2_fin n (List.mem_range.2 (by omega))
  simpa [show ¬ n < 16 by omega] using this
theorem newGT_ok {m : Nat} (h : P2 m) : GOK (newGT m) ∧ (newGT m).mv := by
  refine ⟨⟨h, TOK.new (by decide) (by decide), ?_, ?_, fun t ht => (by cases ht), Nat.zero_le _⟩, fun hx => absurd rfl hx⟩
  · show P2 (newTB 16).ps.length
    rw [newTB_len]
    exact .inl rfl
  · show (newTB 16).ps.length ≤ m
    rw [newTB_len]
    exact h.le.1
def GNewQ (h : IHeap) (m : Nat) (v : Value) (h' : IHeap) : Prop := ∃ G p q, v = .tuple #[.pointer (some ⟨G, 0, none⟩), .int .i64 0] ∧ h.size ≤ G ∧ h.size ≤ p ∧ h.size ≤ q ∧ GAt (newGT m) h' G p q 0 0 ∧ Fr h h' []
theorem gnew_c {h : IHeap} {m : Nat} (hm : P2 m) : FN Try.prog 6 #[.int .i64 m] h (Q := ⟨fun v h' => GNewQ h m v h'⟩) := by
  have hl := hm.le
  have hk := hm.mask
  unfold maskI at hk
  obtain ⟨o3, ho3⟩ : ∃ o, o = IObj.row false 3 (flat3 (List.replicate 16 (0, 0, 0))) := ⟨_, rfl⟩
  obtain ⟨oT, hoT⟩ : ∃ o, o = IObj.row false 0 ((newTB 16).row h.size) := ⟨_, rfl⟩
  have nw := new_c (h := h) 16 (by omega) (by kernel_rfl)
  rw [← ho3, ← hoT] at nw
  refine FN.enter mixed (fn := Try.f6) (by kernel_rfl) rfl (by kernel_rfl) fun e hn hg hd => ?_
  simp [Try.f6] at hn
  have a0 : e.get 0 = .int .i64 m := hg 0 (by omega)
  clear hg
  have h1 : ¬ (m : Int) < 16 := by omega
  have h2 : ¬ (262144 : Int) < m := by omega
  simp (maxSteps := 1000000) (disch := first | (simp; done) | (simp only [IHeap.size_push', IHeap.size_set']; omega) | omega) [a0, hn, hd, h1, h2, wrap64, hk, undef]
  refine FN.of nw ?_
  simp (maxSteps := 1000000) (disch := first | (simp; done) | (simp only [IHeap.size_push', IHeap.size_set']; omega) | omega) [a0, hn, hd]
  refine ⟨_, h.size + 1, h.size, rfl, by omega, by omega, by omega, ⟨?_, ⟨?_, fun _ => ⟨?_, by omega⟩⟩, .inl ⟨rfl, rfl⟩, fun hx => absurd rfl hx⟩, ⟨by simp <;> omega, fun i hi => by simp only [IHeap.get_set_if, IHeap.get_push, IHeap.size_set', IHeap.size_push', getU, ]; grind⟩⟩
  · simp (maxSteps := 1000000) (disch := first | (simp; done) | (simp only [IHeap.size_push', IHeap.size_set']; omega) | omega) []
    exact ⟨rfl, rfl, rfl⟩
  · simp (maxSteps := 1000000) (disch := first | (simp; done) | (simp only [IHeap.size_push', IHeap.size_set']; omega) | omega) []
    rw [hoT]
    rfl
  · simp (maxSteps := 1000000) (disch := first | (simp; done) | (simp only [IHeap.size_push', IHeap.size_set']; omega) | omega) []
    rw [ho3]
    rfl
theorem gnewbad_c {h : IHeap} {m : Int} (hm : m < 16 ∨ 262144 < m ∨ (∃ n : Nat, m = n ∧ n ≤ 256 ∧ maskI n ≠ 0)) : ICall Try.prog 6 #[.int .i64 m] h (.tuple #[.pointer none, .int .i64 2]) h := by
  refine ICall.of_FN ?_
  refine FN.enter mixed (fn := Try.f6) (by kernel_rfl) rfl (by kernel_rfl) fun e hn hg hd => ?_
  simp [Try.f6] at hn
  have a0 : e.get 0 = .int .i64 m := hg 0 (by omega)
  clear hg
  by_cases h1 : m < 16
  · simp (maxSteps := 1000000) (disch := first | (simp; done) | (simp only [IHeap.size_push', IHeap.size_set']; omega) | omega) [a0, hn, hd, h1, undef]
  · by_cases h2 : 262144 < m
    · simp (maxSteps := 1000000) (disch := first | (simp; done) | (simp only [IHeap.size_push', IHeap.size_set']; omega) | omega) [a0, hn, hd, h1, h2, undef]
    · rcases hm with h | h | ⟨n, rfl, hn2, hb⟩
      · omega
      · omega
      · unfold maskI at hb
        simp (maxSteps := 1000000) (disch := first | (simp; done) | (simp only [IHeap.size_push', IHeap.size_set']; omega) | omega) [a0, hn, hd, h1, h2, wrap64, hb]
def GCopyQ (g : GT) (h : IHeap) (v : Value) (h' : IHeap) : Prop := ∃ G2 p2 q2 p3 q3, v = .pointer (some ⟨G2, 0, none⟩) ∧ h.size ≤ G2 ∧ h.size ≤ p2 ∧ h.size ≤ q2 ∧ (g.nx ≠ none → h.size ≤ p3 ∧ h.size ≤ q3) ∧ GAt g h' G2 p2 q2 p3 q3 ∧ Fr h h' []
theorem gcopy_c {g : GT} {h : IHeap} {G p q p' q' : Nat} (x : GAt g h G p q p' q') (ok : GOK g) : FN Try.prog 19 #[.pointer (some ⟨G, 0, none⟩)] h (Q := ⟨fun v h' => GCopyQ g h v h'⟩) := by
  have gG := x.gG
  have lb := ok.l.le
  obtain ⟨H, hH⟩ : ∃ H, H = h.push (.row false 0 [.pointer (some ⟨p, 0, none⟩), .pointer (g.nxA p'), .int .i64 (g.most : Nat), .int .i64 (g.cur : Nat)]) := ⟨_, rfl⟩
  have Hz : H.size = h.size + 1 := by rw [hH, IHeap.size_push']
  have Ho : ∀ i, i < h.size → H.get i = h.get i := fun i hi => by rw [hH]; exact IHeap.get_push_ne _ (by omega)
  have Hb : H.get h.size = some (.row false 0 [.pointer (some ⟨p, 0, none⟩), .pointer (g.nxA p'), .int .i64 (g.most : Nat), .int .i64 (g.cur : Nat)]) := by rw [hH]; exact IHeap.get_pushed _ rfl
  have xH := x.inv Ho
  have gH := xH.gG
  refine FN.enter mixed (fn := Try.f19) (by kernel_rfl) rfl (by kernel_rfl) fun e hn hg hd => ?_
  simp [Try.f19] at hn
  have a0 : e.get 0 = .pointer (some ⟨G, 0, none⟩) := hg 0 (by omega)
  clear hg
  simp (maxSteps := 1000000) (disch := first | (simp; done) | (simp only [IHeap.size_push', IHeap.size_set']; omega) | omega) [a0, hn, hd]
  refine FN.of (gnone_c x) ?_
  simp (maxSteps := 1000000) (disch := first | (simp; done) | (simp only [IHeap.size_push', IHeap.size_set']; omega) | omega) [a0, hn, hd, gG, ← hH, gH]
  refine FN.mono (copy_c (by omega) xH.now) ?_
  rintro v h2 ⟨rfl, ⟨q2, at2, hq2⟩, fr2⟩
  have k2 : ∀ i, i < H.size → h2.get i = H.get i := fun i hi => by rw [fr2.get i hi, getU_nil]
  have x2 := xH.inv k2
  have g2 := x2.gG
  have b2 := (k2 h.size (by omega)).trans Hb
  have z2 := fr2.size
  have gl := IHeap.get_lt x.gG
  have kG : h2.get G = H.get G := k2 G (by omega)
  have l2 := IHeap.get_lt at2.gp
  have qne := (at2.gq ok.l.ne)
  have ql := IHeap.get_lt qne.1
  cases hx : g.nx with
  | none =>
    have nA : g.nxA p' = none := nxA_none hx p'
    rw [nA] at gH g2 b2
    have cn := copy_nil (h := h2) (A := none) (q := 0) (.inl ⟨rfl, rfl⟩) rfl
    simp (maxSteps := 1000000) (disch := first | (simp; done) | (simp only [IHeap.size_push', IHeap.size_set']; omega) | omega) [a0, hn, hd, gH, g2]
    refine FN.of cn ?_
    simp (maxSteps := 1000000) (disch := first | (simp; done) | (simp only [IHeap.size_push', IHeap.size_set']; omega) | omega) [a0, hn, hd, b2]
    refine ⟨niC_pend [(4, 8)] (by kernel_rfl) ⟨kG, trivial⟩, h.size, H.size, q2, 0, 0, rfl, by omega, by omega, by omega, fun h => absurd hx h, ⟨?_, ⟨?_, fun _ => ⟨?_, qne.2⟩⟩, .inl ⟨by rw [nxA_none hx], nxT_none hx⟩, fun h => absurd hx h⟩, ?_⟩
    · simp (maxSteps := 1000000) (disch := first | (simp; done) | (simp only [IHeap.size_push', IHeap.size_set']; omega) | omega) [nxA_none hx]
    · rw [IHeap.get_set_ne _ (by omega)]; exact at2.gp
    · rw [IHeap.get_set_ne _ (by omega)]; exact qne.1
    · exact ⟨by rw [IHeap.size_set']; omega, fun i hi => by rw [IHeap.get_set_ne _ (by omega), k2 i (by omega), Ho i hi, getU_nil]⟩
  | some t =>
    have nA : g.nxA p' = some ⟨p', 0, none⟩ := nxA_some hx p'
    obtain ⟨t1, t2, t3⟩ := ok.x t hx
    obtain ⟨n1, n2, xa⟩ := x2.apart2 hx t2.ne
    rw [nA] at gH g2 b2
    have tl := t2.le
    simp (maxSteps := 1000000) (disch := first | (simp; done) | (simp only [IHeap.size_push', IHeap.size_set']; omega) | omega) [a0, hn, hd, gH, g2]
    refine FN.mono (copy_c (by omega) xa) ?_
    rintro v h3 ⟨rfl, ⟨q3, at3, hq3⟩, fr3⟩
    have k3 : ∀ i, i < h2.size → h3.get i = h2.get i := fun i hi => by rw [fr3.get i hi, getU_nil]
    have b3 := (k3 h.size (by omega)).trans b2
    have l3 := IHeap.get_lt at3.gp
    have qne3 := (at3.gq t2.ne)
    have z3 := fr3.size
    simp (maxSteps := 1000000) (disch := first | (simp; done) | (simp only [IHeap.size_push', IHeap.size_set']; omega) | omega) [a0, hn, hd, b3]
    refine ⟨niC_pend [(4, 8)] (by kernel_rfl) ⟨kG, trivial⟩, h.size, H.size, q2, h2.size, q3, rfl, by omega, by omega, by omega, fun _ => ⟨by omega, by omega⟩, ⟨?_, ⟨?_, fun _ => ⟨?_, qne.2⟩⟩, .inr ⟨h2.size, nxA_some hx _, ?_⟩, fun h => ⟨by omega, by omega, by omega, by omega⟩⟩, ?_⟩
    · simp (maxSteps := 1000000) (disch := first | (simp; done) | (simp only [IHeap.size_push', IHeap.size_set']; omega) | omega) [nxA_some hx]
    · rw [IHeap.get_set_ne _ (by omega), k3 _ (by omega)]; exact at2.gp
    · rw [IHeap.get_set_ne _ (by omega), k3 _ (by omega)]; exact qne.1
    · rw [nxT_some hx]
      exact ⟨by rw [IHeap.get_set_ne _ (by omega)]; exact at3.gp, fun _ => ⟨by rw [IHeap.get_set_ne _ (by omega)]; exact qne3.1, qne3.2⟩⟩
    · exact ⟨by rw [IHeap.size_set']; omega, fun i hi => by rw [IHeap.get_set_ne _ (by omega), k3 i (by omega), k2 i (by omega), Ho i hi, getU_nil]⟩
theorem gall_c {h : IHeap} (G : Nat) : ICall Try.prog 24 #[.pointer (some ⟨G, 0, none⟩)] h (.func (.func 55) #[] #[.pointer (some ⟨h.size, 0, none⟩)]) (h.push (.row false 0 [.pointer (some ⟨G, 0, none⟩)])) := by
  refine ICall.of_FN ?_
  refine FN.enter mixed (fn := Try.f24) (by kernel_rfl) rfl (by kernel_rfl) fun e hn hg hd => ?_
  simp [Try.f24] at hn
  have a0 : e.get 0 = .pointer (some ⟨G, 0, none⟩) := hg 0 (by omega)
  clear hg
  simp (maxSteps := 1000000) (disch := first | (simp; done) | (simp only [IHeap.size_push', IHeap.size_set']; omega) | omega) [a0, hn, hd]
end Go.Proofs.Ytmobpbhbllhdcaa.Ideal
