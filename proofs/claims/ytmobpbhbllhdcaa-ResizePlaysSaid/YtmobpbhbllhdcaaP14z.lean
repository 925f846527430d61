import Derived.Test.YtmobpbhbllhdcaaP14y
noncomputable section
open Go.Proofs
namespace Go.Proofs.Ytmobpbhbllhdcaa.Ideal
open Go.RowKit
set_option linter.unusedSimpArgs false
set_option linter.unusedVariables false
set_option linter.unusedSectionVars false
set_option maxRecDepth 100000
set_option maxHeartbeats 4000000
attribute [-simp] IHeap.size_set IHeap.size_push
attribute [local simp ↓] Hid.ap_mk
attribute [local simp] scopeQ_normal scopeQ_ret scopeQ_exit WP_skip WP_label WP_exit WP_goto WP_ret WP_region WP_seq WP_cond WP_block WP_scope WP_loop WP_range thenQ_normal thenQ_ret thenQ_exit thenQ_goto loopQ_normal loopQ_ret loopQ_exit invQ_normal invQ_ret invQ_exit outOf_normal outOf_ret outOf_goto outOf_exit ev_tmp ev_const ev_func
  wops_nil wops_cons wantedE_none wantedE_some jgd_some wnx_eq niC_false wdo_move wdo_assign wdo_pick wdo_load wdo_store wdo_alloc wdo_box wdo_fieldAddr wdo_indexAddr wdo_field wdo_extract wdo_build wdo_buildSlice wdo_makeSlice wdo_binOp wdo_unOp wdo_makeFunc wdo_nilCheck wdo_callV wdo_len wdo_append wdo_copy wdo_delete wdo_max wdo_min wdo_convert jcvt_int
  xput_get put_n put_none put_dfr ibin finQ_n finQ_r finD_nil splice_one ires_nil ires_one ires_two ires_three ires1_tmp ires1_cell jcell_ptr rowLoad_row wrap64 wrapU64 wrapU8 wrapU16 wrapU32 callV_fn buildOf Instr.fill Value.cells Value.oneCell' kindOf slots_all splice_all IHeap.size_set' IHeap.size_push' IHeap.get_set_same IHeap.get_set_ne IHeap.get_pushed IHeap.get_push_ne IHeap.set_set IHeap.set_push IHeap.set_pushed IHeap.set_set3 getU_nil getU_same getU_ne jif_true jif_false pushH_eq setH_eq forceL_eq forceV_eq ibuildSlice
attribute [local simp] wdo_index jopt_some
attribute [-simp] Value.oneCell'
attribute [local simp] one_int' one_ptr'
theorem slots4a (a b x y : Value) : slots [a, b, x, y] 2 2 = some [x, y] := by simp [slots]
abbrev OP := Int × Int × Int × Int
def OpsAt (h : IHeap) (A : Option Addr) (ops : List OP) : Prop := ops ≠ [] → ∃ i o ro esz cs, A = some ⟨i, o, none⟩ ∧ h.get i = some (.row ro esz cs) ∧ ∀ j c, ops[j]? = some c → slots cs (o + j * 4) 4 = some [.int .i64 c.1, .int .u8 c.2.1, .int .u64 c.2.2.1, .int .u32 c.2.2.2]
/-- What lies in memory. -/
structure RSt (h0 h : IHeap) (g : GT) (G W : Nat) : Prop where
  i : IS h0.size h g G
  w : WS h0.size h g W
  ok : GOK g
  mv : g.mv
  hk : HOK g
  size : h0.size ≤ h.size
  old : ∀ i, i < h0.size → h.get i = h0.get i
theorem RSt.ext {h0 h h' : IHeap} {g : GT} {G W : Nat} (st : RSt h0 h g G W) (hs : h.size ≤ h'.size) (k : ∀ i, i < h.size → h'.get i = h.get i) : RSt h0 h' g G W :=
  ⟨st.i.ext k, st.w.ext k, st.ok, st.mv, st.hk, by have := st.size; omega, fun i hi => (k i (by have := st.size; omega)).trans (st.old i hi)⟩
/-- Both went on. -/
theorem RSt.both {h0 h h1 h2 : IHeap} {g g2 : GT} {G W : Nat} (st : RSt h0 h g G W) (i1 : IS h0.size h1 g2 G) (k1 : KI h0.size h h1) (w2 : WS h0.size h2 g2 W) (k2 : KW h0.size h1 h2) (ok : GOK g2) (mv : g2.mv) (hk : HOK g2) : RSt h0 h2 g2 G W := by
  have s0 := st.size
  have s1 := k1.size
  have s2 := k2.size
  exact ⟨i1.kw ok k2, w2, ok, mv, hk, by omega, fun i hi => by rw [k2.low i (by omega) hi, k1.low i (by omega) hi, st.old i hi]⟩
theorem orow_ng (a b c d : Int) : ¬ GRow (.row false 0 [.int .i64 a, .int .u8 b, .int .u64 c, .int .u32 d]) := by
  rintro (⟨_, _, _, _, h⟩ | ⟨_, _, _, h⟩ | ⟨_, h⟩) <;> simp at h
theorem orow_nw (a b c d : Int) : ¬ WRow (.row false 0 [.int .i64 a, .int .u8 b, .int .u64 c, .int .u32 d]) := by
  rintro (⟨_, _, _, _, _, h⟩ | ⟨_, _, _, _, _, h⟩ | ⟨_, h⟩ | ⟨_, h⟩) <;> simp at h
theorem GAt.ks {g : GT} {h h' : IHeap} {G p q p' q' : Nat} {S : Nat → Prop} (x : GAt g h G p q p' q') (ok : GOK g) (k : KS S h h') (hd : ∀ i, g.own G p q p' q' i → ¬ S i) : GAt g h' G p q p' q' :=
  x.same ok fun i hi => k.get i (x.lt ok i hi) (hd i hi)
theorem own_ge {z : Nat} {g : GT} {G p q p' q' : Nat} (h1 : z ≤ G) (h2 : z ≤ p) (h3 : z ≤ q) (h4 : g.nx ≠ none → z ≤ p' ∧ z ≤ q') : ∀ i, g.own G p q p' q' i → z ≤ i := by
  rintro i (rfl | rfl | rfl | ⟨hx, rfl | rfl⟩)
  · exact h1
  · exact h2
  · exact h3
  · exact (h4 hx).1
  · exact (h4 hx).2
theorem wown_ge {z : Nat} {g : GT} {W pw pw' : Nat} (h1 : z ≤ W) (h2 : z ≤ pw) (h4 : g.nx ≠ none → z ≤ pw') : ∀ i, g.wown W pw pw' i → z ≤ i := by
  rintro i (rfl | rfl | ⟨hx, rfl⟩)
  · exact h1
  · exact h2
  · exact h4 hx
theorem IS.lt {z : Nat} {h : IHeap} {g : GT} {G : Nat} (x : IS z h g G) (ok : GOK g) : ∃ p q p' q', GAt g h G p q p' q' ∧ (z ≤ G ∧ z ≤ p ∧ z ≤ q ∧ z ≤ p' ∧ z ≤ q') ∧ G < h.size ∧ p < h.size ∧ q < h.size ∧ p' < h.size ∧ q' < h.size := by
  obtain ⟨p, q, p', q', x, zz⟩ := x
  have hG := x.lt ok _ (.inl rfl)
  have hp := x.lt ok _ (.inr (.inl rfl))
  have hq := x.lt ok _ (.inr (.inr (.inl rfl)))
  by_cases hx : g.nx = none
  · exact ⟨p, q, G, G, x.any hx G G, ⟨zz.1, zz.2.1, zz.2.2.1, zz.1, zz.1⟩, hG, hp, hq, hG, hG⟩
  · exact ⟨p, q, p', q', x, zz, hG, hp, hq, x.lt ok _ (.inr (.inr (.inr ⟨hx, .inl rfl⟩))), x.lt ok _ (.inr (.inr (.inr ⟨hx, .inr rfl⟩)))⟩
theorem own_lt {z : Nat} {g : GT} {G p q p' q' : Nat} (h1 : G < z ∧ p < z ∧ q < z ∧ p' < z ∧ q' < z) : ∀ i, g.own G p q p' q' i → i < z := by
  rintro i (rfl | rfl | rfl | ⟨hx, rfl | rfl⟩) <;> omega
theorem plays_c {h : IHeap} {n : Int} {A : Option Addr} {ops : List OP} {cap : Nat} (hop : ∀ c ∈ ops, (0 ≤ c.2.2.1 ∧ c.2.2.1 < 18446744073709551616) ∧ 0 ≤ c.2.1 ∧ c.2.1 < 256) (hb : OpsAt h A ops) :
    FN Try.prog 4 #[.int .i64 n, .slice A ops.length cap] h (Q := ⟨fun v h' => v = .bool true⟩) := by
  refine FN.enter mixed (fn := Try.f4) (by kernel_rfl) rfl (by kernel_rfl) fun e hn hg hd => ?_
  simp [Try.f4] at hn
  have a0 : e.get 0 = .int .i64 n := hg 0 (by omega)
  have a1 : e.get 1 = .slice A ops.length cap := hg 1 (by omega)
  clear hg
  by_cases g3 : (80 : Int) < ops.length
  · simp (maxSteps := 1000000) (disch := first | (simp; done) | (simp only [IHeap.size_push', IHeap.size_set']; omega) | omega) [a0, a1, hn, hd, g3, undef]
    refine FN.of known_c ?_
    simp (maxSteps := 1000000) (disch := first | (simp; done) | (simp only [IHeap.size_push', IHeap.size_set']; omega) | omega) [hn, hd]
  by_cases g4 : 256 < n ∧ n ≤ 262144
  · obtain ⟨g4, g5⟩ := g4
    simp (maxSteps := 1000000) (disch := first | (simp; done) | (simp only [IHeap.size_push', IHeap.size_set']; omega) | omega) [a0, a1, hn, hd, g3, g4, g5]
    refine FN.of known_c ?_
    simp (maxSteps := 1000000) (disch := first | (simp; done) | (simp only [IHeap.size_push', IHeap.size_set']; omega) | omega) [hn, hd]
  by_cases g1 : n < 16
  · have g4 : ¬ 256 < n := by omega
    simp (maxSteps := 1000000) (disch := first | (simp; done) | (simp only [IHeap.size_push', IHeap.size_set']; omega) | omega) [a0, a1, hn, hd, g1, g3, g4, undef]
    refine FN.of (gnewbad_c (.inl g1)) ?_
    simp (maxSteps := 1000000) (disch := first | (simp; done) | (simp only [IHeap.size_push', IHeap.size_set']; omega) | omega) [a0, a1, hn, hd, g1, g3, g4, undef]
    refine FN.of known_c ?_
    simp (maxSteps := 1000000) (disch := first | (simp; done) | (simp only [IHeap.size_push', IHeap.size_set']; omega) | omega) [hn, hd]
  by_cases g2 : 262144 < n
  · have g4 : 256 < n := by omega
    have g5 : ¬ n ≤ 262144 := by omega
    have hm := may_high g2
    simp (maxSteps := 1000000) (disch := first | (simp; done) | (simp only [IHeap.size_push', IHeap.size_set']; omega) | omega) [a0, a1, hn, hd, g1, g2, g3, g4, g5]
    refine FN.of (gnewbad_c (.inr (.inl g2))) ?_
    simp (maxSteps := 1000000) (disch := first | (simp; done) | (simp only [IHeap.size_push', IHeap.size_set']; omega) | omega) [a0, a1, hn, hd, g1, g3, g4]
    refine FN.of (may_c n) ?_
    simp (maxSteps := 1000000) (disch := first | (simp; done) | (simp only [IHeap.size_push', IHeap.size_set']; omega) | omega) [a0, a1, hn, hd, hm]
    refine FN.of known_c ?_
    simp (maxSteps := 1000000) (disch := first | (simp; done) | (simp only [IHeap.size_push', IHeap.size_set']; omega) | omega) [hn, hd]
  have g4 : ¬ 256 < n := by omega
  obtain ⟨N, rfl⟩ : ∃ N : Nat, n = N := ⟨n.toNat, by omega⟩
  have hN : 16 ≤ N ∧ N ≤ 256 := by omega
  obtain ⟨hm1, hm2⟩ := may_small (n := N) (by omega)
  by_cases hmk : maskI N ≠ 0
  · have hm : mayB N = false := by rw [hm1]; simpa using hmk
    simp (maxSteps := 1000000) (disch := first | (simp; done) | (simp only [IHeap.size_push', IHeap.size_set']; omega) | omega) [a0, a1, hn, hd, g1, g2, g3, g4, undef]
    refine FN.of (gnewbad_c (.inr (.inr ⟨N, rfl, by omega, hmk⟩))) ?_
    simp (maxSteps := 1000000) (disch := first | (simp; done) | (simp only [IHeap.size_push', IHeap.size_set']; omega) | omega) [a0, a1, hn, hd, g1, g3, g4]
    refine FN.of (may_c N) ?_
    simp (maxSteps := 1000000) (disch := first | (simp; done) | (simp only [IHeap.size_push', IHeap.size_set']; omega) | omega) [a0, a1, hn, hd, hm]
    refine FN.of known_c ?_
    simp (maxSteps := 1000000) (disch := first | (simp; done) | (simp only [IHeap.size_push', IHeap.size_set']; omega) | omega) [hn, hd]
  have hmk0 : maskI N = 0 := Classical.not_not.1 hmk
  have hm : mayB N = true := by rw [hm1]; simpa using hmk0
  have hP : P2 N := by
    have := p2_may hN
    rw [hm] at this
    have := of_decide_eq_true this.symm
    exact this
  obtain ⟨ok0, mv0⟩ := newGT_ok hP
  simp (maxSteps := 1000000) (disch := first | (simp; done) | (simp only [IHeap.size_push', IHeap.size_set']; omega) | omega) [a0, a1, hn, hd, g1, g2, g3, g4, undef]
  refine FN.mono (gnew_c hP) ?_
  rintro v H ⟨G, p, q, rfl, hG, hp, hq, xa, frH⟩
  have Hz := frH.size
  simp (maxSteps := 1000000) (disch := first | (simp; done) | (simp only [IHeap.size_push', IHeap.size_set']; omega) | omega) [a0, a1, hn, hd, g1]
  refine FN.of (may_c N) ?_
  simp (maxSteps := 1000000) (disch := first | (simp; done) | (simp only [IHeap.size_push', IHeap.size_set']; omega) | omega) [a0, a1, hn, hd, hm]
  refine FN.mono (wnew_c hP) ?_
  rintro v h2 ⟨W, pw, rfl, hW, hpw, xw, fr⟩
  have hz2 := fr.size
  have k2 : ∀ i, i < H.size → h2.get i = H.get i := fun i hi => by rw [fr.get i hi, getU_nil]
  have hk0 : HOK (newGT N) := ⟨HR.new _, fun t ht => by cases ht⟩
  have st0 : RSt h h2 (newGT N) G W := ⟨IS.of (xa.inv k2) (own_ge hG hp hq fun hx => absurd rfl hx), WS.of xw (wown_ge (by omega) (by omega) fun hx => absurd rfl hx), ok0, mv0, hk0, by omega, fun i hi => by rw [k2 i (by omega), frH.get i hi, getU_nil]⟩
  generalize newGT N = g0 at st0
  simp (maxSteps := 1000000) (disch := first | (simp; done) | (simp only [IHeap.size_push', IHeap.size_set']; omega) | omega) [a0, a1, hn, hd]
  clear fr xa xw ok0 mv0 hk0
  refine WPL.by_inv mixed (by kernel_rfl) (fun k e h' => ∃ (j G W : Nat) (g : GT), j + k = ops.length ∧ e.n = 134 ∧ e.dfr = [] ∧ e.get 5 = .pointer (some ⟨G, 0, none⟩) ∧ e.get 7 = .pointer (some ⟨W, 0, none⟩) ∧ e.get 54 = .slice A ops.length cap ∧ e.get 55 = .int .i64 ops.length ∧ e.get 56 = .int .i64 j ∧ RSt h h' g G W) ops.length ?_ ?_
  · refine ⟨0, G, W, g0, ?_⟩
    simp (maxSteps := 1000000) (disch := first | (simp; done) | (simp only [IHeap.size_push', IHeap.size_set']; omega) | omega) [a0, a1, hn, hd]
    exact st0
  clear hn hd a0 a1 st0 e
  rintro k e h1 ⟨j, G, W, g, hj, hn, hd, e5, e7, e54, e55, e56, st⟩
  cases k with
  | zero =>
    obtain rfl : j = ops.length := by omega
    simp (maxSteps := 1000000) (disch := first | (simp; done) | (simp only [IHeap.size_push', IHeap.size_set']; omega) | omega) [e5, e7, e54, e55, e56, hn, hd]
    refine FN.of known_c ?_
    simp (maxSteps := 1000000) (disch := first | (simp; done) | (simp only [IHeap.size_push', IHeap.size_set']; omega) | omega) [hn, hd]
  | succ k =>
    have hlt : j < ops.length := by omega
    have hlt2 : (j : Int) < ops.length := by omega
    obtain ⟨i, o, ro, esz, cs, rfl, hrow, hcs⟩ := hb (by intro e; rw [e] at hlt; simp at hlt)
    have hiz := IHeap.get_lt hrow
    have hrow1 : h1.get i = some (.row ro esz cs) := by rw [st.old i hiz]; exact hrow
    obtain ⟨c, hc⟩ : ∃ c, ops[j]? = some c := ⟨ops[j], by simp [hlt]⟩
    obtain ⟨c1, c2, c3, c4⟩ := c
    have hc3 : 0 ≤ c3 ∧ c3 < 18446744073709551616 := (hop _ (List.mem_of_getElem? hc)).1
    have hc2 : 0 ≤ c2 ∧ c2 < 256 := (hop _ (List.mem_of_getElem? hc)).2
    have hsl := hcs j _ hc
    simp only at hsl
    rw [WP_seq (Q := _)]
    simp (maxSteps := 1000000) (disch := first | (simp; done) | (simp only [IHeap.size_push', IHeap.size_set']; omega) | omega) [-WP_seq, e5, e7, e54, e55, e56, hn, hd, hlt2]
    rw [WP_seq (Q := _)]
    simp (maxSteps := 1000000) (disch := first | (simp; done) | (simp only [IHeap.size_push', IHeap.size_set']; omega) | omega) [-WP_seq, e5, e7, e54, e55, e56, hn, hd, hlt2]
    rw [WP_seq (Q := _)]
    simp (maxSteps := 1000000) (disch := first | (simp; done) | (simp only [IHeap.size_push', IHeap.size_set']; omega) | omega) [-WP_seq, e5, e7, e54, e55, e56, hn, hd, hlt, hlt2, hrow1, hsl, one_int]
    rw [WP_seq (Q := _)]
    try simp (maxSteps := 1000000) (disch := first | (simp; done) | (simp only [IHeap.size_push', IHeap.size_set']; omega) | omega) [-WP_seq, e5, e7, e54, e55, e56, hn, hd, hlt, hlt2, hrow1, hsl, one_int]
    refine WP.cut2 (fun e' h' => ∃ (G W : Nat) (g : GT), e'.n = 134 ∧ e'.dfr = [] ∧ e'.get 5 = .pointer (some ⟨G, 0, none⟩) ∧ e'.get 7 = .pointer (some ⟨W, 0, none⟩) ∧ e'.get 9 = .pointer (some ⟨h1.size, 0, none⟩) ∧ e'.get 10 = .bool true ∧ e'.get 54 = .slice (some ⟨i, o, none⟩) ops.length cap ∧ e'.get 55 = .int .i64 ops.length ∧ e'.get 56 = .int .i64 j ∧ RSt h h' g G W ∧ h'.get h1.size = some (.row false 0 [.int .i64 c1, .int .u8 c2, .int .u64 c3, .int .u32 c4])) ?_ ?_
    · obtain ⟨H, hH⟩ : ∃ H, H = h1.push (.row false 0 [.int .i64 c1, .int .u8 c2, .int .u64 c3, .int .u32 c4]) := ⟨_, rfl⟩
      have Hz : H.size = h1.size + 1 := by rw [hH]; simp only [IHeap.size_push']
      have Hb : H.get h1.size = some (.row false 0 [.int .i64 c1, .int .u8 c2, .int .u64 c3, .int .u32 c4]) := by rw [hH]; simp (maxSteps := 1000000) (disch := first | (simp; done) | (simp only [IHeap.size_push', IHeap.size_set']; omega) | omega) []
      have Ho : ∀ i, i < h1.size → H.get i = h1.get i := fun i hi => by rw [hH]; simp (maxSteps := 1000000) (disch := first | (simp; done) | (simp only [IHeap.size_push', IHeap.size_set']; omega) | omega) []
      have stH : RSt h H g G W := st.ext (by omega) Ho
      have hsz := stH.size
      rw [← hH]
      clear hH
      have ng := orow_ng c1 c2 c3 c4
      have nw := orow_nw c1 c2 c3 c4
      by_cases k1 : c1 = 1
      · simp (maxSteps := 1000000) (disch := first | (simp; done) | (simp only [IHeap.size_push', IHeap.size_set']; omega) | omega) [e5, e7, e54, e55, e56, hn, hd, Hb, k1, slots4a]
        refine FN.mono (iput_c stH.i hsz stH.ok hc3) ?_
        rintro v h2 ⟨rfl, i2, kI⟩
        have Hb2 := kI.get _ _ Hb ng
        have kk : h2.get h1.size = H.get h1.size := by rw [Hb2, Hb]
        have s2 := kI.size
        simp (maxSteps := 1000000) (disch := first | (simp; done) | (simp only [IHeap.size_push', IHeap.size_set']; omega) | omega) [e5, e7, e54, e55, e56, hn, hd, Hb2, slots4a]
        refine FN.mono (wput2_c (stH.w.ki kI) (by omega) stH.ok hc3) ?_
        rintro v h3 ⟨rfl, w3, kW⟩
        have Hb3 := kW.get _ _ Hb2 nw
        rw [k1] at Hb3
        simp (maxSteps := 1000000) (disch := first | (simp; done) | (simp only [IHeap.size_push', IHeap.size_set']; omega) | omega) [e5, e7, e54, e55, e56, hn, hd]
        exact ⟨niC_pend [(3, 6)] (by kernel_rfl) ⟨kk, trivial⟩, ⟨_, stH.both i2 kI w3 kW (stH.ok.put c3 c4) (stH.mv.put stH.ok c3 c4) (stH.hk.put hc3)⟩, Hb3⟩
      by_cases k2 : c1 = 2
      · simp (maxSteps := 1000000) (disch := first | (simp; done) | (simp only [IHeap.size_push', IHeap.size_set']; omega) | omega) [e5, e7, e54, e55, e56, hn, hd, Hb, k1, k2, slots4a]
        refine FN.mono (idrop_c stH.i stH.ok hc3) ?_
        rintro v h2 ⟨rfl, i2, kI⟩
        have Hb2 := kI.get _ _ Hb ng
        have kk : h2.get h1.size = H.get h1.size := by rw [Hb2, Hb]
        have s2 := kI.size
        simp (maxSteps := 1000000) (disch := first | (simp; done) | (simp only [IHeap.size_push', IHeap.size_set']; omega) | omega) [e5, e7, e54, e55, e56, hn, hd, Hb2, slots4a]
        refine FN.mono (wdrop2_c (stH.w.ki kI) stH.ok hc3) ?_
        rintro v h3 ⟨rfl, w3, kW⟩
        have Hb3 := kW.get _ _ Hb2 nw
        rw [k2] at Hb3
        simp (maxSteps := 1000000) (disch := first | (simp; done) | (simp only [IHeap.size_push', IHeap.size_set']; omega) | omega) [e5, e7, e54, e55, e56, hn, hd]
        exact ⟨niC_pend [(3, 6)] (by kernel_rfl) ⟨kk, trivial⟩, ⟨_, stH.both i2 kI w3 kW (stH.ok.drop c3 c4) (stH.mv.drop c3 c4) (stH.hk.drop c3 c4)⟩, Hb3⟩
      by_cases k3 : c1 = 3
      · obtain ⟨C2, rfl⟩ : ∃ C : Nat, c2 = C := ⟨c2.toNat, by omega⟩
        simp (maxSteps := 1000000) (disch := first | (simp; done) | (simp only [IHeap.size_push', IHeap.size_set']; omega) | omega) [e5, e7, e54, e55, e56, hn, hd, Hb, k1, k2, k3]
        refine WPL.by_inv mixed (by kernel_rfl) (fun k e h' => ∃ (m : Nat) (g : GT), m + k = C2 ∧ e.n = 134 ∧ e.dfr = [] ∧ e.get 5 = .pointer (some ⟨G, 0, none⟩) ∧ e.get 7 = .pointer (some ⟨W, 0, none⟩) ∧ e.get 9 = .pointer (some ⟨h1.size, 0, none⟩) ∧ e.get 10 = .bool true ∧ e.get 54 = .slice (some ⟨i, o, none⟩) ops.length cap ∧ e.get 55 = .int .i64 ops.length ∧ e.get 56 = .int .i64 j ∧ e.get 87 = .int .u8 C2 ∧ e.get 88 = .int .u8 m ∧ RSt h h' g G W ∧ h'.get h1.size = some (.row false 0 [.int .i64 c1, .int .u8 C2, .int .u64 c3, .int .u32 c4])) C2 ?_ ?_
        · refine ⟨0, g, ?_⟩
          simp (maxSteps := 1000000) (disch := first | (simp; done) | (simp only [IHeap.size_push', IHeap.size_set']; omega) | omega) [e5, e7, e54, e55, e56, hn, hd]
          exact ⟨stH, Hb⟩
        clear stH Hb hsz Ho Hz e5 e7 e54 e55 e56 hn hd st hrow1 e
        rintro k' e H2 ⟨m, g', hm', hn, hd, e5, e7, e9, e10, e54, e55, e56, e87, e88, stH, Hb⟩
        cases k' with
        | zero =>
          obtain rfl : m = C2 := by omega
          rw [k3] at Hb
          simp (maxSteps := 1000000) (disch := first | (simp; done) | (simp only [IHeap.size_push', IHeap.size_set']; omega) | omega) [e5, e7, e9, e10, e54, e55, e56, e87, e88, hn, hd]
          exact ⟨⟨_, stH⟩, Hb⟩
        | succ k' =>
          have hmC : (m : Int) < C2 := by omega
          have hmC' : m < C2 := by omega
          have hsz := stH.size
          simp (maxSteps := 1000000) (disch := first | (simp; done) | (simp only [IHeap.size_push', IHeap.size_set']; omega) | omega) [e5, e7, e9, e10, e54, e55, e56, e87, e88, hn, hd, hmC, hmC']
          refine FN.mono (istep_c stH.i stH.ok stH.mv stH.hk) ?_
          rintro v h2 ⟨rfl, i2, kI⟩
          have Hb2 := kI.get _ _ Hb ng
          have s2 := kI.size
          simp (maxSteps := 1000000) (disch := first | (simp; done) | (simp only [IHeap.size_push', IHeap.size_set']; omega) | omega) [e5, e7, e9, e10, e54, e55, e56, e87, e88, hn, hd]
          refine FN.mono (wstep2_c (stH.w.ki kI) stH.ok stH.mv stH.hk) ?_
          rintro v h3 ⟨rfl, w3, kW⟩
          have Hb3 := kW.get _ _ Hb2 nw
          have st3 := stH.both i2 kI w3 kW (stH.ok.step stH.mv).1 (stH.ok.step stH.mv).2 stH.hk.step
          have hw8 : IntKind.u8.wrap ((m : Int) + 1) = (m : Int) + 1 := by
            simp [IntKind.wrap, IntKind.bits, IntKind.signed]
            omega
          simp (maxSteps := 1000000) (disch := first | (simp; done) | (simp only [IHeap.size_push', IHeap.size_set']; omega) | omega) [e5, e7, e9, e10, e54, e55, e56, e87, e88, hn, hd, hw8]
          exact ⟨k', by omega, m + 1, by omega, by omega, ⟨_, st3⟩, Hb3⟩
      by_cases k4 : c1 = 4
      · simp (maxSteps := 1000000) (disch := first | (simp; done) | (simp only [IHeap.size_push', IHeap.size_set']; omega) | omega) [e5, e7, e54, e55, e56, hn, hd, Hb, k1, k2, k3, k4]
        obtain ⟨p, q, p', q', x, zz, lt⟩ := stH.i.lt stH.ok
        refine FN.mono (gcopy_c x stH.ok) ?_
        rintro v h2 ⟨G2, p2, q2, p3, q3, rfl, f1, f2, f3, f4, xc, fr2⟩
        have s2 := fr2.size
        have o2 : ∀ i, i < H.size → h2.get i = H.get i := fun i hi => by rw [fr2.get i hi, getU_nil]
        have x2 := x.inv o2
        have w2 := stH.w.ext o2
        have Hb2 := (o2 h1.size (by omega)).trans Hb
        rw [k4] at Hb2
        have hcge := own_ge f1 f2 f3 f4
        have hclt := xc.lt stH.ok
        simp (maxSteps := 1000000) (disch := first | (simp; done) | (simp only [IHeap.size_push', IHeap.size_set']; omega) | omega) [e5, e7, e54, e55, e56, hn, hd, Hb2, slots4a]
        refine FN.mono (gput_c x2 stH.ok hc3) ?_
        rintro v h3 ⟨rfl, p4, q4, x3, pq, ks3⟩
        have hol := own_lt (g := g) lt
        have kI3 := KI.of (z := h.size) ks3 (IS.own zz) (x2.rows stH.ok)
        have s3 := kI3.size
        have w3 := w2.ki kI3
        have Hb3 := kI3.get _ _ Hb2 (orow_ng 4 c2 c3 c4)
        have xc3 := xc.ks stH.ok ks3 (fun i hi hS => by
          have := hcge i hi
          have := hol i hS
          omega)
        have okp := stH.ok.put c3 c4
        have zz3 : h.size ≤ G ∧ h.size ≤ p ∧ h.size ≤ q ∧ h.size ≤ p4 ∧ h.size ≤ q4 := by omega
        simp (maxSteps := 1000000) (disch := first | (simp; done) | (simp only [IHeap.size_push', IHeap.size_set']; omega) | omega) [e5, e7, e54, e55, e56, hn, hd]
        refine FN.mono (gstep_c x3 okp (stH.mv.put stH.ok c3 c4) (stH.hk.put hc3).now) ?_
        rintro v h4 ⟨rfl, _, ks4⟩
        have kI4 := KI.of (z := h.size) ks4 (IS.own zz3) (x3.rows okp)
        have s4 := kI4.size
        have w4 := w3.ki kI4
        have Hb4 := kI4.get _ _ Hb3 (orow_ng 4 c2 c3 c4)
        have xc4 := xc3.ks stH.ok ks4 (fun i hi hS => by
          have h1 := hcge i hi
          have h2 := hclt i hi
          rcases hS with e | e | e | ⟨_, e | e⟩ <;> omega)
        obtain ⟨pw, pw', xw, zw⟩ := w4
        simp (maxSteps := 1000000) (disch := first | (simp; done) | (simp only [IHeap.size_push', IHeap.size_set']; omega) | omega) [e5, e7, e54, e55, e56, hn, hd]
        refine FN.mono (wcopy_c xw stH.ok) ?_
        rintro v h5 ⟨W2, pw2, pw3, rfl, u1, u2, u3, xw5, fr5⟩
        have s5 := fr5.size
        have o5 : ∀ i, i < h4.size → h5.get i = h4.get i := fun i hi => by rw [fr5.get i hi, getU_nil]
        have Hb5 := (o5 h1.size (by omega)).trans Hb4
        have st5 : RSt h h5 g G2 W2 := ⟨IS.of (xc4.inv o5) (fun i hi => by have := hcge i hi; omega), WS.of xw5 (wown_ge (by omega) (by omega) fun hx => by have := u3 hx; omega), stH.ok, stH.mv, stH.hk, by omega, fun i hi => by rw [o5 i (by omega), kI4.low i (by omega) hi, kI3.low i (by omega) hi, o2 i (by omega), stH.old i hi]⟩
        simp (maxSteps := 1000000) (disch := first | (simp; done) | (simp only [IHeap.size_push', IHeap.size_set']; omega) | omega) [e5, e7, e54, e55, e56, hn, hd]
        exact ⟨⟨_, st5⟩, Hb5⟩
      by_cases k5 : c1 = 5
      · simp (maxSteps := 1000000) (disch := first | (simp; done) | (simp only [IHeap.size_push', IHeap.size_set']; omega) | omega) [e5, e7, e54, e55, e56, hn, hd, Hb, k1, k2, k3, k4, k5]
        obtain ⟨p, q, p', q', x, zz, lt⟩ := stH.i.lt stH.ok
        refine FN.mono (gcopy_c x stH.ok) ?_
        rintro v h2 ⟨G2, p2, q2, p3, q3, rfl, f1, f2, f3, f4, xc, fr2⟩
        have s2 := fr2.size
        have o2 : ∀ i, i < H.size → h2.get i = H.get i := fun i hi => by rw [fr2.get i hi, getU_nil]
        have Hb2 := (o2 h1.size (by omega)).trans Hb
        rw [k5] at Hb2
        have hcge := own_ge f1 f2 f3 f4
        simp (maxSteps := 1000000) (disch := first | (simp; done) | (simp only [IHeap.size_push', IHeap.size_set']; omega) | omega) [e5, e7, e54, e55, e56, hn, hd, Hb2, slots4a]
        refine FN.mono (gdrop_c xc stH.ok hc3) ?_
        rintro v h3 ⟨rfl, x3, ks3⟩
        have s3 := ks3.size
        have o3 : ∀ i, i < H.size → h3.get i = H.get i := fun i hi => by
          rw [ks3.get i (by omega) (fun hS => by have := hcge i hS; omega), o2 i hi]
        have f4' : (g.drop c3 c4).nx ≠ none → H.size ≤ p3 ∧ H.size ≤ q3 := fun hx => f4 (fun he => hx (by
          unfold GT.drop
          rw [nxT_none he, find_empty]
          split <;> exact he))
        simp (maxSteps := 1000000) (disch := first | (simp; done) | (simp only [IHeap.size_push', IHeap.size_set']; omega) | omega) [e5, e7, e54, e55, e56, hn, hd]
        refine FN.mono (gstep_c x3 (stH.ok.drop c3 c4) (stH.mv.drop c3 c4) (stH.hk.drop c3 c4).now) ?_
        rintro v h4 ⟨rfl, _, ks4⟩
        have s4 := ks4.size
        have o4 : ∀ i, i < H.size → h4.get i = H.get i := fun i hi => by
          rw [ks4.get i (by omega) (fun hS => by have := own_ge f1 f2 f3 f4' i hS; omega), o3 i hi]
        have st4 := stH.ext (h' := h4) (by omega) o4
        have Hb4 := (o4 h1.size (by omega)).trans Hb
        rw [k5] at Hb4
        simp (maxSteps := 1000000) (disch := first | (simp; done) | (simp only [IHeap.size_push', IHeap.size_set']; omega) | omega) [e5, e7, e54, e55, e56, hn, hd]
        exact ⟨⟨_, st4⟩, Hb4⟩
      · simp (maxSteps := 1000000) (disch := first | (simp; done) | (simp only [IHeap.size_push', IHeap.size_set']; omega) | omega) [e5, e7, e54, e55, e56, hn, hd, Hb, k1, k2, k3, k4, k5]
        exact ⟨_, stH⟩
    · clear e5 e7 e54 e55 e56 hn hd st hrow1 e
      rintro e h2 ⟨G, W, g, hn, hd, e5, e7, e9, e10, e54, e55, e56, st, Hb⟩
      obtain ⟨p, q, p', q', x, zz⟩ := st.i
      obtain ⟨pw, pw', w, zw⟩ := st.w
      simp (maxSteps := 1000000) (disch := first | (simp; done) | (simp only [IHeap.size_push', IHeap.size_set']; omega) | omega) [e5, e7, e9, e10, e54, e55, e56, hn, hd, Hb, slots4a]
      refine FN.ct (same_c x w st.ok hc3) ?_
      intro h3 fr
      have st3 := st.ext fr.size (fun i hi => by rw [fr.get i hi, getU_nil])
      simp (maxSteps := 1000000) (disch := first | (simp; done) | (simp only [IHeap.size_push', IHeap.size_set']; omega) | omega) [e5, e7, e9, e10, e54, e55, e56, hn, hd, wrap64]
      exact ⟨k, by omega, j + 1, by omega, by omega, ⟨_, st3⟩⟩
end Go.Proofs.Ytmobpbhbllhdcaa.Ideal
