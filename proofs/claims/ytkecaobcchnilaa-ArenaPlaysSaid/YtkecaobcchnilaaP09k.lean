import Derived.Test.YtkecaobcchnilaaP09q
noncomputable section
open Go.Proofs
namespace Go.Proofs.Ytkecaobcchnilaa.Ideal
open Go.RowKit
set_option linter.unusedSimpArgs false
set_option linter.unusedVariables false
set_option linter.unusedSectionVars false
set_option linter.unnecessarySimpa false
set_option maxRecDepth 100000
set_option maxHeartbeats 2000000
attribute [-simp] IHeap.size_set IHeap.size_push
attribute [local simp ↓] Hid.ap_mk
attribute [local simp] scopeQ_normal scopeQ_ret scopeQ_exit WP_skip WP_label WP_exit WP_goto WP_ret WP_region WP_seq WP_cond WP_block WP_scope WP_loop WP_range thenQ_normal thenQ_ret thenQ_exit thenQ_goto loopQ_normal loopQ_ret loopQ_exit invQ_normal invQ_ret invQ_exit outOf_normal outOf_ret outOf_goto outOf_exit ev_tmp ev_const ev_func
  wops_nil wops_cons wantedE_none wantedE_some jgd_some wnx_eq niC_false wdo_move wdo_assign wdo_pick wdo_load wdo_store wdo_alloc wdo_box wdo_fieldAddr wdo_indexAddr wdo_field wdo_extract wdo_build wdo_buildSlice wdo_makeSlice wdo_binOp wdo_unOp wdo_makeFunc wdo_nilCheck wdo_callV wdo_len wdo_append wdo_copy wdo_delete wdo_max wdo_min wdo_convert jcvt_int
  xput_get put_n put_none put_dfr ibin finQ_n finQ_r finD_nil splice_one ires_nil ires_one ires_two ires_three ires1_tmp ires1_cell jcell_ptr rowLoad_row wrap64 wrapU64 wrapU8 wrapU16 wrapU32 callV_fn buildOf Instr.fill Value.cells Value.oneCell' kindOf slots_all splice_all IHeap.size_set' IHeap.size_push' IHeap.get_set_same IHeap.get_set_ne IHeap.get_pushed IHeap.get_push_ne IHeap.set_set IHeap.set_push IHeap.set_pushed IHeap.set_set3 getU_nil getU_same getU_ne jif_true jif_false pushH_eq setH_eq forceL_eq forceV_eq ibuildSlice
attribute [-simp] Value.oneCell'
attribute [local simp] wdo_cutV jopt_some
theorem flat_ne {cs : List (Int × Int)} {vs : List Value} (h : cs ≠ []) : (IObj.row false 2 (flat cs) = .row false 1 vs) → False := by intro e; cases e
/-- The blocks of both are not the same. -/
theorem apart {h : IHeap} {p q pw rh : Nat} {fv : Value} {a : AR} {w : RA} (xa : a.at h p q) (xw : w.at h pw rh fv) (hq : a.cs = [] → q = p) :
    pw ≠ p ∧ pw ≠ q ∧ rh ≠ p ∧ rh ≠ q ∧ ∀ r l, h.get r = some (.row false 1 (ints l)) → r ≠ p ∧ r ≠ q := by
  have gp := xa.gp
  have gw := xw.gp
  have gh := xw.gh
  have h1 : pw ≠ p := by rintro rfl; rw [gp] at gw; simp [AR.row] at gw
  have h2 : rh ≠ p := by rintro rfl; rw [gp] at gh; simp at gh
  have h3 : ∀ r l, h.get r = some (.row false 1 (ints l)) → r ≠ p := fun r l hr => by rintro rfl; rw [gp] at hr; simp at hr
  by_cases hc : a.cs = []
  · rw [hq hc]
    exact ⟨h1, h1, h2, h2, fun r l hr => ⟨h3 r l hr, h3 r l hr⟩⟩
  · obtain ⟨gq, _⟩ := xa.gq hc
    refine ⟨h1, ?_, h2, ?_, fun r l hr => ⟨h3 r l hr, ?_⟩⟩
    · rintro rfl; rw [gq] at gw; simp at gw
    · rintro rfl; rw [gq] at gh; simp at gh
    · rintro rfl; rw [gq] at hr; simp at hr
theorem at_pick {h : IHeap} {p q : Nat} {a : AR} (xa : a.at h p q) : ∃ q', a.at h p q' ∧ (a.cs = [] → q' = p) ∧ q' < h.size ∧ (q' = q ∨ q' = p) := by
  by_cases hc : a.cs = []
  · exact ⟨p, ⟨by have := xa.gp; simpa [AR.row, AR.slc, hc] using this, fun h => absurd hc h⟩, fun _ => rfl, IHeap.get_lt xa.gp, .inr rfl⟩
  · exact ⟨q, xa, fun h => absurd h hc, IHeap.get_lt (xa.gq hc).1, .inl rfl⟩
theorem w_keep {h h' : IHeap} {p q pw rh : Nat} {fv : Value} {a : AR} {w : RA} (xa : a.at h p q) (xw : w.at h pw rh fv) (hq : a.cs = [] → q = p) (kp : Keeps h h' p q) : w.at h' pw rh fv := by
  obtain ⟨h1, h2, h3, h4, h5⟩ := apart xa xw hq
  obtain ⟨A, c, hv, hc, hA, hA2⟩ := xw.gf
  refine ⟨(kp.get _ (IHeap.get_lt xw.gp) h1 h2).trans xw.gp, (kp.get _ (IHeap.get_lt xw.gh) h3 h4).trans xw.gh, ⟨A, c, hv, hc, hA, fun a ha => ?_⟩, xw.ne⟩
  obtain ⟨r, rest, e1, e2, e3⟩ := hA2 a ha
  obtain ⟨h6, h7⟩ := h5 r _ e3
  exact ⟨r, rest, e1, e2, (kp.get _ (IHeap.get_lt e3) h6 h7).trans e3⟩
theorem a_keep {h h' : IHeap} {p q pw rh : Nat} {fv : Value} {a : AR} {w : RA} (xa : a.at h p q) (xw : w.at h pw rh fv) (hq : a.cs = [] → q = p) (kp : Keep1 h h' pw) : a.at h' p q := by
  obtain ⟨h1, h2, h3, h4, h5⟩ := apart xa xw hq
  refine ⟨(kp.get _ (IHeap.get_lt xa.gp) (Ne.symm h1)).trans xa.gp, fun hc => ?_⟩
  obtain ⟨g1, g2⟩ := xa.gq hc
  exact ⟨(kp.get _ (IHeap.get_lt g1) (Ne.symm h2)).trans g1, g2⟩
/-- The calls that are handed in. -/
def OpsAt (h : IHeap) (A : Option Addr) (ops : List (Int × Int × Int)) : Prop := ops ≠ [] → ∃ i o ro esz cs, A = some ⟨i, o, none⟩ ∧ h.get i = some (.row ro esz cs) ∧ ∀ j c, ops[j]? = some c → slots cs (o + j * 3) 3 = some [.int .i64 c.1, .int .i64 c.2.1, .int .u64 c.2.2]
theorem newbad_c {h : IHeap} {n : Int} (hn1 : n < 1 ∨ 65536 < n) : ICall Try.prog 7 #[.int .i64 n] h (.tuple #[.pointer none, .int .i64 2]) h := by
  refine ICall.of_FN ?_
  refine FN.enter mixed (fn := Try.f7) (by kernel_rfl) rfl (by kernel_rfl) fun e hn hg hd => ?_
  simp [Try.f7] at hn
  have a0 : e.get 0 = .int .i64 n := hg 0 (by omega)
  clear hg
  by_cases h1 : n < 1
  · simp (maxSteps := 1000000) (disch := first | (simp; done) | (simp only [IHeap.size_push', IHeap.size_set']; omega) | omega) [a0, hn, hd, h1]
  · have h2 : 65536 < n := by omega
    simp (maxSteps := 1000000) (disch := first | (simp; done) | (simp only [IHeap.size_push', IHeap.size_set']; omega) | omega) [a0, hn, hd, h1, h2]
theorem slots3 (a x y : Value) : slots [a, x, y] 1 2 = some [x, y] := by simp [slots]
theorem Fr.keeps {h h' : IHeap} (f : Fr h h' []) (p q : Nat) : Keeps h h' p q := ⟨f.size, fun i hi _ _ => f.get i hi⟩
theorem push_keeps (h : IHeap) (o : IObj) : ∀ i, i < h.size → (h.push o).get i = h.get i := fun i hi => IHeap.get_push_ne _ (by omega)
/-- What lies in memory ahead of a call. -/
structure PSt (h0 : IHeap) (h : IHeap) (a : AR) (w : RA) (p q pw rh : Nat) (fv : Value) : Prop where
  xa : a.at h p q
  xw : w.at h pw rh fv
  hq : a.cs = [] → q = p
  size : h0.size ≤ h.size
  old : ∀ i, i < h0.size → h.get i = h0.get i
  hp : h0.size ≤ p ∧ h0.size ≤ q ∧ h0.size ≤ pw
  hqz : q < h.size
theorem PSt.ext {h0 h h' : IHeap} {a : AR} {w : RA} {p q pw rh : Nat} {fv : Value} (st : PSt h0 h a w p q pw rh fv) (hs : h.size ≤ h'.size) (k : ∀ i, i < h.size → h'.get i = h.get i) : PSt h0 h' a w p q pw rh fv :=
  ⟨aat_inv st.xa k, hat_inv st.xw k, st.hq, by have := st.size; omega, fun i hi => (k i (by have := st.size; omega)).trans (st.old i hi), st.hp, by have := st.hqz; omega⟩
/-- The program's arena is changed. -/
theorem PSt.stepA {h0 h h' : IHeap} {a a' : AR} {w : RA} {p q q' pw rh : Nat} {fv : Value} (st : PSt h0 h a w p q pw rh fv) (kp : Keeps h h' p q) (hq : q' = q ∨ h.size ≤ q') (at' : a'.at h' p q') : ∃ q2, (q2 = q' ∨ q2 = p) ∧ PSt h0 h' a' w p q2 pw rh fv := by
  obtain ⟨q2, x, e1, e2, e3⟩ := at_pick at'
  have h1 := st.size
  have h2 := st.hp
  have h3 := kp.size
  refine ⟨q2, e3, x, w_keep st.xa st.xw st.hq kp, e1, by omega, fun i hi => ?_, by omega, e2⟩
  rw [kp.get i (by omega) (by omega) (by omega)]; exact st.old i hi
/-- The document's arena is changed. -/
theorem PSt.stepW {h0 h h' : IHeap} {a : AR} {w w' : RA} {p q pw rh rh' : Nat} {fv fv' : Value} (st : PSt h0 h a w p q pw rh fv) (kp : Keep1 h h' pw) (at' : w'.at h' pw rh' fv') : PSt h0 h' a w' p q pw rh' fv' := by
  have h1 := st.size
  have h2 := st.hp
  have h3 := kp.size
  refine ⟨a_keep st.xa st.xw st.hq kp, at', st.hq, by omega, fun i hi => ?_, h2, by have := st.hqz; omega⟩
  rw [kp.get i (by omega) (by omega)]; exact st.old i hi
theorem at_keeps {h h' : IHeap} {a : AR} {pc qc p q : Nat} (x : a.at h pc qc) (kp : Keeps h h' p q) (h1 : pc ≠ p ∧ pc ≠ q) (h2 : qc ≠ p ∧ qc ≠ q) : a.at h' pc qc := by
  refine ⟨(kp.get _ (IHeap.get_lt x.gp) h1.1 h1.2).trans x.gp, fun hc => ?_⟩
  obtain ⟨g1, g2⟩ := x.gq hc
  exact ⟨(kp.get _ (IHeap.get_lt g1) h2.1 h2.2).trans g1, g2⟩
theorem plays_c {h : IHeap} {n : Int} {A : Option Addr} {ops : List (Int × Int × Int)} {cap : Nat} (hop : ∀ c ∈ ops, 0 ≤ c.2.2) (hb : OpsAt h A ops) :
    FN Try.prog 4 #[.int .i64 n, .slice A ops.length cap] h (Q := ⟨fun v h' => v = .bool true⟩) := by
  refine FN.enter mixed (fn := Try.f4) (by kernel_rfl) rfl (by kernel_rfl) fun e hn hg hd => ?_
  simp [Try.f4] at hn
  have a0 : e.get 0 = .int .i64 n := hg 0 (by omega)
  have a1 : e.get 1 = .slice A ops.length cap := hg 1 (by omega)
  clear hg
  by_cases g3 : (80 : Int) < ops.length
  · simp (maxSteps := 1000000) (disch := first | (simp; done) | (simp only [IHeap.size_push', IHeap.size_set']; omega) | omega) [a0, a1, hn, hd, g3, undef]
    refine FN.of known_c ?_
    simp (maxSteps := 1000000) (disch := first | (simp; done) | (simp only [IHeap.size_push', IHeap.size_set']; omega) | omega) [hn, hd]
  by_cases g4 : 100 < n ∧ n ≤ 65536
  · obtain ⟨g4, g5⟩ := g4
    simp (maxSteps := 1000000) (disch := first | (simp; done) | (simp only [IHeap.size_push', IHeap.size_set']; omega) | omega) [a0, a1, hn, hd, g3, g4, g5]
    refine FN.of known_c ?_
    simp (maxSteps := 1000000) (disch := first | (simp; done) | (simp only [IHeap.size_push', IHeap.size_set']; omega) | omega) [hn, hd]
  have hgd : ∀ b : Bool, True := fun _ => trivial
  by_cases g1 : n < 1
  · have g4 : ¬ 100 < n := by omega
    simp (maxSteps := 1000000) (disch := first | (simp; done) | (simp only [IHeap.size_push', IHeap.size_set']; omega) | omega) [a0, a1, hn, hd, g1, g3, g4]
    refine FN.of (newbad_c (.inl g1)) ?_
    simp (maxSteps := 1000000) (disch := first | (simp; done) | (simp only [IHeap.size_push', IHeap.size_set']; omega) | omega) [a0, a1, hn, hd, g1, g3, g4]
    refine FN.of known_c ?_
    simp (maxSteps := 1000000) (disch := first | (simp; done) | (simp only [IHeap.size_push', IHeap.size_set']; omega) | omega) [hn, hd]
  by_cases g2 : 65536 < n
  · have g4 : 100 < n := by omega
    have g5 : ¬ n ≤ 65536 := by omega
    simp (maxSteps := 1000000) (disch := first | (simp; done) | (simp only [IHeap.size_push', IHeap.size_set']; omega) | omega) [a0, a1, hn, hd, g1, g2, g3, g4, g5]
    refine FN.of (newbad_c (.inr g2)) ?_
    simp (maxSteps := 1000000) (disch := first | (simp; done) | (simp only [IHeap.size_push', IHeap.size_set']; omega) | omega) [a0, a1, hn, hd, g1, g2, g3, g4, g5]
    refine FN.of known_c ?_
    simp (maxSteps := 1000000) (disch := first | (simp; done) | (simp only [IHeap.size_push', IHeap.size_set']; omega) | omega) [hn, hd]
  have g4 : ¬ 100 < n := by omega
  obtain ⟨N, rfl⟩ : ∃ N : Nat, n = N := ⟨n.toNat, by omega⟩
  simp (maxSteps := 1000000) (disch := first | (simp; done) | (simp only [IHeap.size_push', IHeap.size_set']; omega) | omega) [a0, a1, hn, hd, g1, g2, g3, g4]
  refine FN.of (new_c (by omega)) ?_
  simp (maxSteps := 1000000) (disch := first | (simp; done) | (simp only [IHeap.size_push', IHeap.size_set']; omega) | omega) [a0, a1, hn, hd, g1, g2, g3, g4]
  refine FN.mono (rnew_c N (by omega)) ?_
  rintro v h2 ⟨rfl, ⟨rh, fv, xw⟩, fr⟩
  simp (maxSteps := 1000000) (disch := first | (simp; done) | (simp only [IHeap.size_push', IHeap.size_set']; omega) | omega) [a0, a1, hn, hd]
  have hz2 := fr.size
  simp only [IHeap.size_push'] at hz2
  have xa0 : (newAR N).at h2 h.size h.size := by
    have : h2.get h.size = some (.row false 0 ((newAR N).row 0)) := by
      rw [fr.get _ (by simp only [IHeap.size_push']; omega)]; simp (maxSteps := 1000000) (disch := first | (simp; done) | (simp only [IHeap.size_push', IHeap.size_set']; omega) | omega) []
    exact ⟨by simpa [AR.row, AR.slc, newAR] using this, fun hc => absurd rfl hc⟩
  have ho2 : ∀ i, i < h.size → h2.get i = h.get i := fun i hi => by
    rw [fr.get _ (by simp only [IHeap.size_push']; omega)]; simp (maxSteps := 1000000) (disch := first | (simp; done) | (simp only [IHeap.size_push', IHeap.size_set']; omega) | omega) []
  have st0 : PSt h h2 (newAR N) (newRA N) h.size h.size (h.size + 1 + 1) rh fv := by
    refine ⟨xa0, xw, fun _ => rfl, by omega, ho2, by omega, by omega⟩
  clear fr xa0 xw ho2
  refine WPL.by_inv mixed (by kernel_rfl) (fun k e h' => ∃ (j p q pw rh : Nat) (fv : Value) (a : AR) (w : RA) (L : List Nat), j + k = ops.length ∧ e.n = 146 ∧ e.dfr = [] ∧ e.get 5 = .pointer (some ⟨p, 0, none⟩) ∧ e.get 7 = .pointer (some ⟨pw, 0, none⟩) ∧ e.get 59 = .slice A ops.length cap ∧ e.get 60 = .int .i64 ops.length ∧ e.get 61 = .int .i64 j ∧ Rel j a w L ∧ PSt h h' a w p q pw rh fv) ops.length ?_ ?_
  · refine ⟨0, h.size, h.size, h.size + 1 + 1, rh, fv, newAR N, newRA N, [], ?_⟩
    simp (maxSteps := 1000000) (disch := first | (simp; done) | (simp only [IHeap.size_push', IHeap.size_set']; omega) | omega) [a0, a1, hn, hd]
    exact ⟨Rel.new (by omega), st0⟩
  clear hn hd a0 a1 st0 e
  rintro k e h1 ⟨j, p, q, pw, rh, fv, a, w, L, hj, hn, hd, e5, e7, e59, e60, e61, rel, st⟩
  cases k with
  | zero =>
    obtain rfl : j = ops.length := by omega
    simp (maxSteps := 1000000) (disch := first | (simp; done) | (simp only [IHeap.size_push', IHeap.size_set']; omega) | omega) [e5, e7, e59, e60, e61, hn, hd]
    refine FN.of known_c ?_
    simp (maxSteps := 1000000) (disch := first | (simp; done) | (simp only [IHeap.size_push', IHeap.size_set']; omega) | omega) [hn, hd]
  | succ k =>
    have hlt : j < ops.length := by omega
    have hlt2 : (j : Int) < ops.length := by omega
    obtain ⟨i, o, ro, esz, cs, rfl, hrow, hcs⟩ := hb (by intro e; rw [e] at hlt; simp at hlt)
    have hiz := IHeap.get_lt hrow
    have hrow1 : h1.get i = some (.row ro esz cs) := by rw [st.old i hiz]; exact hrow
    obtain ⟨c, hc⟩ : ∃ c, ops[j]? = some c := ⟨ops[j], by simp [hlt]⟩
    obtain ⟨c1, c2, c3⟩ := c
    have hc3 : 0 ≤ c3 := hop _ (List.mem_of_getElem? hc)
    have hsl := hcs j _ hc
    simp only at hsl
    rw [WP_seq (Q := _)]
    simp (maxSteps := 1000000) (disch := first | (simp; done) | (simp only [IHeap.size_push', IHeap.size_set']; omega) | omega) [-WP_seq, e5, e7, e59, e60, e61, hn, hd, hlt2]
    rw [WP_seq (Q := _)]
    simp (maxSteps := 1000000) (disch := first | (simp; done) | (simp only [IHeap.size_push', IHeap.size_set']; omega) | omega) [-WP_seq, e5, e7, e59, e60, e61, hn, hd, hlt2]
    rw [WP_seq (Q := _)]
    simp (maxSteps := 1000000) (disch := first | (simp; done) | (simp only [IHeap.size_push', IHeap.size_set']; omega) | omega) [-WP_seq, e5, e7, e59, e60, e61, hn, hd, hlt, hlt2, hrow1, hsl, one_int]
    rw [WP_seq (Q := _)]
    try simp (maxSteps := 1000000) (disch := first | (simp; done) | (simp only [IHeap.size_push', IHeap.size_set']; omega) | omega) [-WP_seq, e5, e7, e59, e60, e61, hn, hd, hlt, hlt2, hrow1, hsl, one_int]
    rw [WP_seq (Q := _)]
    try simp (maxSteps := 1000000) (disch := first | (simp; done) | (simp only [IHeap.size_push', IHeap.size_set']; omega) | omega) [-WP_seq, e5, e7, e59, e60, e61, hn, hd, hlt, hlt2, hrow1, hsl, one_int]
    rw [WP_seq (Q := _)]
    refine @WP.mono _ _ _ _ _ ⟨fun x e' h' => ∃ (p q pw rh : Nat) (fv : Value) (a : AR) (w : RA) (L : List Nat) (b : Nat), x = .normal ∧ e'.n = 146 ∧ e'.dfr = [] ∧ e'.get 5 = .pointer (some ⟨p, 0, none⟩) ∧ e'.get 7 = .pointer (some ⟨pw, 0, none⟩) ∧ e'.get 9 = .pointer (some ⟨b, 0, none⟩) ∧ e'.get 10 = .bool true ∧ e'.get 59 = .slice (some ⟨i, o, none⟩) ops.length cap ∧ e'.get 60 = .int .i64 ops.length ∧ e'.get 61 = .int .i64 j ∧ h'.get b = some (.row false 0 [.int .i64 c1, .int .i64 c2, .int .u64 c3]) ∧ Rel (j + 1) a w L ∧ PSt h h' a w p q pw rh fv⟩ _ ?_ ?_
    · have aok := rel.aok (by omega)
      have wok := rel.wok (by omega)
      have hlen : a.cs.length ≤ 1000 := by have := rel.len; have := rel.hn; omega
      have xa := st.xa
      have xw := st.xw
      have hq := st.hq
      have hsz := st.size
      have hold := st.old
      have hpp := st.hp
      have hqz := st.hqz
      have hpz := IHeap.get_lt xa.gp
      have hwz := IHeap.get_lt xw.gp
      obtain ⟨H, hH⟩ : ∃ H, H = h1.push (.row false 0 [.int .i64 c1, .int .i64 c2, .int .u64 c3]) := ⟨_, rfl⟩
      have Hz : H.size = h1.size + 1 := by rw [hH]; simp only [IHeap.size_push']
      have Hb : H.get h1.size = some (.row false 0 [.int .i64 c1, .int .i64 c2, .int .u64 c3]) := by rw [hH]; simp (maxSteps := 1000000) (disch := first | (simp; done) | (simp only [IHeap.size_push', IHeap.size_set']; omega) | omega) []
      have Ho : ∀ i, i < h1.size → H.get i = h1.get i := fun i hi => by rw [hH]; simp (maxSteps := 1000000) (disch := first | (simp; done) | (simp only [IHeap.size_push', IHeap.size_set']; omega) | omega) []
      have xaH := aat_inv xa Ho
      have xwH := hat_inv xw Ho
      have stH : PSt h H a w p q pw rh fv := st.ext (by omega) Ho
      rw [← hH]
      clear hH
      by_cases k1 : c1 = 1
      · simp (maxSteps := 1000000) (disch := first | (simp; done) | (simp only [IHeap.size_push', IHeap.size_set']; omega) | omega) [e5, e7, e59, e60, e61, hn, hd, Hb, k1]
        refine FN.mono (take_c aok xaH) ?_
        rintro v h2 ⟨rfl, q', hq', at', kp⟩
        obtain ⟨q2, hq2, st2⟩ := stH.stepA kp hq' at'
        obtain ⟨tv, L', rel'⟩ := rel.take
        have hz2 := kp.size
        have Hb2 : h2.get h1.size = some (.row false 0 [.int .i64 1, .int .i64 c2, .int .u64 c3]) := by rw [kp.get _ (by omega) (by omega) (by omega)]; rw [Hb, k1]
        obtain ⟨x, y, er, hv⟩ : ∃ x y er, a.takeV = .tuple #[.agg #[.int .i64 x, .int .u64 y], .int .i64 er] := by
          unfold AR.takeV
          cases a.take.2 <;> exact ⟨_, _, _, rfl⟩
        rw [hv]
        simp (maxSteps := 1000000) (disch := first | (simp; done) | (simp only [IHeap.size_push', IHeap.size_set']; omega) | omega) [e5, e7, e59, e60, e61, hn, hd, zerosC, one_int]
        have st3 := st2.ext (h' := h2.push (.row false 0 [.int .i64 x, .int .u64 y])) (by simp only [IHeap.size_push']; omega) (push_keeps _ _)
        refine FN.mono (rtake_c wok st3.xw) ?_
        rintro v h4 ⟨rfl, ⟨rh', fv', at2⟩, kp2⟩
        have st4 := st3.stepW kp2 at2
        have hz4 := kp2.size
        simp only [IHeap.size_push'] at hz4
        have hwz2 := IHeap.get_lt st2.xw.gp
        rw [← tv, hv]
        have g4 : h4.get h2.size = some (.row false 0 [.int .i64 x, .int .u64 y]) := by rw [kp2.get _ (by simp only [IHeap.size_push']; omega) (by omega)]; simp (maxSteps := 1000000) (disch := first | (simp; done) | (simp only [IHeap.size_push', IHeap.size_set']; omega) | omega) []
        have g4b : h4.get h1.size = some (.row false 0 [.int .i64 1, .int .i64 c2, .int .u64 c3]) := by rw [kp2.get _ (by simp only [IHeap.size_push']; omega) (by omega)]; simp (maxSteps := 1000000) (disch := first | (simp; done) | (simp only [IHeap.size_push', IHeap.size_set']; omega) | omega) [Hb2]
        simp (maxSteps := 1000000) (disch := first | (simp; done) | (simp only [IHeap.size_push', IHeap.size_set']; omega) | omega) [e5, e7, e59, e60, e61, hn, hd, zerosC, one_int, g4, eq32]
        have st5 := st4.ext (h' := h4.push (.row false 0 [.int .i64 x, .int .u64 y])) (by simp only [IHeap.size_push']; omega) (push_keeps _ _)
        exact ⟨g4b, q2, rh', fv', _, _, ⟨L', rel'⟩, st5⟩
      by_cases k2 : c1 = 2
      · simp (maxSteps := 1000000) (disch := first | (simp; done) | (simp only [IHeap.size_push', IHeap.size_set']; omega) | omega) [e5, e7, e59, e60, e61, hn, hd, Hb, k1, k2, slots3]
        refine FN.mono (free_c aok xaH c2 c3) ?_
        rintro v h2 ⟨rfl, at', kp⟩
        obtain ⟨q2, hq2, st2⟩ := stH.stepA kp (.inl rfl) at'
        obtain ⟨L', rel'⟩ := rel.free c2 c3 hc3
        have hz2 := kp.size
        have Hb2 : h2.get h1.size = some (.row false 0 [.int .i64 2, .int .i64 c2, .int .u64 c3]) := by rw [kp.get _ (by omega) (by omega) (by omega)]; rw [Hb, k2]
        simp (maxSteps := 1000000) (disch := first | (simp; done) | (simp only [IHeap.size_push', IHeap.size_set']; omega) | omega) [e5, e7, e59, e60, e61, hn, hd, Hb2, slots3]
        refine FN.mono (rfree_c wok st2.xw c2 c3) ?_
        rintro v h4 ⟨rfl, ⟨rh', fv', at2⟩, kp2⟩
        have st4 := st2.stepW kp2 at2
        have g4b : h4.get h1.size = some (.row false 0 [.int .i64 2, .int .i64 c2, .int .u64 c3]) := by rw [kp2.get _ (by omega) (by omega)]; exact Hb2
        rw [rel.lives c2 c3 hc3]
        simp (maxSteps := 1000000) (disch := first | (simp; done) | (simp only [IHeap.size_push', IHeap.size_set']; omega) | omega) [e5, e7, e59, e60, e61, hn, hd, Hb2]
        have kk : h2.get h1.size = H.get h1.size := by rw [Hb2, Hb, k2]
        exact ⟨niC_pend [(3, 6)] (by kernel_rfl) ⟨kk, trivial⟩, g4b, q2, rh', fv', _, _, ⟨L', rel'.mono (by omega)⟩, st4⟩
      by_cases k3 : c1 = 3
      · simp (maxSteps := 1000000) (disch := first | (simp; done) | (simp only [IHeap.size_push', IHeap.size_set']; omega) | omega) [e5, e7, e59, e60, e61, hn, hd, Hb, k1, k2, k3]
        refine FN.ct (at_c aok xaH c2) ?_
        intro h2 fr2
        have st2 := stH.ext fr2.size fr2.get
        have hz2 := fr2.size
        have Hb2 : h2.get h1.size = some (.row false 0 [.int .i64 3, .int .i64 c2, .int .u64 c3]) := by rw [fr2.get _ (by omega), getU_nil, Hb, k3]
        obtain ⟨x, y, b, hv, hy⟩ : ∃ x y b, a.atV c2 = .tuple #[.agg #[.int .i64 x, .int .u64 y], .bool b] ∧ 0 ≤ y := by
          unfold AR.atV
          split
          · rename_i hz
            refine ⟨_, _, _, rfl, ?_⟩
            unfold AR.get
            split
            · rw [List.getD_eq_getElem?_getD]
              cases hcc : a.cs[c2.toNat]? with
              | none => simp
              | some d => exact rel.pos d (List.mem_of_getElem? hcc)
            · omega
          · exact ⟨_, _, _, rfl, by omega⟩
        rw [hv]
        simp (maxSteps := 1000000) (disch := first | (simp; done) | (simp only [IHeap.size_push', IHeap.size_set']; omega) | omega) [e5, e7, e59, e60, e61, hn, hd, zerosC, one_int]
        have st3 := st2.ext (h' := h2.push (.row false 0 [.int .i64 x, .int .u64 y])) (by simp only [IHeap.size_push']; omega) (push_keeps _ _)
        refine FN.mono (free_c aok st3.xa x y) ?_
        rintro v h4 ⟨rfl, at', kp⟩
        obtain ⟨q2, hq2, st4⟩ := st3.stepA kp (.inl rfl) at'
        obtain ⟨L', rel'⟩ := rel.free x y hy
        have hz4 := kp.size
        simp only [IHeap.size_push'] at hz4
        have Hb4 : h4.get h1.size = some (.row false 0 [.int .i64 3, .int .i64 c2, .int .u64 c3]) := by rw [kp.get _ (by simp only [IHeap.size_push']; omega) (by omega) (by omega)]; simp (maxSteps := 1000000) (disch := first | (simp; done) | (simp only [IHeap.size_push', IHeap.size_set']; omega) | omega) [Hb2]
        have g4 : h4.get h2.size = some (.row false 0 [.int .i64 x, .int .u64 y]) := by rw [kp.get _ (by simp only [IHeap.size_push']; omega) (by omega) (by omega)]; simp (maxSteps := 1000000) (disch := first | (simp; done) | (simp only [IHeap.size_push', IHeap.size_set']; omega) | omega) []
        simp (maxSteps := 1000000) (disch := first | (simp; done) | (simp only [IHeap.size_push', IHeap.size_set']; omega) | omega) [e5, e7, e59, e60, e61, hn, hd, g4]
        refine FN.mono (rfree_c wok st4.xw x y) ?_
        rintro v h5 ⟨rfl, ⟨rh', fv', at2⟩, kp2⟩
        have st5 := st4.stepW kp2 at2
        have Hb5 : h5.get h1.size = some (.row false 0 [.int .i64 3, .int .i64 c2, .int .u64 c3]) := by rw [kp2.get _ (by omega) (by omega)]; exact Hb4
        rw [rel.lives x y hy]
        simp (maxSteps := 1000000) (disch := first | (simp; done) | (simp only [IHeap.size_push', IHeap.size_set']; omega) | omega) [e5, e7, e59, e60, e61, hn, hd]
        have kk : h4.get h2.size = (h2.push (.row false 0 [.int .i64 x, .int .u64 y])).get h2.size := by rw [g4]; simp (maxSteps := 1000000) (disch := first | (simp; done) | (simp only [IHeap.size_push', IHeap.size_set']; omega) | omega) []
        exact ⟨niC_pend [(2, 4)] (by kernel_rfl) ⟨kk, trivial⟩, Hb5, q2, rh', fv', _, _, ⟨L', rel'.mono (by omega)⟩, st5⟩
      by_cases k4 : c1 = 4
      · simp (maxSteps := 1000000) (disch := first | (simp; done) | (simp only [IHeap.size_push', IHeap.size_set']; omega) | omega) [e5, e7, e59, e60, e61, hn, hd, Hb, k1, k2, k3, k4]
        refine FN.mono (copy_c aok hlen xaH) ?_
        rintro v h2 ⟨rfl, ⟨q', atc, hq'⟩, fr2⟩
        have st2 := stH.ext fr2.size fr2.get
        have hz2 := fr2.size
        simp (maxSteps := 1000000) (disch := first | (simp; done) | (simp only [IHeap.size_push', IHeap.size_set']; omega) | omega) [e5, e7, e59, e60, e61, hn, hd]
        refine FN.mono (take_c aok st2.xa) ?_
        rintro v h3 ⟨rfl, q3, hq3, at3, kp3⟩
        obtain ⟨q4, hq4, st3⟩ := st2.stepA kp3 hq3 at3
        have atc3 := at_keeps atc kp3 (by omega) (by omega)
        have hz3 := kp3.size
        simp (maxSteps := 1000000) (disch := first | (simp; done) | (simp only [IHeap.size_push', IHeap.size_set']; omega) | omega) [e5, e7, e59, e60, e61, hn, hd]
        refine FN.mono (rcopy_c wok st3.xw) ?_
        rintro v h4 ⟨rfl, ⟨rh', fv', atw⟩, fr4⟩
        have hz4 := fr4.size
        have atc4 := aat_inv atc3 fr4.get
        obtain ⟨q5, atc5, e1, e2, e3⟩ := at_pick atc4
        simp (maxSteps := 1000000) (disch := first | (simp; done) | (simp only [IHeap.size_push', IHeap.size_set']; omega) | omega) [e5, e7, e59, e60, e61, hn, hd]
        have Hb4 : h4.get h1.size = some (.row false 0 [.int .i64 4, .int .i64 c2, .int .u64 c3]) := by
          rw [fr4.get _ (by omega), getU_nil, kp3.get _ (by omega) (by omega) (by omega), fr2.get _ (by omega), getU_nil, Hb, k4]
        refine ⟨Hb4, q5, rh', fv', a, w, ⟨L, rel.mono (by omega)⟩, ⟨atc5, atw, e1, by omega, fun i hi => ?_, by omega, e2⟩⟩
        rw [fr4.get _ (by omega), getU_nil]
        exact st3.old i hi
      by_cases k5 : c1 = 5
      · simp (maxSteps := 1000000) (disch := first | (simp; done) | (simp only [IHeap.size_push', IHeap.size_set']; omega) | omega) [e5, e7, e59, e60, e61, hn, hd, Hb, k1, k2, k3, k4, k5]
        refine FN.mono (copy_c aok hlen xaH) ?_
        rintro v h2 ⟨rfl, ⟨q', atc, hq'⟩, fr2⟩
        have hz2 := fr2.size
        simp (maxSteps := 1000000) (disch := first | (simp; done) | (simp only [IHeap.size_push', IHeap.size_set']; omega) | omega) [e5, e7, e59, e60, e61, hn, hd]
        refine FN.mono (take_c aok atc) ?_
        rintro v h3 ⟨rfl, q3, hq3, at3, kp3⟩
        have hz3 := kp3.size
        have Hb3 : h3.get h1.size = some (.row false 0 [.int .i64 5, .int .i64 c2, .int .u64 c3]) := by
          rw [kp3.get _ (by omega) (by omega) (by omega), fr2.get _ (by omega), getU_nil, Hb, k5]
        obtain ⟨_, L', rel'⟩ := rel.take
        simp (maxSteps := 1000000) (disch := first | (simp; done) | (simp only [IHeap.size_push', IHeap.size_set']; omega) | omega) [e5, e7, e59, e60, e61, hn, hd, Hb3, slots3]
        refine FN.mono (free_c (rel'.aok (by omega)) at3 c2 c3) ?_
        rintro v h4 ⟨rfl, at4, kp4⟩
        have hz4 := kp4.size
        have Hb4 : h4.get h1.size = some (.row false 0 [.int .i64 5, .int .i64 c2, .int .u64 c3]) := by
          rw [kp4.get _ (by omega) (by omega) (by omega)]; exact Hb3
        have st4 := stH.ext (h' := h4) (by omega) (fun i hi => by
          rw [kp4.get _ (by omega) (by omega) (by omega), kp3.get _ (by omega) (by omega) (by omega), fr2.get _ (by omega), getU_nil])
        simp (maxSteps := 1000000) (disch := first | (simp; done) | (simp only [IHeap.size_push', IHeap.size_set']; omega) | omega) [e5, e7, e59, e60, e61, hn, hd]
        exact ⟨Hb4, q, rh, fv, a, w, ⟨L, rel.mono (by omega)⟩, st4⟩
      · simp (maxSteps := 1000000) (disch := first | (simp; done) | (simp only [IHeap.size_push', IHeap.size_set']; omega) | omega) [e5, e7, e59, e60, e61, hn, hd, Hb, k1, k2, k3, k4, k5]
        exact ⟨q, rh, fv, a, w, ⟨L, rel.mono (by omega)⟩, stH⟩
    · clear e5 e7 e59 e60 e61 hn hd st rel e
      rintro y e h2 ⟨p, q, pw, rh, fv, a, w, L, b, rfl, hn, hd, e5, e7, e9, e10, e59, e60, e61, gb, rel, st⟩
      simp (maxSteps := 1000000) (disch := first | (simp; done) | (simp only [IHeap.size_push', IHeap.size_set']; omega) | omega) [e5, e7, e9, e10, e59, e60, e61, hn, hd, gb, slots3]
      refine FN.ct (same_c (rel.aok (by omega)) (rel.wok (by omega)) st.xa st.xw rel.same c2 c3 hc3) ?_
      intro h3 fr
      have st3 := st.ext fr.size fr.get
      simp (maxSteps := 1000000) (disch := first | (simp; done) | (simp only [IHeap.size_push', IHeap.size_set']; omega) | omega) [e5, e7, e9, e10, e59, e60, e61, hn, hd, wrap64]
      exact ⟨k, by omega, j + 1, by omega, by omega, q, rh, fv, a, w, ⟨L, rel⟩, st3⟩
end Go.Proofs.Ytkecaobcchnilaa.Ideal
