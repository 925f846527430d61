import Derived.Test.YtgfemimlpbileaaP13h
noncomputable section
open Go.Proofs
namespace Go.Proofs.Ytgfemimlpbileaa.Ideal
open Go.RowKit
set_option linter.unusedSimpArgs false
set_option linter.unusedVariables false
set_option linter.unusedSectionVars false
set_option linter.unnecessarySimpa false
set_option maxRecDepth 100000
set_option maxHeartbeats 2000000
attribute [-simp] IHeap.size_set IHeap.size_push
attribute [local simp ↓] Hid.ap_mk
attribute [local simp] scopeQ_normal scopeQ_ret scopeQ_exit WP_skip WP_label WP_exit WP_goto WP_ret WP_region WP_seq WP_cond WP_block WP_scope WP_loop WP_range thenQ_normal thenQ_ret thenQ_exit thenQ_goto loopQ_normal loopQ_ret loopQ_exit invQ_normal invQ_ret invQ_exit outOf_normal outOf_ret outOf_goto outOf_exit ev_tmp ev_const ev_func
  wops_nil wops_cons wantedE_none wantedE_some jgd_some wnx_eq niC_false wdo_move wdo_assign wdo_pick wdo_load wdo_store wdo_alloc wdo_box wdo_fieldAddr wdo_indexAddr wdo_field wdo_extract wdo_build wdo_buildSlice wdo_makeSlice wdo_binOp wdo_unOp wdo_makeFunc wdo_nilCheck wdo_callV wdo_len wdo_append wdo_copy wdo_delete wdo_max wdo_min wdo_convert jcvt_int
  xput_get put_n put_none put_dfr ibin finQ_n finQ_r finD_nil splice_one ires_nil ires_one ires_two ires_three ires1_tmp ires1_cell jcell_ptr rowLoad_row wrap64 wrapU64 wrapU8 wrapU16 wrapU32 callV_fn buildOf Instr.fill Value.cells Value.oneCell' kindOf slots_all splice_all IHeap.size_set' IHeap.size_push' IHeap.get_set_same IHeap.get_set_ne IHeap.get_pushed IHeap.get_push_ne IHeap.set_set IHeap.set_push IHeap.set_pushed IHeap.set_set3 getU_nil getU_same getU_ne jif_true jif_false pushH_eq setH_eq forceL_eq forceV_eq ibuildSlice
attribute [-simp] Value.oneCell'
theorem slots4a (a b x y : Value) : slots [a, b, x, y] 2 2 = some [x, y] := by simp [slots]
theorem push_keeps (h : IHeap) (o : IObj) : ∀ i, i < h.size → (h.push o).get i = h.get i := fun i hi => IHeap.get_push_ne _ (by omega)
theorem apart {h : IHeap} {p q pw rf rm re : Nat} {t : TB} (hl : 8 ≤ t.ps.length) (xa : t.at h p q) (xw : RAt t.ps h pw rf rm re) : (pw ≠ p ∧ pw ≠ q) ∧ (rf ≠ p ∧ rf ≠ q) ∧ (rm ≠ p ∧ rm ≠ q) ∧ (re ≠ p ∧ re ≠ q) := by
  have hc : t.ps ≠ [] := fun h => by rw [h] at hl; simp at hl
  have gp := xa.gp
  obtain ⟨gq, _⟩ := xa.gq hc
  have gw := xw.gp
  have gf := xw.gf
  have gm := xw.gm
  have ge := xw.ge
  refine ⟨⟨?_, ?_⟩, ⟨?_, ?_⟩, ⟨?_, ?_⟩, ⟨?_, ?_⟩⟩ <;> rintro rfl
  · rw [gp] at gw; simp [TB.row] at gw
  · rw [gq] at gw; simp at gw
  · rw [gp] at gf; simp at gf
  · rw [gq] at gf; simp at gf
  · rw [gp] at gm; simp at gm
  · rw [gq] at gm; simp at gm
  · rw [gp] at ge; simp at ge
  · rw [gq] at ge; simp at ge
theorem w_keep {h h' : IHeap} {p q pw rf rm re : Nat} {t : TB} (hl : 8 ≤ t.ps.length) (xa : t.at h p q) (xw : RAt t.ps h pw rf rm re) (kp : Keeps h h' p q) : RAt t.ps h' pw rf rm re := by
  obtain ⟨h1, h2, h3, h4⟩ := apart hl xa xw
  exact ⟨(kp.get _ (IHeap.get_lt xw.gp) h1.1 h1.2).trans xw.gp, (kp.get _ (IHeap.get_lt xw.gf) h2.1 h2.2).trans xw.gf, (kp.get _ (IHeap.get_lt xw.gm) h3.1 h3.2).trans xw.gm, (kp.get _ (IHeap.get_lt xw.ge) h4.1 h4.2).trans xw.ge, xw.ne, xw.len⟩
theorem at_keeps {h h' : IHeap} {t : TB} {pc qc p q : Nat} (x : t.at h pc qc) (kp : Keeps h h' p q) (h1 : pc ≠ p ∧ pc ≠ q) (h2 : qc ≠ p ∧ qc ≠ q) : t.at h' pc qc := by
  refine ⟨(kp.get _ (IHeap.get_lt x.gp) h1.1 h1.2).trans x.gp, fun hc => ?_⟩
  obtain ⟨g1, g2⟩ := x.gq hc
  exact ⟨(kp.get _ (IHeap.get_lt g1) h2.1 h2.2).trans g1, g2⟩
/-- What lies in memory: the program's table, and the document's, of one content; l: the document's, if it is behind. -/
structure PSt (h0 h : IHeap) (t : TB) (l : List PL) (p q pw rf rm re : Nat) : Prop where
  xa : t.at h p q
  xw : RAt l h pw rf rm re
  size : h0.size ≤ h.size
  old : ∀ i, i < h0.size → h.get i = h0.get i
  hp : h0.size ≤ p ∧ h0.size ≤ q ∧ h0.size ≤ pw
  hqz : q < h.size
theorem PSt.ext {h0 h h' : IHeap} {t : TB} {l : List PL} {p q pw rf rm re : Nat} (st : PSt h0 h t l p q pw rf rm re) (hs : h.size ≤ h'.size) (k : ∀ i, i < h.size → h'.get i = h.get i) : PSt h0 h' t l p q pw rf rm re :=
  ⟨tat_inv st.xa k, rat_inv st.xw k, by have := st.size; omega, fun i hi => (k i (by have := st.size; omega)).trans (st.old i hi), st.hp, by have := st.hqz; omega⟩
theorem PSt.stepA {h0 h h' : IHeap} {t t' : TB} {p q pw rf rm re : Nat} (hl : 8 ≤ t.ps.length) (st : PSt h0 h t t.ps p q pw rf rm re) (kp : Keeps h h' p q) (at' : t'.at h' p q) : PSt h0 h' t' t.ps p q pw rf rm re := by
  have h1 := st.size
  have h2 := st.hp
  have h3 := kp.size
  have h4 := st.hqz
  refine ⟨at', w_keep hl st.xa st.xw kp, by omega, fun i hi => ?_, h2, by omega⟩
  rw [kp.get i (by omega) (by omega) (by omega)]; exact st.old i hi
theorem PSt.stepW {h0 h h' : IHeap} {t : TB} {l l' : List PL} {p q pw rf rm re rf' rm' re' : Nat} (hne : p ≠ pw ∧ q ≠ pw) (st : PSt h0 h t l p q pw rf rm re) (kp : Keep1 h h' pw) (at' : RAt l' h' pw rf' rm' re') : PSt h0 h' t l' p q pw rf' rm' re' := by
  have h1 := st.size
  have h2 := st.hp
  have h3 := kp.size
  have h4 := st.hqz
  refine ⟨⟨(kp.get _ (IHeap.get_lt st.xa.gp) hne.1).trans st.xa.gp, fun hc => ?_⟩, at', by omega, fun i hi => ?_, h2, by omega⟩
  · obtain ⟨g1, g2⟩ := st.xa.gq hc
    exact ⟨(kp.get _ (IHeap.get_lt g1) hne.2).trans g1, g2⟩
  · rw [kp.get i (by omega) (by omega)]; exact st.old i hi
/-- The calls that are handed in. -/
abbrev OP := Int × Int × Int × Int
def OpsAt (h : IHeap) (A : Option Addr) (ops : List OP) : Prop := ops ≠ [] → ∃ i o ro esz cs, A = some ⟨i, o, none⟩ ∧ h.get i = some (.row ro esz cs) ∧ ∀ j c, ops[j]? = some c → slots cs (o + j * 4) 4 = some [.int .i64 c.1, .int .i64 c.2.1, .int .u64 c.2.2.1, .int .u32 c.2.2.2]
theorem plays_c {h : IHeap} {n : Int} {A : Option Addr} {ops : List OP} {cap : Nat} (hop : ∀ c ∈ ops, 0 ≤ c.2.2.1 ∧ c.2.2.1 < 18446744073709551616) (hb : OpsAt h A ops) :
    FN Try.prog 4 #[.int .i64 n, .slice A ops.length cap] h (Q := ⟨fun v h' => v = .bool true⟩) := by
  refine FN.enter mixed (fn := Try.f4) (by kernel_rfl) rfl (by kernel_rfl) fun e hn hg hd => ?_
  simp [Try.f4] at hn
  have a0 : e.get 0 = .int .i64 n := hg 0 (by omega)
  have a1 : e.get 1 = .slice A ops.length cap := hg 1 (by omega)
  clear hg
  by_cases g3 : (80 : Int) < ops.length
  · simp (maxSteps := 1000000) (disch := first | (simp; done) | (simp only [IHeap.size_push', IHeap.size_set']; omega) | omega) [a0, a1, hn, hd, g3, undef]
    refine FN.of known_c ?_
    simp (maxSteps := 1000000) (disch := first | (simp; done) | (simp only [IHeap.size_push', IHeap.size_set']; omega) | omega) [hn, hd]
  by_cases g4 : 256 < n ∧ n ≤ 262144
  · obtain ⟨g4, g5⟩ := g4
    simp (maxSteps := 1000000) (disch := first | (simp; done) | (simp only [IHeap.size_push', IHeap.size_set']; omega) | omega) [a0, a1, hn, hd, g3, g4, g5]
    refine FN.of known_c ?_
    simp (maxSteps := 1000000) (disch := first | (simp; done) | (simp only [IHeap.size_push', IHeap.size_set']; omega) | omega) [hn, hd]
  by_cases g1 : n < 8
  · have g4 : ¬ 256 < n := by omega
    have hm := may_low g1
    simp (maxSteps := 1000000) (disch := first | (simp; done) | (simp only [IHeap.size_push', IHeap.size_set']; omega) | omega) [a0, a1, hn, hd, g1, g3, g4, undef]
    refine FN.of (newbad_c n (.inl g1)) ?_
    simp (maxSteps := 1000000) (disch := first | (simp; done) | (simp only [IHeap.size_push', IHeap.size_set']; omega) | omega) [a0, a1, hn, hd, g1, g3, g4]
    refine FN.of (may_c n) ?_
    simp (maxSteps := 1000000) (disch := first | (simp; done) | (simp only [IHeap.size_push', IHeap.size_set']; omega) | omega) [a0, a1, hn, hd, hm]
    refine FN.of known_c ?_
    simp (maxSteps := 1000000) (disch := first | (simp; done) | (simp only [IHeap.size_push', IHeap.size_set']; omega) | omega) [hn, hd]
  by_cases g2 : 262144 < n
  · have g4 : 256 < n := by omega
    have g5 : ¬ n ≤ 262144 := by omega
    have hm := may_high g2
    simp (maxSteps := 1000000) (disch := first | (simp; done) | (simp only [IHeap.size_push', IHeap.size_set']; omega) | omega) [a0, a1, hn, hd, g1, g2, g3, g4, g5]
    refine FN.of (newbad_c n (.inr g2)) ?_
    simp (maxSteps := 1000000) (disch := first | (simp; done) | (simp only [IHeap.size_push', IHeap.size_set']; omega) | omega) [a0, a1, hn, hd, g1, g3, g4]
    refine FN.of (may_c n) ?_
    simp (maxSteps := 1000000) (disch := first | (simp; done) | (simp only [IHeap.size_push', IHeap.size_set']; omega) | omega) [a0, a1, hn, hd, hm]
    refine FN.of known_c ?_
    simp (maxSteps := 1000000) (disch := first | (simp; done) | (simp only [IHeap.size_push', IHeap.size_set']; omega) | omega) [hn, hd]
  have g4 : ¬ 256 < n := by omega
  obtain ⟨N, rfl⟩ : ∃ N : Nat, n = N := ⟨n.toNat, by omega⟩
  have hN : 8 ≤ N ∧ N ≤ 256 := by omega
  obtain ⟨hm1, hm2⟩ := may_small hN
  by_cases hmk : maskI N ≠ 0
  · have hm : mayB N = false := by rw [hm1]; simpa using hmk
    simp (maxSteps := 1000000) (disch := first | (simp; done) | (simp only [IHeap.size_push', IHeap.size_set']; omega) | omega) [a0, a1, hn, hd, g1, g2, g3, g4, undef]
    refine FN.of (newbad2_c N hN hmk) ?_
    simp (maxSteps := 1000000) (disch := first | (simp; done) | (simp only [IHeap.size_push', IHeap.size_set']; omega) | omega) [a0, a1, hn, hd, g1, g3, g4]
    refine FN.of (may_c N) ?_
    simp (maxSteps := 1000000) (disch := first | (simp; done) | (simp only [IHeap.size_push', IHeap.size_set']; omega) | omega) [a0, a1, hn, hd, hm]
    refine FN.of known_c ?_
    simp (maxSteps := 1000000) (disch := first | (simp; done) | (simp only [IHeap.size_push', IHeap.size_set']; omega) | omega) [hn, hd]
  have hmk0 : maskI N = 0 := Classical.not_not.1 hmk
  have hm : mayB N = true := by rw [hm1]; simpa using hmk0
  have hdv := hm2 hm
  simp (maxSteps := 1000000) (disch := first | (simp; done) | (simp only [IHeap.size_push', IHeap.size_set']; omega) | omega) [a0, a1, hn, hd, g1, g2, g3, g4, undef]
  refine FN.of (new_c N (by omega) hmk0) ?_
  have xa0 : (newTB N).at ((h.push (.row false 3 (flat3 (List.replicate N (0, 0, 0))))).push (.row false 0 ((newTB N).row h.size))) (h.size + 1) h.size := by
    refine ⟨?_, fun _ => ⟨?_, by omega⟩⟩
    · generalize newTB N = t
      generalize List.replicate N ((0 : Int), (0 : Int), (0 : Int)) = l
      simp (maxSteps := 1000000) (disch := first | (simp; done) | (simp only [IHeap.size_push', IHeap.size_set']; omega) | omega) []
    · show _ = some (IObj.row false 3 (flat3 (List.replicate N (0, 0, 0))))
      generalize newTB N = t
      generalize List.replicate N ((0 : Int), (0 : Int), (0 : Int)) = l
      simp (maxSteps := 1000000) (disch := first | (simp; done) | (simp only [IHeap.size_push', IHeap.size_set']; omega) | omega) []
  obtain ⟨H, hH⟩ : ∃ H, H = (h.push (.row false 3 (flat3 (List.replicate N (0, 0, 0))))).push (.row false 0 ((newTB N).row h.size)) := ⟨_, rfl⟩
  rw [← hH] at xa0 ⊢
  have Hz : H.size = h.size + 2 := by rw [hH]; simp only [IHeap.size_push']
  have Ho : ∀ i, i < h.size → H.get i = h.get i := fun i hi => by
    rw [hH, IHeap.get_push_ne _ (by simp only [IHeap.size_push']; omega), IHeap.get_push_ne _ (by omega)]
  clear hH
  simp (maxSteps := 1000000) (disch := first | (simp; done) | (simp only [IHeap.size_push', IHeap.size_set']; omega) | omega) [a0, a1, hn, hd]
  refine FN.of (may_c N) ?_
  simp (maxSteps := 1000000) (disch := first | (simp; done) | (simp only [IHeap.size_push', IHeap.size_set']; omega) | omega) [a0, a1, hn, hd, hm]
  refine FN.mono (rnew_c N hN) ?_
  rintro v h2 ⟨pw, rf, rm, re, rfl, hpw, xw0, fr⟩
  have hz2 := fr.size
  have tok0 : TOK (newTB N) := TOK.new hN hdv
  have st0 : PSt h h2 (newTB N) (newTB N).ps (h.size + 1) h.size pw rf rm re :=
    ⟨tat_inv xa0 fr.get, xw0, by omega, fun i hi => (fr.get i (by omega)).trans (Ho i hi), by omega, by omega⟩
  generalize newTB N = t0 at tok0 st0
  simp (maxSteps := 1000000) (disch := first | (simp; done) | (simp only [IHeap.size_push', IHeap.size_set']; omega) | omega) [a0, a1, hn, hd]
  clear fr xa0 xw0
  refine WPL.by_inv mixed (by kernel_rfl) (fun k e h' => ∃ (j p q pw rf rm re : Nat) (t : TB), j + k = ops.length ∧ e.n = 181 ∧ e.dfr = [] ∧ e.get 5 = .pointer (some ⟨p, 0, none⟩) ∧ e.get 7 = .pointer (some ⟨pw, 0, none⟩) ∧ e.get 58 = .slice A ops.length cap ∧ e.get 59 = .int .i64 ops.length ∧ e.get 60 = .int .i64 j ∧ TOK t ∧ PSt h h' t t.ps p q pw rf rm re) ops.length ?_ ?_
  · refine ⟨0, h.size + 1, h.size, pw, rf, rm, re, t0, ?_⟩
    simp (maxSteps := 1000000) (disch := first | (simp; done) | (simp only [IHeap.size_push', IHeap.size_set']; omega) | omega) [a0, a1, hn, hd]
    exact ⟨tok0, st0⟩
  clear hn hd a0 a1 st0 tok0 e
  rintro k e h1 ⟨j, p, q, pw, rf, rm, re, t, hj, hn, hd, e5, e7, e58, e59, e60, tok, st⟩
  cases k with
  | zero =>
    obtain rfl : j = ops.length := by omega
    simp (maxSteps := 1000000) (disch := first | (simp; done) | (simp only [IHeap.size_push', IHeap.size_set']; omega) | omega) [e5, e7, e58, e59, e60, hn, hd]
    refine FN.of known_c ?_
    simp (maxSteps := 1000000) (disch := first | (simp; done) | (simp only [IHeap.size_push', IHeap.size_set']; omega) | omega) [hn, hd]
  | succ k =>
    have hlt : j < ops.length := by omega
    have hlt2 : (j : Int) < ops.length := by omega
    obtain ⟨i, o, ro, esz, cs, rfl, hrow, hcs⟩ := hb (by intro e; rw [e] at hlt; simp at hlt)
    have hiz := IHeap.get_lt hrow
    have hrow1 : h1.get i = some (.row ro esz cs) := by rw [st.old i hiz]; exact hrow
    obtain ⟨c, hc⟩ : ∃ c, ops[j]? = some c := ⟨ops[j], by simp [hlt]⟩
    obtain ⟨c1, c2, c3, c4⟩ := c
    have hc3 : 0 ≤ c3 ∧ c3 < 18446744073709551616 := hop _ (List.mem_of_getElem? hc)
    have hsl := hcs j _ hc
    simp only at hsl
    rw [WP_seq (Q := _)]
    simp (maxSteps := 1000000) (disch := first | (simp; done) | (simp only [IHeap.size_push', IHeap.size_set']; omega) | omega) [-WP_seq, e5, e7, e58, e59, e60, hn, hd, hlt2]
    rw [WP_seq (Q := _)]
    simp (maxSteps := 1000000) (disch := first | (simp; done) | (simp only [IHeap.size_push', IHeap.size_set']; omega) | omega) [-WP_seq, e5, e7, e58, e59, e60, hn, hd, hlt2]
    rw [WP_seq (Q := _)]
    simp (maxSteps := 1000000) (disch := first | (simp; done) | (simp only [IHeap.size_push', IHeap.size_set']; omega) | omega) [-WP_seq, e5, e7, e58, e59, e60, hn, hd, hlt, hlt2, hrow1, hsl, one_int]
    rw [WP_seq (Q := _)]
    try simp (maxSteps := 1000000) (disch := first | (simp; done) | (simp only [IHeap.size_push', IHeap.size_set']; omega) | omega) [-WP_seq, e5, e7, e58, e59, e60, hn, hd, hlt, hlt2, hrow1, hsl, one_int]
    rw [WP_seq (Q := _)]
    try simp (maxSteps := 1000000) (disch := first | (simp; done) | (simp only [IHeap.size_push', IHeap.size_set']; omega) | omega) [-WP_seq, e5, e7, e58, e59, e60, hn, hd, hlt, hlt2, hrow1, hsl, one_int]
    rw [WP_seq (Q := _)]
    refine @WP.mono _ _ _ _ _ ⟨fun x e' h' => ∃ (p q pw rf rm re : Nat) (t : TB), x = .normal ∧ e'.n = 181 ∧ e'.dfr = [] ∧ e'.get 5 = .pointer (some ⟨p, 0, none⟩) ∧ e'.get 7 = .pointer (some ⟨pw, 0, none⟩) ∧ e'.get 10 = .bool true ∧ e'.get 58 = .slice (some ⟨i, o, none⟩) ops.length cap ∧ e'.get 59 = .int .i64 ops.length ∧ e'.get 60 = .int .i64 j ∧ TOK t ∧ PSt h h' t t.ps p q pw rf rm re⟩ _ ?_ ?_
    · have xa := st.xa
      have xw := st.xw
      have hsz := st.size
      have hold := st.old
      have hpp := st.hp
      have hqz := st.hqz
      have hl8 := tok.len
      have hok := tok.ok
      have hne0 : t.ps ≠ [] := fun h => by rw [h] at hl8; simp at hl8
      obtain ⟨ap1, ap2, ap3, ap4⟩ := apart hl8.1 xa xw
      have hnw : p ≠ pw ∧ q ≠ pw := ⟨Ne.symm ap1.1, Ne.symm ap1.2⟩
      have hpz := IHeap.get_lt xa.gp
      have hwz := IHeap.get_lt xw.gp
      obtain ⟨H, hH⟩ : ∃ H, H = h1.push (.row false 0 [.int .i64 c1, .int .i64 c2, .int .u64 c3, .int .u32 c4]) := ⟨_, rfl⟩
      have Hz : H.size = h1.size + 1 := by rw [hH]; simp only [IHeap.size_push']
      have Hb : H.get h1.size = some (.row false 0 [.int .i64 c1, .int .i64 c2, .int .u64 c3, .int .u32 c4]) := by rw [hH]; simp (maxSteps := 1000000) (disch := first | (simp; done) | (simp only [IHeap.size_push', IHeap.size_set']; omega) | omega) []
      have Ho : ∀ i, i < h1.size → H.get i = h1.get i := fun i hi => by rw [hH]; simp (maxSteps := 1000000) (disch := first | (simp; done) | (simp only [IHeap.size_push', IHeap.size_set']; omega) | omega) []
      have stH : PSt h H t t.ps p q pw rf rm re := st.ext (by omega) Ho
      have xaH := stH.xa
      have xwH := stH.xw
      rw [← hH]
      clear hH
      by_cases k1 : c1 = 1
      · simp (maxSteps := 1000000) (disch := first | (simp; done) | (simp only [IHeap.size_push', IHeap.size_set']; omega) | omega) [e5, e7, e58, e59, e60, hn, hd, Hb, k1, slots4a]
        refine FN.mono (put_c hok xaH c3 c4 hc3) ?_
        rintro v h2 ⟨rfl, at', kp⟩
        have st2 := stH.stepA hl8.1 kp at'
        have hz2 := kp.size
        have Hb2 : h2.get h1.size = some (.row false 0 [.int .i64 1, .int .i64 c2, .int .u64 c3, .int .u32 c4]) := by rw [kp.get _ (by omega) (by omega) (by omega)]; rw [Hb, k1]
        obtain ⟨x, er, hv⟩ : ∃ x er, t.putV c3 = .tuple #[.int .i64 x, .int .i64 er] := by
          unfold TB.putV
          split
          · exact ⟨_, _, rfl⟩
          · split <;> exact ⟨_, _, rfl⟩
        rw [hv]
        simp (maxSteps := 1000000) (disch := first | (simp; done) | (simp only [IHeap.size_push', IHeap.size_set']; omega) | omega) [e5, e7, e58, e59, e60, hn, hd, Hb2, slots4a]
        refine FN.mono (rput_c tok.dv st2.xw c3 c4 hc3) ?_
        rintro v h4 ⟨rfl, ⟨rf', rm', re', at2⟩, kp2⟩
        have st4 := st2.stepW hnw kp2 at2
        rw [hv]
        simp (maxSteps := 1000000) (disch := first | (simp; done) | (simp only [IHeap.size_push', IHeap.size_set']; omega) | omega) [e5, e7, e58, e59, e60, hn, hd]
        exact ⟨q, rf', rm', re', _, tok.put c3 c4, st4⟩
      by_cases k3 : c1 = 3
      · simp (maxSteps := 1000000) (disch := first | (simp; done) | (simp only [IHeap.size_push', IHeap.size_set']; omega) | omega) [e5, e7, e58, e59, e60, hn, hd, Hb, k1, k3, slots4a]
        refine FN.mono (drop_c hok xaH c2) ?_
        rintro v h2 ⟨rfl, at', kp⟩
        have st2 := stH.stepA hl8.1 kp at'
        have hz2 := kp.size
        have Hb2 : h2.get h1.size = some (.row false 0 [.int .i64 3, .int .i64 c2, .int .u64 c3, .int .u32 c4]) := by rw [kp.get _ (by omega) (by omega) (by omega)]; rw [Hb, k3]
        simp (maxSteps := 1000000) (disch := first | (simp; done) | (simp only [IHeap.size_push', IHeap.size_set']; omega) | omega) [e5, e7, e58, e59, e60, hn, hd, Hb2, slots4a]
        refine FN.mono (rdrop_c st2.xw c2) ?_
        rintro v h4 ⟨rfl, ⟨rf', rm', re', at2⟩, kp2⟩
        have st4 := st2.stepW hnw kp2 at2
        simp (maxSteps := 1000000) (disch := first | (simp; done) | (simp only [IHeap.size_push', IHeap.size_set']; omega) | omega) [e5, e7, e58, e59, e60, hn, hd]
        have kk : h2.get h1.size = H.get h1.size := by rw [Hb2, Hb, k3]
        exact ⟨niC_pend [(3, 6)] (by kernel_rfl) ⟨kk, trivial⟩, q, rf', rm', re', _, tok.drop c2, st4⟩
      by_cases k2 : c1 = 2
      · simp (maxSteps := 1000000) (disch := first | (simp; done) | (simp only [IHeap.size_push', IHeap.size_set']; omega) | omega) [e5, e7, e58, e59, e60, hn, hd, Hb, k1, k2, k3, slots4a]
        refine FN.ct (find_c (by omega) (.inr ⟨p, rfl, xaH⟩) c3 c4 hc3) ?_
        intro h2 fr2
        have st2 := stH.ext fr2.size fr2.get
        have Hb2 : h2.get h1.size = some (.row false 0 [.int .i64 2, .int .i64 c2, .int .u64 c3, .int .u32 c4]) := by rw [fr2.get _ (by omega), getU_nil, Hb, k2]
        obtain ⟨x, b, hv⟩ : ∃ x b, findV (t.find c3 (some fun w => decide (w = c4))) = .tuple #[.int .i64 x, .bool b] := by
          cases t.find c3 (some fun w => decide (w = c4)) <;> exact ⟨_, _, rfl⟩
        rw [hv]
        simp (maxSteps := 1000000) (disch := first | (simp; done) | (simp only [IHeap.size_push', IHeap.size_set']; omega) | omega) [e5, e7, e58, e59, e60, hn, hd, Hb2, slots4a]
        refine FN.ct (rfind_c tok.st tok.dv st2.xw c3 c4 hc3) ?_
        intro h3 fr3
        have st3 := st2.ext fr3.size fr3.get
        have hz2 := fr2.size
        have Hb3 : h3.get h1.size = some (.row false 0 [.int .i64 2, .int .i64 c2, .int .u64 c3, .int .u32 c4]) := by rw [fr3.get _ (by omega), getU_nil, Hb2]
        rw [hv]
        simp (maxSteps := 1000000) (disch := first | (simp; done) | (simp only [IHeap.size_push', IHeap.size_set']; omega) | omega) [e5, e7, e58, e59, e60, hn, hd, Hb3, undef]
        exact ⟨q, rf, rm, re, t, tok, st3⟩
      by_cases k4 : c1 = 4
      · simp (maxSteps := 1000000) (disch := first | (simp; done) | (simp only [IHeap.size_push', IHeap.size_set']; omega) | omega) [e5, e7, e58, e59, e60, hn, hd, Hb, k1, k2, k3, k4, slots4a]
        refine FN.ct (find_c (by omega) (.inr ⟨p, rfl, xaH⟩) c3 c4 hc3) ?_
        intro h2 fr2
        have st2 := stH.ext fr2.size fr2.get
        have Hb2 : h2.get h1.size = some (.row false 0 [.int .i64 4, .int .i64 c2, .int .u64 c3, .int .u32 c4]) := by rw [fr2.get _ (by omega), getU_nil, Hb, k4]
        obtain ⟨x, b, hv⟩ : ∃ x b, findV (t.find c3 (some fun w => decide (w = c4))) = .tuple #[.int .i64 x, .bool b] := by
          cases t.find c3 (some fun w => decide (w = c4)) <;> exact ⟨_, _, rfl⟩
        rw [hv]
        simp (maxSteps := 1000000) (disch := first | (simp; done) | (simp only [IHeap.size_push', IHeap.size_set']; omega) | omega) [e5, e7, e58, e59, e60, hn, hd, Hb2, slots4a]
        refine FN.ct (rfind_c tok.st tok.dv st2.xw c3 c4 hc3) ?_
        intro h3 fr3
        have st3 := st2.ext fr3.size fr3.get
        have hz2 := fr2.size
        have Hb3 : h3.get h1.size = some (.row false 0 [.int .i64 4, .int .i64 c2, .int .u64 c3, .int .u32 c4]) := by rw [fr3.get _ (by omega), getU_nil, Hb2]
        rw [hv]
        cases b
        · simp (maxSteps := 1000000) (disch := first | (simp; done) | (simp only [IHeap.size_push', IHeap.size_set']; omega) | omega) [e5, e7, e58, e59, e60, hn, hd, Hb3, undef]
          exact ⟨q, rf, rm, re, t, tok, st3⟩
        · simp (maxSteps := 1000000) (disch := first | (simp; done) | (simp only [IHeap.size_push', IHeap.size_set']; omega) | omega) [e5, e7, e58, e59, e60, hn, hd, Hb3, undef]
          refine FN.mono (drop_c hok st3.xa x) ?_
          rintro v h4 ⟨rfl, at', kp⟩
          have st4 := st3.stepA hl8.1 kp at'
          simp (maxSteps := 1000000) (disch := first | (simp; done) | (simp only [IHeap.size_push', IHeap.size_set']; omega) | omega) [e5, e7, e58, e59, e60, hn, hd]
          refine FN.mono (rdrop_c st4.xw x) ?_
          rintro v h5 ⟨rfl, ⟨rf', rm', re', at2⟩, kp2⟩
          have st5 := st4.stepW hnw kp2 at2
          simp (maxSteps := 1000000) (disch := first | (simp; done) | (simp only [IHeap.size_push', IHeap.size_set']; omega) | omega) [e5, e7, e58, e59, e60, hn, hd]
          exact ⟨q, rf', rm', re', _, tok.drop x, st5⟩
      by_cases k5 : c1 = 5
      · simp (maxSteps := 1000000) (disch := first | (simp; done) | (simp only [IHeap.size_push', IHeap.size_set']; omega) | omega) [e5, e7, e58, e59, e60, hn, hd, Hb, k1, k2, k3, k4, k5]
        refine FN.mono (copy_c (by omega) xaH) ?_
        rintro v h2 ⟨rfl, ⟨q', atc, hq'⟩, fr2⟩
        have st2 := stH.ext fr2.size fr2.get
        have hz2 := fr2.size
        have Hb2 : h2.get h1.size = some (.row false 0 [.int .i64 5, .int .i64 c2, .int .u64 c3, .int .u32 c4]) := by rw [fr2.get _ (by omega), getU_nil, Hb, k5]
        simp (maxSteps := 1000000) (disch := first | (simp; done) | (simp only [IHeap.size_push', IHeap.size_set']; omega) | omega) [e5, e7, e58, e59, e60, hn, hd, Hb2, slots4a]
        refine FN.mono (put_c hok st2.xa c3 c4 hc3) ?_
        rintro v h3 ⟨rfl, at3, kp3⟩
        have st3 := st2.stepA hl8.1 kp3 at3
        have atc3 := at_keeps atc kp3 (by omega) (by omega)
        have hz3 := kp3.size
        simp (maxSteps := 1000000) (disch := first | (simp; done) | (simp only [IHeap.size_push', IHeap.size_set']; omega) | omega) [e5, e7, e58, e59, e60, hn, hd]
        refine FN.mono (rcopy_c st3.xw) ?_
        rintro v h4 ⟨rfl, atw, fr4⟩
        have hz4 := fr4.size
        have atc4 := tat_inv atc3 fr4.get
        have qz4 := IHeap.get_lt (atc4.gq hne0).1
        simp (maxSteps := 1000000) (disch := first | (simp; done) | (simp only [IHeap.size_push', IHeap.size_set']; omega) | omega) [e5, e7, e58, e59, e60, hn, hd]
        refine ⟨q', rf, rm, re, t, tok, ⟨atc4, atw, by omega, fun i hi => ?_, by omega, qz4⟩⟩
        rw [fr4.get _ (by omega), getU_nil]
        exact st3.old i hi
      by_cases k6 : c1 = 6
      · simp (maxSteps := 1000000) (disch := first | (simp; done) | (simp only [IHeap.size_push', IHeap.size_set']; omega) | omega) [e5, e7, e58, e59, e60, hn, hd, Hb, k1, k2, k3, k4, k5, k6]
        refine FN.mono (copy_c (by omega) xaH) ?_
        rintro v h2 ⟨rfl, ⟨q', atc, hq'⟩, fr2⟩
        have hz2 := fr2.size
        have Hb2 : h2.get h1.size = some (.row false 0 [.int .i64 6, .int .i64 c2, .int .u64 c3, .int .u32 c4]) := by rw [fr2.get _ (by omega), getU_nil, Hb, k6]
        simp (maxSteps := 1000000) (disch := first | (simp; done) | (simp only [IHeap.size_push', IHeap.size_set']; omega) | omega) [e5, e7, e58, e59, e60, hn, hd, Hb2, slots4a]
        refine FN.mono (put_c hok atc c3 c4 hc3) ?_
        rintro v h3 ⟨rfl, at3, kp3⟩
        have hz3 := kp3.size
        have Hb3 : h3.get h1.size = some (.row false 0 [.int .i64 6, .int .i64 c2, .int .u64 c3, .int .u32 c4]) := by rw [kp3.get _ (by omega) (by omega) (by omega), Hb2]
        simp (maxSteps := 1000000) (disch := first | (simp; done) | (simp only [IHeap.size_push', IHeap.size_set']; omega) | omega) [e5, e7, e58, e59, e60, hn, hd, Hb3]
        refine FN.mono (drop_c (tok.put c3 c4).ok at3 c2) ?_
        rintro v h4 ⟨rfl, at4, kp4⟩
        have hz4 := kp4.size
        have st4 := stH.ext (h' := h4) (by omega) (fun i hi => by
          rw [kp4.get _ (by omega) (by omega) (by omega), kp3.get _ (by omega) (by omega) (by omega), fr2.get _ (by omega), getU_nil])
        simp (maxSteps := 1000000) (disch := first | (simp; done) | (simp only [IHeap.size_push', IHeap.size_set']; omega) | omega) [e5, e7, e58, e59, e60, hn, hd]
        exact ⟨q, rf, rm, re, t, tok, st4⟩
      · simp (maxSteps := 1000000) (disch := first | (simp; done) | (simp only [IHeap.size_push', IHeap.size_set']; omega) | omega) [e5, e7, e58, e59, e60, hn, hd, Hb, k1, k2, k3, k4, k5, k6]
        exact ⟨q, rf, rm, re, t, tok, stH⟩
    · clear e5 e7 e58 e59 e60 hn hd st tok e
      rintro y e h2 ⟨p, q, pw, rf, rm, re, t, rfl, hn, hd, e5, e7, e10, e58, e59, e60, tok, st⟩
      simp (maxSteps := 1000000) (disch := first | (simp; done) | (simp only [IHeap.size_push', IHeap.size_set']; omega) | omega) [e5, e7, e10, e58, e59, e60, hn, hd]
      refine FN.ct (same_c tok st.xa st.xw) ?_
      intro h3 fr
      have st3 := st.ext fr.size fr.get
      simp (maxSteps := 1000000) (disch := first | (simp; done) | (simp only [IHeap.size_push', IHeap.size_set']; omega) | omega) [e5, e7, e10, e58, e59, e60, hn, hd, wrap64]
      exact ⟨k, by omega, j + 1, by omega, by omega, q, rf, rm, re, t, tok, st3⟩
end Go.Proofs.Ytgfemimlpbileaa.Ideal
