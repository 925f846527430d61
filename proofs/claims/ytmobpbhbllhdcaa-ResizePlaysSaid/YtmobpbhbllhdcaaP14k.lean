import Derived.Test.YtmobpbhbllhdcaaP14j
noncomputable section
open Go.Proofs
namespace Go.Proofs.Ytmobpbhbllhdcaa.Ideal
open Go.RowKit
set_option linter.unusedSimpArgs false
set_option linter.unusedVariables false
set_option linter.unusedSectionVars false
set_option maxRecDepth 100000
set_option maxHeartbeats 4000000
/-- What a growing table's memory is. -/
def GT.own (g : GT) (G p q p' q' i : Nat) : Prop := i = G ∨ i = p ∨ i = q ∨ (g.nx ≠ none ∧ (i = p' ∨ i = q'))
structure KS (S : Nat → Prop) (h h' : IHeap) : Prop where
  size : h.size ≤ h'.size
  get : ∀ i, i < h.size → ¬ S i → h'.get i = h.get i
theorem KS.refl (S : Nat → Prop) (h : IHeap) : KS S h h := ⟨Nat.le_refl _, fun _ _ _ => rfl⟩
theorem KS.trans {S S2 : Nat → Prop} {a b c : IHeap} (x : KS S a b) (y : KS S2 b c) (hs : ∀ i, i < a.size → S2 i → S i) : KS S a c := ⟨Nat.le_trans x.size y.size, fun i hi hn => by rw [y.get i (by have := x.size; omega) (fun h => hn (hs i hi h)), x.get i hi hn]⟩
theorem KS.of_fr {S : Nat → Prop} {h h' : IHeap} (f : Fr h h' []) : KS S h h' := ⟨f.size, fun i hi _ => by rw [f.get i hi, getU_nil]⟩
theorem GAt.apart2 {g : GT} {h : IHeap} {G p q p' q' : Nat} {t : TB} (x : GAt g h G p q p' q') (hx : g.nx = some t) (hl : t.ps ≠ []) : G ≠ p' ∧ G ≠ q' ∧ t.at h p' q' := by
  have nA : g.nxA p' = some ⟨p', 0, none⟩ := by unfold GT.nxA; rw [hx]
  have nT : g.nxT = t := by unfold GT.nxT; rw [hx]; rfl
  have hn := x.nx
  rw [nA, nT] at hn
  rcases hn with ⟨e, _⟩ | ⟨p2, e, xa⟩
  · cases e
  · cases e
    refine ⟨fun e => ?_, fun e => ?_, xa⟩
    · have h1 := x.gG
      rw [e, xa.gp] at h1
      simp [TB.row] at h1
    · have h1 := x.gG
      rw [e, (xa.gq hl).1] at h1
      simp at h1
/-- The table of now is another one. -/
theorem GAt.stepN {g : GT} {h h' : IHeap} {G p q p' q' : Nat} {t' : TB} (x : GAt g h G p q p' q') (hl : g.now.ps ≠ []) (hl2 : ∀ t, g.nx = some t → t.ps ≠ []) (kp : Keeps h h' p q) (at' : t'.at h' p q) : GAt { g with now := t' } h' G p q p' q' := by
  obtain ⟨n1, n2⟩ := x.apart hl
  refine ⟨(kp.get G (IHeap.get_lt x.gG) n1 n2).trans x.gG, at', ?_, x.ap⟩
  show TIs h' (g.nxA p') g.nxT q'
  cases hx : g.nx with
  | none => exact .inl ⟨by unfold GT.nxA; rw [hx], by unfold GT.nxT; rw [hx]; rfl⟩
  | some t =>
    obtain ⟨_, _, xa⟩ := x.apart2 hx (hl2 t hx)
    have ap := x.ap (by rw [hx]; simp)
    refine .inr ⟨p', by unfold GT.nxA; rw [hx], ?_⟩
    have nT : g.nxT = t := by unfold GT.nxT; rw [hx]; rfl
    rw [nT]
    have g1 := xa.gq (hl2 t hx)
    exact ⟨(kp.get p' (IHeap.get_lt xa.gp) (Ne.symm ap.1) (Ne.symm ap.2.2.1)).trans xa.gp, fun _ => ⟨(kp.get q' (IHeap.get_lt g1.1) (Ne.symm ap.2.1) (Ne.symm ap.2.2.2)).trans g1.1, g1.2⟩⟩
/-- The next one is another one. -/
theorem GAt.stepX {g : GT} {h h' : IHeap} {G p q p' q' : Nat} {t t' : TB} (x : GAt g h G p q p' q') (hx : g.nx = some t) (hl : g.now.ps ≠ []) (hl2 : t.ps ≠ []) (kp : Keeps h h' p' q') (at' : t'.at h' p' q') : GAt { g with nx := some t' } h' G p q p' q' := by
  obtain ⟨n1, n2, xa⟩ := x.apart2 hx hl2
  have ap := x.ap (by rw [hx]; simp)
  have nA : g.nxA p' = some ⟨p', 0, none⟩ := by unfold GT.nxA; rw [hx]
  have g1 := x.now.gq hl
  refine ⟨?_, ⟨(kp.get p (IHeap.get_lt x.now.gp) ap.1 ap.2.1).trans x.now.gp, fun _ => ⟨(kp.get q (IHeap.get_lt g1.1) ap.2.2.1 ap.2.2.2).trans g1.1, g1.2⟩⟩, .inr ⟨p', rfl, at'⟩, fun _ => ap⟩
  rw [kp.get G (IHeap.get_lt x.gG) n1 n2, x.gG, nA]
  rfl
def TB.putE (t : TB) (hash : Int) : Int := match t.free hash with | some _ => 0 | none => 9
def GT.put (g : GT) (hash what : Int) : GT := match g.begin.nx with
  | some t => if roomB t g.begin.now.en then { g.begin with nx := some (t.put hash what) } else g.begin
  | none => if roomB g.begin.now 0 then { g.begin with now := g.begin.now.put hash what } else g.begin
def GT.putE (g : GT) (hash : Int) : Int := match g.begin.nx with
  | some t => if roomB t g.begin.now.en then t.putE hash else 9
  | none => if roomB g.begin.now 0 then g.begin.now.putE hash else 9
theorem putV_E {t : TB} (hl : t.ps ≠ []) (hash : Int) : ∃ x, t.putV hash = .tuple #[.int .i64 x, .int .i64 (t.putE hash)] := by
  unfold TB.putV TB.putE
  rw [if_neg hl]
  cases t.free hash with
  | some i => exact ⟨i, rfl⟩
  | none => exact ⟨0, rfl⟩
theorem newTB_len (n : Nat) : (newTB n).ps.length = n := by simp [newTB]
theorem GOK.begin {g : GT} (ok : GOK g) : GOK g.begin := by
  unfold GT.begin
  split
  · have gp := gsize_P2 (e := g.now.en.toNat) ok.m 5 16 (.inl rfl) ok.m.le.1
    refine ⟨ok.m, ok.t, ok.l, ok.lm, fun t ht => ?_, by show 0 ≤ 256; omega⟩
    simp only [Option.some.injEq] at ht
    subst ht
    have := gp.1.le
    exact ⟨TOK.new (by omega) gp.1.dv, by rw [newTB_len]; exact gp.1, by rw [newTB_len]; exact gp.2⟩
  · exact ok
theorem put_len (t : TB) (hash what : Int) : (t.put hash what).ps.length = t.ps.length := by
  unfold TB.put
  split
  · simp [TB.putAt]
  · rfl
theorem GOK.put {g : GT} (ok : GOK g) (hash what : Int) : GOK (g.put hash what) := by
  have ob := ok.begin
  unfold GT.put
  generalize g.begin = b at ob
  cases hx : b.nx with
  | some t =>
    obtain ⟨t1, t2, t3⟩ := ob.x t hx
    simp only
    split
    · refine ⟨ob.m, ob.t, ob.l, ob.lm, fun t' ht => ?_, ob.c⟩
      simp only [Option.some.injEq] at ht
      subst ht
      exact ⟨t1.put hash what, by rw [put_len]; exact t2, by rw [put_len]; exact t3⟩
    · exact ob
  | none =>
    simp only
    split
    · refine ⟨ob.m, ob.t.put hash what, by rw [put_len]; exact ob.l, by rw [put_len]; exact ob.lm, fun t' ht => ?_, ob.c⟩
      simp only at ht
      rw [hx] at ht
      cases ht
    · exact ob
theorem P2.ne {l : List PL} (h : P2 l.length) : l ≠ [] := fun e => by
  have := h.le
  rw [e] at this
  simp at this
attribute [-simp] IHeap.size_set IHeap.size_push
attribute [local simp ↓] Hid.ap_mk
attribute [local simp] scopeQ_normal scopeQ_ret scopeQ_exit WP_skip WP_label WP_exit WP_goto WP_ret WP_region WP_seq WP_cond WP_block WP_scope WP_loop WP_range thenQ_normal thenQ_ret thenQ_exit thenQ_goto loopQ_normal loopQ_ret loopQ_exit invQ_normal invQ_ret invQ_exit outOf_normal outOf_ret outOf_goto outOf_exit ev_tmp ev_const ev_func
  wops_nil wops_cons wantedE_none wantedE_some jgd_some wnx_eq niC_false wdo_move wdo_assign wdo_pick wdo_load wdo_store wdo_alloc wdo_box wdo_fieldAddr wdo_indexAddr wdo_field wdo_extract wdo_build wdo_buildSlice wdo_makeSlice wdo_binOp wdo_unOp wdo_makeFunc wdo_nilCheck wdo_callV wdo_len wdo_append wdo_copy wdo_delete wdo_max wdo_min wdo_convert jcvt_int
  xput_get put_n put_none put_dfr ibin finQ_n finQ_r finD_nil splice_one ires_nil ires_one ires_two ires_three ires1_tmp ires1_cell jcell_ptr rowLoad_row wrap64 wrapU64 wrapU8 wrapU16 wrapU32 callV_fn buildOf Instr.fill Value.cells Value.oneCell' kindOf slots_all splice_all IHeap.size_set' IHeap.size_push' IHeap.get_set_same IHeap.get_set_ne IHeap.get_pushed IHeap.get_push_ne IHeap.set_set IHeap.set_push IHeap.set_pushed IHeap.set_set3 getU_nil getU_same getU_ne jif_true jif_false pushH_eq setH_eq forceL_eq forceV_eq ibuildSlice
attribute [local simp] wdo_index jopt_some
attribute [-simp] Value.oneCell'
attribute [local simp] one_int' one_ptr'
theorem gput_c {g : GT} {h : IHeap} {G p q p' q' : Nat} {hash what : Int} (x : GAt g h G p q p' q') (ok : GOK g) (hh : 0 ≤ hash ∧ hash < 18446744073709551616) :
    FN Try.prog 9 #[.pointer (some ⟨G, 0, none⟩), .agg #[.int .u64 hash, .int .u32 what]] h (Q := ⟨fun v h' => v = .int .i64 (g.putE hash) ∧ ∃ p2 q2, GAt (g.put hash what) h' G p q p2 q2 ∧ ((p2 = p' ∧ q2 = q') ∨ (h.size ≤ p2 ∧ h.size ≤ q2)) ∧ KS (g.own G p q p' q') h h'⟩) := by
  obtain ⟨H, hH⟩ : ∃ H, H = h.push (.row false 0 [.int .u64 hash, .int .u32 what]) := ⟨_, rfl⟩
  have Hz : H.size = h.size + 1 := by rw [hH, IHeap.size_push']
  have Ho : ∀ i, i < h.size → H.get i = h.get i := fun i hi => by rw [hH]; exact IHeap.get_push_ne _ (by omega)
  have Hb : H.get h.size = some (.row false 0 [.int .u64 hash, .int .u32 what]) := by rw [hH]; exact IHeap.get_pushed _ rfl
  have xH := x.inv Ho
  refine FN.enter mixed (fn := Try.f9) (by kernel_rfl) rfl (by kernel_rfl) fun e hn hg hd => ?_
  simp [Try.f9] at hn
  have a0 : e.get 0 = .pointer (some ⟨G, 0, none⟩) := hg 0 (by omega)
  have a1 : e.get 1 = .agg #[.int .u64 hash, .int .u32 what] := hg 1 (by omega)
  clear hg
  simp (maxSteps := 1000000) (disch := first | (simp; done) | (simp only [IHeap.size_push', IHeap.size_set']; omega) | omega) [a0, a1, hn, hd, ← hH]
  refine FN.of (gnone_c xH) ?_
  simp (maxSteps := 1000000) (disch := first | (simp; done) | (simp only [IHeap.size_push', IHeap.size_set']; omega) | omega) [a0, a1, hn, hd]
  refine FN.mono (begin_c xH ok) ?_
  rintro w h1 ⟨p2, q2, xb, pq, kg⟩
  have ob := ok.begin
  have gl := IHeap.get_lt x.gG
  have hb1 : h1.get h.size = some (.row false 0 [.int .u64 hash, .int .u32 what]) := by rw [kg.get _ (by omega) (by omega)]; exact Hb
  have z1 := kg.size
  have gG := xb.gG
  have hS : ∀ i, i < h.size → ¬ g.own G p q p' q' i → h1.get i = h.get i := fun i hi hn => by
    rw [kg.get i (by omega) (fun e => hn (.inl e)), Ho i hi]
  cases hx : g.begin.nx with
  | some t =>
    obtain ⟨t1, t2, t3⟩ := ob.x t hx
    obtain ⟨n1, n2, xa⟩ := xb.apart2 hx t2.ne
    have nA : g.begin.nxA p2 = some ⟨p2, 0, none⟩ := by unfold GT.nxA; rw [hx]
    rw [nA] at gG
    have nI : TIs h1 (some ⟨p, 0, none⟩) g.begin.now q := .inr ⟨p, rfl, xb.now⟩
    have eb := ob.t.enB
    have rc := room_c (h := h1) (A := some ⟨p2, 0, none⟩) (t := t) (more := g.begin.now.en) (.inr ⟨p2, rfl, xa⟩) (by have := t1.enB; omega) (by have := t1.maB; omega) (by omega) (by have := t1.len; omega)
    simp (maxSteps := 1000000) (disch := first | (simp; done) | (simp only [IHeap.size_push', IHeap.size_set']; omega) | omega) [a0, a1, hn, hd, gG]
    refine FN.of (entries_c nI) ?_
    simp (maxSteps := 1000000) (disch := first | (simp; done) | (simp only [IHeap.size_push', IHeap.size_set']; omega) | omega) [a0, a1, hn, hd, gG]
    refine ⟨niC_pend [(3, 8)] (by kernel_rfl) ⟨rfl, trivial⟩, ?_⟩
    refine FN.of rc ?_
    have own2 : ∀ i, i < h.size → (i = p2 ∨ i = q2) → g.own G p q p' q' i := fun i hi he => by
      rcases pq with ⟨hb, rfl, rfl⟩ | ⟨h1, h2⟩
      · by_cases hg : g.nx = none
        · rw [hb, hg] at hx
          cases hx
        · exact .inr (.inr (.inr ⟨hg, he⟩))
      · omega
    by_cases rm : roomB t g.begin.now.en = true
    · have pe : g.putE hash = t.putE hash := by unfold GT.putE; rw [hx]; simp only [rm, if_true]
      have pp : g.put hash what = { g.begin with nx := some (t.put hash what) } := by unfold GT.put; rw [hx]; simp only [rm, if_true]
      obtain ⟨y, hv⟩ := putV_E t2.ne hash
      simp (maxSteps := 1000000) (disch := first | (simp; done) | (simp only [IHeap.size_push', IHeap.size_set']; omega) | omega) [a0, a1, hn, hd, gG, rm, hb1]
      refine FN.mono (put_c t1.ok xa hash what hh) ?_
      rintro v h2 ⟨rfl, at', kp⟩
      rw [hv]
      simp (maxSteps := 1000000) (disch := first | (simp; done) | (simp only [IHeap.size_push', IHeap.size_set']; omega) | omega) [a0, a1, hn, hd, pe]
      refine ⟨p2, q2, by rw [pp]; exact xb.stepX hx ob.l.ne t2.ne kp at', ?_, by have := kp.size; omega, fun i hi hn => ?_⟩
      · exact pq.imp And.right fun ⟨e1, e2⟩ => ⟨by omega, by omega⟩
      · rw [kp.get i (by omega) (fun e => hn (own2 i hi (.inl e))) (fun e => hn (own2 i hi (.inr e)))]
        exact hS i hi hn
    · have rm : roomB t g.begin.now.en = false := by simpa using rm
      have pe : g.putE hash = 9 := by unfold GT.putE; rw [hx]; simp only [rm]; rfl
      have pp : g.put hash what = g.begin := by unfold GT.put; rw [hx]; simp only [rm]; rfl
      simp (maxSteps := 1000000) (disch := first | (simp; done) | (simp only [IHeap.size_push', IHeap.size_set']; omega) | omega) [a0, a1, hn, hd, gG, rm, pe]
      refine ⟨p2, q2, by rw [pp]; exact xb, ?_, by omega, hS⟩
      exact pq.imp And.right fun ⟨e1, e2⟩ => ⟨by omega, by omega⟩
  | none =>
    have nA : g.begin.nxA p2 = none := by unfold GT.nxA; rw [hx]
    rw [nA] at gG
    have nI : TIs h1 (some ⟨p, 0, none⟩) g.begin.now q := .inr ⟨p, rfl, xb.now⟩
    have rc := room_c (more := 0) nI (by have := ob.t.enB; omega) (by have := ob.t.maB; omega) (by omega) (by have := ob.l.le; omega)
    simp (maxSteps := 1000000) (disch := first | (simp; done) | (simp only [IHeap.size_push', IHeap.size_set']; omega) | omega) [a0, a1, hn, hd, gG]
    refine FN.of rc ?_
    by_cases rm : roomB g.begin.now 0 = true
    · have pe : g.putE hash = g.begin.now.putE hash := by unfold GT.putE; rw [hx]; simp only [rm, if_true]
      have pp : g.put hash what = { g.begin with now := g.begin.now.put hash what } := by unfold GT.put; rw [hx]; simp only [rm, if_true]
      obtain ⟨y, hv⟩ := putV_E ob.l.ne hash
      simp (maxSteps := 1000000) (disch := first | (simp; done) | (simp only [IHeap.size_push', IHeap.size_set']; omega) | omega) [a0, a1, hn, hd, gG, rm, hb1]
      refine FN.mono (put_c ob.t.ok xb.now hash what hh) ?_
      rintro v h2 ⟨rfl, at', kp⟩
      rw [hv]
      simp (maxSteps := 1000000) (disch := first | (simp; done) | (simp only [IHeap.size_push', IHeap.size_set']; omega) | omega) [a0, a1, hn, hd, pe]
      refine ⟨p2, q2, by rw [pp]; exact xb.stepN ob.l.ne (fun t ht => (ob.x t ht).2.1.ne) kp at', ?_, by have := kp.size; omega, fun i hi hn => ?_⟩
      · exact pq.imp And.right fun ⟨e1, e2⟩ => ⟨by omega, by omega⟩
      · rw [kp.get i (by omega) (fun e => hn (.inr (.inl e))) (fun e => hn (.inr (.inr (.inl e))))]
        exact hS i hi hn
    · have rm : roomB g.begin.now 0 = false := by simpa using rm
      have pe : g.putE hash = 9 := by unfold GT.putE; rw [hx]; simp only [rm]; rfl
      have pp : g.put hash what = g.begin := by unfold GT.put; rw [hx]; simp only [rm]; rfl
      simp (maxSteps := 1000000) (disch := first | (simp; done) | (simp only [IHeap.size_push', IHeap.size_set']; omega) | omega) [a0, a1, hn, hd, gG, rm, pe]
      refine ⟨p2, q2, by rw [pp]; exact xb, ?_, by omega, hS⟩
      exact pq.imp And.right fun ⟨e1, e2⟩ => ⟨by omega, by omega⟩
end Go.Proofs.Ytmobpbhbllhdcaa.Ideal
