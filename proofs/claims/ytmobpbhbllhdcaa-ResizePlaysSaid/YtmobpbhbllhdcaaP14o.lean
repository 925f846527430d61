import Derived.Test.YtmobpbhbllhdcaaP14n
noncomputable section
open Go.Proofs
namespace Go.Proofs.Ytmobpbhbllhdcaa.Ideal
open Go.RowKit
set_option linter.unusedSimpArgs false
set_option linter.unusedVariables false
set_option linter.unusedSectionVars false
set_option maxRecDepth 100000
set_option maxHeartbeats 4000000
/-- One that moves is not at its end. -/
def GT.mv (g : GT) : Prop := g.nx ≠ none → g.cur < g.now.ps.length
def GT.step1 (g : GT) (t : TB) : TB × TB := match g.now.ps[g.cur]? with
  | some c => if c.2.2 = 1 then (g.now.drop (g.cur : Nat), t.put c.1 c.2.1) else (g.now, t)
  | none => (g.now, t)
def GT.mid (g : GT) (t : TB) : GT := ⟨(g.step1 t).1, some (g.step1 t).2, g.most, g.cur + 1⟩
def GT.step (g : GT) : GT := match g.nx with
  | none => g
  | some t => if g.cur + 1 = g.now.ps.length then ⟨(g.step1 t).2, none, g.most, g.cur + 1⟩ else g.mid t
theorem step1_len (g : GT) (t : TB) : (g.step1 t).1.ps.length = g.now.ps.length ∧ (g.step1 t).2.ps.length = t.ps.length := by
  unfold GT.step1
  split
  · split
    · exact ⟨drop_len _ _, put_len _ _ _⟩
    · exact ⟨rfl, rfl⟩
  · exact ⟨rfl, rfl⟩
theorem step1_tok {g : GT} {t : TB} (h1 : TOK g.now) (h2 : TOK t) : TOK (g.step1 t).1 ∧ TOK (g.step1 t).2 := by
  unfold GT.step1
  split
  · split
    · exact ⟨h1.drop _, h2.put _ _⟩
    · exact ⟨h1, h2⟩
  · exact ⟨h1, h2⟩
theorem GOK.mid {g : GT} {t : TB} (ok : GOK g) (mv : g.mv) (hx : g.nx = some t) : GOK (g.mid t) := by
  obtain ⟨t1, t2, t3⟩ := ok.x t hx
  obtain ⟨l1, l2⟩ := step1_len g t
  obtain ⟨k1, k2⟩ := step1_tok ok.t t1
  have hc := mv (by rw [hx]; simp)
  have hl := ok.l.le
  refine ⟨ok.m, k1, by show P2 (g.step1 t).1.ps.length; rw [l1]; exact ok.l, by show (g.step1 t).1.ps.length ≤ _; rw [l1]; exact ok.lm, fun s hs => ?_, by show g.cur + 1 ≤ 256; omega⟩
  simp only [GT.mid, Option.some.injEq] at hs
  subst hs
  exact ⟨k2, by rw [l2]; exact t2, by rw [l2]; exact t3⟩
theorem GOK.step {g : GT} (ok : GOK g) (mv : g.mv) : GOK g.step ∧ g.step.mv := by
  unfold GT.step
  cases hx : g.nx with
  | none => exact ⟨ok, mv⟩
  | some t =>
    obtain ⟨t1, t2, t3⟩ := ok.x t hx
    obtain ⟨l1, l2⟩ := step1_len g t
    obtain ⟨k1, k2⟩ := step1_tok ok.t t1
    have hc := mv (by rw [hx]; simp)
    have hl := ok.l.le
    simp only
    split
    · exact ⟨⟨ok.m, k2, by rw [l2]; exact t2, by rw [l2]; exact t3, (fun s hs => by cases hs), by show g.cur + 1 ≤ 256; omega⟩, fun h => absurd rfl h⟩
    · refine ⟨ok.mid mv hx, fun _ => ?_⟩
      show g.cur + 1 < (g.step1 t).1.ps.length
      rw [l1]
      omega
theorem GT.mv.begin {g : GT} (ok : GOK g) (mv : g.mv) : g.begin.mv := by
  unfold GT.begin
  split
  · intro _
    have := ok.l.le
    show 0 < g.now.ps.length
    omega
  · exact mv
theorem GT.mv.put {g : GT} (ok : GOK g) (mv : g.mv) (hash what : Int) : (g.put hash what).mv := by
  have mb := mv.begin ok
  unfold GT.put
  generalize g.begin = b at mb
  cases hx : b.nx with
  | some t =>
    simp only
    split
    · exact fun _ => mb (by rw [hx]; simp)
    · exact mb
  | none =>
    simp only
    split
    · exact fun h => absurd hx h
    · exact mb
theorem GT.mv.drop {g : GT} (mv : g.mv) (hash what : Int) : (g.drop hash what).mv := by
  unfold GT.drop
  cases g.now.find hash (fK what) with
  | some i => exact fun h => by rw [show (({ g with now := g.now.drop i } : GT)).now.ps.length = g.now.ps.length from drop_len _ _]; exact mv h
  | none =>
    simp only
    cases g.nxT.find hash (fK what) with
    | none => exact mv
    | some i =>
      cases hx : g.nx with
      | none => exact mv
      | some t => exact fun _ => mv (by rw [hx]; simp)
/-- Another cursor. -/
theorem GAt.setCur {g : GT} {h : IHeap} {G p q p' q' : Nat} (x : GAt g h G p q p' q') (hl : g.now.ps ≠ []) (hl2 : ∀ t, g.nx = some t → t.ps ≠ []) (c : Nat) : GAt { g with cur := c } (h.set G (.row false 0 [.pointer (some ⟨p, 0, none⟩), .pointer (g.nxA p'), .int .i64 (g.most : Nat), .int .i64 (c : Nat)])) G p q p' q' := by
  obtain ⟨n1, n2⟩ := x.apart hl
  refine ⟨IHeap.get_set_same _ (IHeap.get_lt x.gG), ⟨by rw [IHeap.get_set_ne _ n1]; exact x.now.gp, fun hc => ⟨by rw [IHeap.get_set_ne _ n2]; exact (x.now.gq hc).1, (x.now.gq hc).2⟩⟩, ?_, x.ap⟩
  show TIs _ (g.nxA p') g.nxT q'
  cases hx : g.nx with
  | none => exact .inl ⟨nxA_none hx p', nxT_none hx⟩
  | some t =>
    obtain ⟨m1, m2, xa⟩ := x.apart2 hx (hl2 t hx)
    rw [nxT_some hx]
    exact .inr ⟨p', nxA_some hx p', ⟨by rw [IHeap.get_set_ne _ m1]; exact xa.gp, fun hc => ⟨by rw [IHeap.get_set_ne _ m2]; exact (xa.gq hc).1, (xa.gq hc).2⟩⟩⟩
attribute [-simp] IHeap.size_set IHeap.size_push
attribute [local simp ↓] Hid.ap_mk
attribute [local simp] scopeQ_normal scopeQ_ret scopeQ_exit WP_skip WP_label WP_exit WP_goto WP_ret WP_region WP_seq WP_cond WP_block WP_scope WP_loop WP_range thenQ_normal thenQ_ret thenQ_exit thenQ_goto loopQ_normal loopQ_ret loopQ_exit invQ_normal invQ_ret invQ_exit outOf_normal outOf_ret outOf_goto outOf_exit ev_tmp ev_const ev_func
  wops_nil wops_cons wantedE_none wantedE_some jgd_some wnx_eq niC_false wdo_move wdo_assign wdo_pick wdo_load wdo_store wdo_alloc wdo_box wdo_fieldAddr wdo_indexAddr wdo_field wdo_extract wdo_build wdo_buildSlice wdo_makeSlice wdo_binOp wdo_unOp wdo_makeFunc wdo_nilCheck wdo_callV wdo_len wdo_append wdo_copy wdo_delete wdo_max wdo_min wdo_convert jcvt_int
  xput_get put_n put_none put_dfr ibin finQ_n finQ_r finD_nil splice_one ires_nil ires_one ires_two ires_three ires1_tmp ires1_cell jcell_ptr rowLoad_row wrap64 wrapU64 wrapU8 wrapU16 wrapU32 callV_fn buildOf Instr.fill Value.cells Value.oneCell' kindOf slots_all splice_all IHeap.size_set' IHeap.size_push' IHeap.get_set_same IHeap.get_set_ne IHeap.get_pushed IHeap.get_push_ne IHeap.set_set IHeap.set_push IHeap.set_pushed IHeap.set_set3 getU_nil getU_same getU_ne jif_true jif_false pushH_eq setH_eq forceL_eq forceV_eq ibuildSlice
attribute [local simp] wdo_index jopt_some
attribute [-simp] Value.oneCell'
attribute [local simp] one_int' one_ptr'
theorem get_not {t : TB} {W : Nat} (h : ∀ c, t.ps[W]? = some c → c.2.2 ≠ 1) : t.get (W : Nat) = .tuple #[.agg #[.int .u64 0, .int .u32 0], .bool false] := by
  unfold TB.get
  rw [if_pos (by omega), Int.toNat_natCast]
  cases hc : t.ps[W]? with
  | none => rfl
  | some c => simp only [h c hc, if_false]
def StepQ (g : GT) (h : IHeap) (G p q p' q' : Nat) (v : Value) (h' : IHeap) : Prop :=
  v = .bool g.step.nx.isSome ∧ (∃ p2 q2 p3 q3, GAt g.step h' G p2 q2 p3 q3 ∧ (∀ i, g.step.own G p2 q2 p3 q3 i → g.own G p q p' q' i)) ∧ KS (g.own G p q p' q') h h'
theorem gstep_c {g : GT} {h : IHeap} {G p q p' q' : Nat} (x : GAt g h G p q p' q') (ok : GOK g) (mv : g.mv) (hhs : ∀ c ∈ g.now.ps, 0 ≤ c.1 ∧ c.1 < 18446744073709551616) :
    FN Try.prog 11 #[.pointer (some ⟨G, 0, none⟩)] h (Q := ⟨fun v h' => StepQ g h G p q p' q' v h'⟩) := by
  have gG := x.gG
  have lb := ok.l.le
  have lc := gleft_c x (by omega) (by have := ok.c; omega)
  refine FN.enter mixed (fn := Try.f11) (by kernel_rfl) rfl (by kernel_rfl) fun e hn hg hd => ?_
  simp [Try.f11] at hn
  have a0 : e.get 0 = .pointer (some ⟨G, 0, none⟩) := hg 0 (by omega)
  clear hg
  simp (maxSteps := 1000000) (disch := first | (simp; done) | (simp only [IHeap.size_push', IHeap.size_set']; omega) | omega) [a0, hn, hd]
  refine FN.of lc ?_
  cases hx : g.nx with
  | none =>
    have l0 : g.left = 0 := by unfold GT.left; rw [hx]
    have st : g.step = g := by unfold GT.step; rw [hx]
    rw [l0]
    simp (maxSteps := 1000000) (disch := first | (simp; done) | (simp only [IHeap.size_push', IHeap.size_set']; omega) | omega) [a0, hn, hd]
    refine ⟨by rw [st, hx]; rfl, ⟨p, q, p', q', by rw [st]; exact x, fun i hi => by rw [st] at hi; exact hi⟩, KS.refl _ _⟩
  | some t =>
    obtain ⟨t1, t2, t3⟩ := ok.x t hx
    have hcl := mv (by rw [hx]; simp)
    have l0 : g.left = (g.now.ps.length : Int) - g.cur := by unfold GT.left; rw [hx]
    have l1 : ¬ ((g.now.ps.length : Int) - g.cur = 0) := by omega
    have l1' : ((g.now.ps.length : Int) - g.cur = 0) = False := eq_false l1
    rw [l0]
    have nI : TIs h (some ⟨p, 0, none⟩) g.now q := .inr ⟨p, rfl, x.now⟩
    rw [nxA_some hx] at gG
    simp (maxSteps := 1000000) (disch := first | (simp; done) | (simp only [IHeap.size_push', IHeap.size_set']; omega) | omega) [a0, hn, hd, gG, l1, l1']
    obtain ⟨c, hc⟩ : ∃ c, g.now.ps[g.cur]? = some c := ⟨_, List.getElem?_eq_getElem hcl⟩
    obtain ⟨L1, L2⟩ := step1_len g t
    have own2 : ∀ i, ¬ g.own G p q p' q' i → i ≠ G ∧ i ≠ p ∧ i ≠ q ∧ i ≠ p' ∧ i ≠ q' := fun i hn => ⟨fun e => hn (.inl e), fun e => hn (.inr (.inl e)), fun e => hn (.inr (.inr (.inl e))), fun e => hn (.inr (.inr (.inr ⟨by rw [hx]; simp, .inl e⟩))), fun e => hn (.inr (.inr (.inr ⟨by rw [hx]; simp, .inr e⟩)))⟩
    by_cases c1 : c.2.2 = 1
    · have gc := get_c nI (g.cur : Nat)
      rw [get_of hc c1] at gc
      refine FN.ct gc ?_
      intro h1 fr
      have kg : ∀ i, i < h.size → (h1.push (.row false 0 [.int .u64 c.1, .int .u32 c.2.1])).get i = h.get i := fun i hi => by rw [IHeap.get_push_ne _ (by have := fr.size; omega), fr.get i hi, getU_nil]
      have z1 := fr.size
      have x1 := x.inv kg
      obtain ⟨n1, n2, xa⟩ := x1.apart2 hx t2.ne
      have gG1 := x1.gG
      rw [nxA_some hx] at gG1
      have bx : (h1.push (.row false 0 [.int .u64 c.1, .int .u32 c.2.1])).get h1.size = some (.row false 0 [.int .u64 c.1, .int .u32 c.2.1]) := IHeap.get_pushed _ rfl
      have hr := hhs c (List.mem_of_getElem? hc)
      simp (maxSteps := 1000000) (disch := first | (simp; done) | (simp only [IHeap.size_push', IHeap.size_set']; omega) | omega) [a0, hn, hd, gG1, bx]
      refine ⟨niC_pend [] (by kernel_rfl) trivial, ?_⟩
      refine FN.mono (put_c t1.ok xa c.1 c.2.1 hr) ?_
      rintro v h2 ⟨rfl, at2, kp2⟩
      have x2 := x1.stepX hx ok.l.ne t2.ne kp2 at2
      have z2 := kp2.size
      rw [IHeap.size_push'] at z2
      have gG2 := x2.gG
      rw [nxA_some rfl] at gG2
      simp (maxSteps := 1000000) (disch := first | (simp; done) | (simp only [IHeap.size_push', IHeap.size_set']; omega) | omega) [a0, hn, hd, gG2]
      refine ⟨niC_pend [] (by kernel_rfl) trivial, ?_⟩
      refine FN.mono (drop_c ok.t.ok x2.now (g.cur : Nat)) ?_
      rintro v h3 ⟨rfl, at3, kp3⟩
      have x3 := x2.stepN ok.l.ne (fun s hs => by simp only [Option.some.injEq] at hs; subst hs; rw [← List.length_pos_iff, put_len]; have := t2.le; omega) kp3 at3
      have s1 : g.step1 t = (g.now.drop (g.cur : Nat), t.put c.1 c.2.1) := by unfold GT.step1; rw [hc]; simp only [c1, if_true]
      have x4 : GAt ⟨(g.step1 t).1, some (g.step1 t).2, g.most, g.cur⟩ h3 G p q p' q' := by rw [s1]; exact x3
      have z3 := kp3.size
      have ks3 : ∀ i, i < h.size → ¬ g.own G p q p' q' i → h3.get i = h.get i := fun i hi hn => by
        obtain ⟨o1, o2, o3, o4, o5⟩ := own2 i hn
        rw [kp3.get i (by omega) o2 o3, kp2.get i (by rw [IHeap.size_push']; omega) o4 o5, kg i hi]
      have zz := x4.gG
      rw [nxA_some rfl] at zz
      have gl4 := IHeap.get_lt zz
      have x5 := x4.setCur (by rw [← List.length_pos_iff]; rw [L1]; omega) (fun s hs => by simp only [Option.some.injEq] at hs; subst hs; rw [← List.length_pos_iff]; rw [L2]; have := t2.le; omega) (g.cur + 1)
      rw [nxA_some rfl] at x5
      have lc5 := gleft_c x5 (by rw [L1]; omega) (by show g.cur + 1 ≤ 1000; omega)
      rw [Int.natCast_add, show ((1 : Nat) : Int) = 1 from rfl] at x5 lc5
      simp (maxSteps := 1000000) (disch := first | (simp; done) | (simp only [IHeap.size_push', IHeap.size_set']; omega) | omega) [a0, hn, hd, zz, wrap64, undef]
      refine ⟨niC_pend [] (by kernel_rfl) trivial, ?_⟩
      refine FN.of lc5 ?_
      by_cases fin : g.cur + 1 = g.now.ps.length
      · have lv : GT.left ⟨(g.step1 t).1, some (g.step1 t).2, g.most, g.cur + 1⟩ = 0 := by
          show ((g.step1 t).1.ps.length : Int) - (g.cur + 1 : Nat) = 0
          rw [L1]
          omega
        have st : g.step = ⟨(g.step1 t).2, none, g.most, g.cur + 1⟩ := by unfold GT.step; rw [hx]; simp only [fin, if_true]
        obtain ⟨m1, m2, xa4⟩ := x4.apart2 rfl (by rw [← List.length_pos_iff, L2]; have := t2.le; omega)
        rw [lv]
        simp (maxSteps := 1000000) (disch := first | (simp; done) | (simp only [IHeap.size_push', IHeap.size_set']; omega) | omega) [a0, hn, hd, zz, undef]
        refine ⟨by rw [st]; rfl, ⟨p', q', p, q, ?_, fun i hi => ?_⟩, ⟨by rw [IHeap.size_set']; omega, fun i hi hn => by rw [IHeap.get_set_ne _ (fun e => (own2 i hn).1 e.symm)]; exact ks3 i hi hn⟩⟩
        · rw [st]
          refine ⟨by rw [IHeap.get_set_same _ gl4]; push_cast; rfl, ⟨by rw [IHeap.get_set_ne _ m1]; exact xa4.gp, fun hc => ⟨by rw [IHeap.get_set_ne _ m2]; exact (xa4.gq hc).1, (xa4.gq hc).2⟩⟩, .inl ⟨rfl, rfl⟩, fun h => absurd rfl h⟩
        · rw [st] at hi
          have nn : g.nx ≠ none := by rw [hx]; simp
          rcases hi with e | e | e | ⟨e, _⟩
          · exact .inl e
          · exact .inr (.inr (.inr ⟨nn, .inl e⟩))
          · exact .inr (.inr (.inr ⟨nn, .inr e⟩))
          · exact absurd rfl e
      · have lv : GT.left ⟨(g.step1 t).1, some (g.step1 t).2, g.most, g.cur + 1⟩ = (g.now.ps.length : Int) - (g.cur + 1 : Nat) := by
          show ((g.step1 t).1.ps.length : Int) - (g.cur + 1 : Nat) = _
          rw [L1]
        have l2 : ¬ ((g.now.ps.length : Int) - (g.cur + 1 : Nat) = 0) := by omega
        have l2' : ((g.now.ps.length : Int) - ((g.cur : Int) + 1) = 0) = False := eq_false (by omega)
        have st : g.step = g.mid t := by unfold GT.step; rw [hx]; simp only [fin, if_false]
        rw [lv]
        simp (maxSteps := 1000000) (disch := first | (simp; done) | (simp only [IHeap.size_push', IHeap.size_set']; omega) | omega) [a0, hn, hd, zz, undef, l2, l2']
        refine ⟨by rw [st]; rfl, ⟨p, q, p', q', by rw [st]; exact x5, fun i hi => ?_⟩, ⟨by rw [IHeap.size_set']; omega, fun i hi hn => by rw [IHeap.get_set_ne _ (fun e => (own2 i hn).1 e.symm)]; exact ks3 i hi hn⟩⟩
        rw [st] at hi
        exact hi.imp id (Or.imp id (Or.imp id fun ⟨_, e⟩ => ⟨by rw [hx]; simp, e⟩))
    · have gc := get_c nI (g.cur : Nat)
      rw [get_not (fun d hd => by rw [hc] at hd; cases hd; exact c1)] at gc
      refine FN.ct gc ?_
      intro h1 fr
      have kg : ∀ i, i < h.size → (h1.push (.row false 0 [.int .u64 0, .int .u32 0])).get i = h.get i := fun i hi => by rw [IHeap.get_push_ne _ (by have := fr.size; omega), fr.get i hi, getU_nil]
      have z1 := fr.size
      have x1 := x.inv kg
      have s1 : g.step1 t = (g.now, t) := by unfold GT.step1; rw [hc]; simp only [c1, if_false]
      have x4 : GAt ⟨(g.step1 t).1, some (g.step1 t).2, g.most, g.cur⟩ (h1.push (.row false 0 [.int .u64 0, .int .u32 0])) G p q p' q' := by
        rw [s1, ← hx]
        exact x1
      have gG1 := x1.gG
      rw [nxA_some hx] at gG1
      have z3 : h1.size + 1 = (h1.push (.row false 0 [.int .u64 0, .int .u32 0])).size := by rw [IHeap.size_push']
      have ks3 : ∀ i, i < h.size → ¬ g.own G p q p' q' i → (h1.push (.row false 0 [.int .u64 0, .int .u32 0])).get i = h.get i := fun i hi _ => kg i hi
      have zz := x4.gG
      rw [nxA_some rfl] at zz
      have gl4 := IHeap.get_lt zz
      have x5 := x4.setCur (by rw [← List.length_pos_iff]; rw [L1]; omega) (fun s hs => by simp only [Option.some.injEq] at hs; subst hs; rw [← List.length_pos_iff]; rw [L2]; have := t2.le; omega) (g.cur + 1)
      rw [nxA_some rfl] at x5
      have lc5 := gleft_c x5 (by rw [L1]; omega) (by show g.cur + 1 ≤ 1000; omega)
      rw [Int.natCast_add, show ((1 : Nat) : Int) = 1 from rfl] at x5 lc5
      simp (maxSteps := 1000000) (disch := first | (simp; done) | (simp only [IHeap.size_push', IHeap.size_set']; omega) | omega) [a0, hn, hd, zz, wrap64, undef, gG1]
      refine ⟨niC_pend [] (by kernel_rfl) trivial, ?_⟩
      refine FN.of lc5 ?_
      by_cases fin : g.cur + 1 = g.now.ps.length
      · have lv : GT.left ⟨(g.step1 t).1, some (g.step1 t).2, g.most, g.cur + 1⟩ = 0 := by
          show ((g.step1 t).1.ps.length : Int) - (g.cur + 1 : Nat) = 0
          rw [L1]
          omega
        have st : g.step = ⟨(g.step1 t).2, none, g.most, g.cur + 1⟩ := by unfold GT.step; rw [hx]; simp only [fin, if_true]
        obtain ⟨m1, m2, xa4⟩ := x4.apart2 rfl (by rw [← List.length_pos_iff, L2]; have := t2.le; omega)
        rw [lv]
        simp (maxSteps := 1000000) (disch := first | (simp; done) | (simp only [IHeap.size_push', IHeap.size_set']; omega) | omega) [a0, hn, hd, zz, undef]
        refine ⟨by rw [st]; rfl, ⟨p', q', p, q, ?_, fun i hi => ?_⟩, ⟨by rw [IHeap.size_set']; omega, fun i hi hn => by rw [IHeap.get_set_ne _ (fun e => (own2 i hn).1 e.symm)]; exact ks3 i hi hn⟩⟩
        · rw [st]
          refine ⟨by rw [IHeap.get_set_same _ gl4]; push_cast; rfl, ⟨by rw [IHeap.get_set_ne _ m1]; exact xa4.gp, fun hc => ⟨by rw [IHeap.get_set_ne _ m2]; exact (xa4.gq hc).1, (xa4.gq hc).2⟩⟩, .inl ⟨rfl, rfl⟩, fun h => absurd rfl h⟩
        · rw [st] at hi
          have nn : g.nx ≠ none := by rw [hx]; simp
          rcases hi with e | e | e | ⟨e, _⟩
          · exact .inl e
          · exact .inr (.inr (.inr ⟨nn, .inl e⟩))
          · exact .inr (.inr (.inr ⟨nn, .inr e⟩))
          · exact absurd rfl e
      · have lv : GT.left ⟨(g.step1 t).1, some (g.step1 t).2, g.most, g.cur + 1⟩ = (g.now.ps.length : Int) - (g.cur + 1 : Nat) := by
          show ((g.step1 t).1.ps.length : Int) - (g.cur + 1 : Nat) = _
          rw [L1]
        have l2 : ¬ ((g.now.ps.length : Int) - (g.cur + 1 : Nat) = 0) := by omega
        have l2' : ((g.now.ps.length : Int) - ((g.cur : Int) + 1) = 0) = False := eq_false (by omega)
        have st : g.step = g.mid t := by unfold GT.step; rw [hx]; simp only [fin, if_false]
        rw [lv]
        simp (maxSteps := 1000000) (disch := first | (simp; done) | (simp only [IHeap.size_push', IHeap.size_set']; omega) | omega) [a0, hn, hd, zz, undef, l2, l2']
        refine ⟨by rw [st]; rfl, ⟨p, q, p', q', by rw [st]; exact x5, fun i hi => ?_⟩, ⟨by rw [IHeap.size_set']; omega, fun i hi hn => by rw [IHeap.get_set_ne _ (fun e => (own2 i hn).1 e.symm)]; exact ks3 i hi hn⟩⟩
        rw [st] at hi
        exact hi.imp id (Or.imp id (Or.imp id fun ⟨_, e⟩ => ⟨by rw [hx]; simp, e⟩))
end Go.Proofs.Ytmobpbhbllhdcaa.Ideal
