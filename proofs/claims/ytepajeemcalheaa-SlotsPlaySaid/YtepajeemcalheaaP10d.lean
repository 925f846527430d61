import Derived.Test.YtepajeemcalheaaP10c
noncomputable section
open Go.Proofs
namespace Go.Proofs.Ytepajeemcalheaa.Ideal
open Go.RowKit
set_option linter.unusedSimpArgs false
set_option linter.unusedVariables false
set_option linter.unusedSectionVars false
set_option maxRecDepth 100000
set_option maxHeartbeats 4000000
attribute [-simp] IHeap.size_set IHeap.size_push
attribute [local simp ↓] Hid.ap_mk
attribute [local simp] scopeQ_normal scopeQ_ret scopeQ_exit WP_skip WP_label WP_exit WP_goto WP_ret WP_region WP_seq WP_cond WP_block WP_scope WP_loop WP_range thenQ_normal thenQ_ret thenQ_exit thenQ_goto loopQ_normal loopQ_ret loopQ_exit invQ_normal invQ_ret invQ_exit outOf_normal outOf_ret outOf_goto outOf_exit ev_tmp ev_const ev_func
  wops_nil wops_cons wantedE_none wantedE_some jgd_some wnx_eq niC_false wdo_move wdo_assign wdo_pick wdo_load wdo_store wdo_alloc wdo_box wdo_fieldAddr wdo_indexAddr wdo_field wdo_extract wdo_build wdo_buildSlice wdo_makeSlice wdo_binOp wdo_unOp wdo_makeFunc wdo_nilCheck wdo_callV wdo_len wdo_append wdo_copy wdo_delete wdo_max wdo_min wdo_convert jcvt_int
  xput_get put_n put_none put_dfr ibin finQ_n finQ_r finD_nil splice_one ires_nil ires_one ires_two ires_three ires1_tmp ires1_cell jcell_ptr rowLoad_row wrap64 wrapU64 wrapU8 wrapU16 wrapU32 callV_fn buildOf Instr.fill Value.cells Value.oneCell' kindOf slots_all splice_all IHeap.size_set' IHeap.size_push' IHeap.get_set_same IHeap.get_set_ne IHeap.get_pushed IHeap.get_push_ne IHeap.set_set IHeap.set_push IHeap.set_pushed IHeap.set_set3 getU_nil getU_same getU_ne jif_true jif_false pushH_eq setH_eq forceL_eq forceV_eq ibuildSlice
attribute [local simp] wdo_index jopt_some
attribute [-simp] Value.oneCell'
theorem one_int' (k : IntKind) (n : Int) : (Value.int k n).oneCell' = true := rfl
theorem one_bool' (b : Bool) : (Value.bool b).oneCell' = true := rfl
theorem one_ptr' (a : Option Addr) : (Value.pointer a).oneCell' = true := rfl
attribute [local simp] one_int' one_bool' one_ptr'
variable {h : IHeap} {s k q n m : Nat} {L : Nat → List Nat} {b f : Nat → Nat} {t : Nat → Int}
theorem SIs.to (x : SIs h s k q n m L b f t) {h' : IHeap} (o : ∀ i, i < h.size → h'.get i = h.get i) : SIs h' s k q n m L b f t :=
  ⟨by rw [o _ (IHeap.get_lt x.gs)]; exact x.gs, by rw [o _ (IHeap.get_lt x.gk)]; exact x.gk, by rw [o _ (IHeap.get_lt x.gq)]; exact x.gq, x.rep, x.n1, x.m1, x.nz, x.mz⟩
theorem putL_same (L : Nat → List Nat) (l : Nat) : putL L l (L l) = L := by
  funext y
  unfold putL
  split
  · rename_i e; rw [e]
  · rfl
/-- Where Pop is. -/
structure PoJ (h0 : IHeap) (s k q : Nat) (l : Nat) (L : Loop) (a : Int) (is : Bool) (h : IHeap) : Prop where
  size : h0.size + 7 ≤ h.size
  old : ∀ i, i < h0.size → i ≠ k → i ≠ q → h.get i = h0.get i
  g0 : h.get h0.size = some (.row false 0 [.pointer (some ⟨s, 0, none⟩)])
  g1 : h.get (h0.size + 1) = some (.row false 0 [.int .i64 a])
  g2 : h.get (h0.size + 2) = some (.row false 0 [.bool is])
  g3 : h.get (h0.size + 3) = some (.row false 0 [.pointer (some ⟨s, 0, none⟩)])
  g4 : h.get (h0.size + 4) = some (.row false 0 [.int .i64 l])
  gd : h.get (h0.size + 5) = some .defs
  gl : h.get (h0.size + 6) = some (.loop L)
def popV (z : List Nat) : Value := match z with
  | [] => .tuple #[.int .i64 0, .bool false]
  | c :: _ => .tuple #[.int .i64 c, .bool true]
def Sx (h : IHeap) (s k q n m : Nat) (L : Nat → List Nat) : Prop := ∃ b f t, SIs h s k q n m L b f t
theorem pop_c (x : SIs h s k q n m L b f t) (l : Nat) (hl : l < m) (hlen : (L l).length < 100000) :
    FN Try.prog 11 #[.pointer (some ⟨s, 0, none⟩), .int .i64 l] h (Q := ⟨fun v h' => v = popV (L l) ∧ Sx h' s k q n m (putL L l (L l).tail) ∧ h.size ≤ h'.size ∧ ∀ i, i < h.size → i ≠ k → i ≠ q → h'.get i = h.get i⟩) := by
  refine FN.enter mixed (fn := Try.f11) (by kernel_rfl) rfl (by kernel_rfl) fun e hn hg hd => ?_
  simp [Try.f11] at hn
  have a0 : e.get 0 = .pointer (some ⟨s, 0, none⟩) := hg 0 (by omega)
  have a1 : e.get 1 = .int .i64 l := hg 1 (by omega)
  clear hg
  have hsz := IHeap.get_lt x.gs
  have hkz := IHeap.get_lt x.gk
  have hqz := IHeap.get_lt x.gq
  simp (maxSteps := 1000000) (disch := first | (simp; done) | (simp only [IHeap.size_push', IHeap.size_set']; omega) | omega) [a0, a1, hn, hd]
  refine FN.of (of_c s l) ?_
  simp (maxSteps := 1000000) (disch := first | (simp; done) | (simp only [IHeap.size_push', IHeap.size_set']; omega) | omega) [a0, a1, hn, hd]
  refine WPR.gen fun E H hE hH => ?_
  have E2 : E.get 2 = .pointer (some ⟨h.size, 0, none⟩) := by rw [hE]; simp (maxSteps := 1000000) (disch := first | (simp; done) | (simp only [IHeap.size_push', IHeap.size_set']; omega) | omega) [hn]
  have E4 : E.get 4 = .pointer (some ⟨h.size + 1, 0, none⟩) := by rw [hE]; simp (maxSteps := 1000000) (disch := first | (simp; done) | (simp only [IHeap.size_push', IHeap.size_set']; omega) | omega) [hn]
  have E5 : E.get 5 = .pointer (some ⟨h.size + 2, 0, none⟩) := by rw [hE]; simp (maxSteps := 1000000) (disch := first | (simp; done) | (simp only [IHeap.size_push', IHeap.size_set']; omega) | omega) [hn]
  have E9 : E.get 9 = .func (.func 27) #[] #[.pointer (some ⟨h.size + 3, 0, none⟩), .pointer (some ⟨h.size + 4, 0, none⟩)] := by rw [hE]; simp (maxSteps := 1000000) (disch := first | (simp; done) | (simp only [IHeap.size_push', IHeap.size_set']; omega) | omega) [hn]
  have En : E.n = 15 := by rw [hE]; simp (maxSteps := 1000000) (disch := first | (simp; done) | (simp only [IHeap.size_push', IHeap.size_set']; omega) | omega) [hn]
  have Ed : E.dfr = [] := by rw [hE]; simp (maxSteps := 1000000) (disch := first | (simp; done) | (simp only [IHeap.size_push', IHeap.size_set']; omega) | omega) [hd]
  have Hz : H.size = h.size + 5 := by rw [hH]; simp (maxSteps := 1000000) (disch := first | (simp; done) | (simp only [IHeap.size_push', IHeap.size_set']; omega) | omega) []
  have Ho : ∀ i, i < h.size → H.get i = h.get i := fun i hi => by rw [hH]; simp (maxSteps := 1000000) (disch := first | (simp; done) | (simp only [IHeap.size_push', IHeap.size_set']; omega) | omega) []
  have H0 : H.get h.size = some (.row false 0 [.pointer (some ⟨s, 0, none⟩)]) := by rw [hH]; simp (maxSteps := 1000000) (disch := first | (simp; done) | (simp only [IHeap.size_push', IHeap.size_set']; omega) | omega) []
  have H1 : H.get (h.size + 1) = some (.row false 0 [.int .i64 0]) := by rw [hH]; simp (maxSteps := 1000000) (disch := first | (simp; done) | (simp only [IHeap.size_push', IHeap.size_set']; omega) | omega) []
  have H2 : H.get (h.size + 2) = some (.row false 0 [.bool false]) := by rw [hH]; simp (maxSteps := 1000000) (disch := first | (simp; done) | (simp only [IHeap.size_push', IHeap.size_set']; omega) | omega) []
  have H3 : H.get (h.size + 3) = some (.row false 0 [.pointer (some ⟨s, 0, none⟩)]) := by rw [hH]; simp (maxSteps := 1000000) (disch := first | (simp; done) | (simp only [IHeap.size_push', IHeap.size_set']; omega) | omega) []
  have H4 : H.get (h.size + 4) = some (.row false 0 [.int .i64 l]) := by rw [hH]; simp (maxSteps := 1000000) (disch := first | (simp; done) | (simp only [IHeap.size_push', IHeap.size_set']; omega) | omega) []
  clear hH hE hn hd a0 a1
  refine WPR.intro2 (cs := #[.pointer (some ⟨h.size + 3, 0, none⟩), .pointer (some ⟨h.size + 4, 0, none⟩)]) (fs := #[]) rfl E9 (by simp) rfl ?_
  intro P Lp Lt LA LB Ls Ln
  have x1 : SIs ((H.push .defs).push (.loop P)) s k q n m L b f t := x.to fun i hi => by
    have := Ho i hi
    simp (maxSteps := 1000000) (disch := first | (simp; done) | (simp only [IHeap.size_push', IHeap.size_set']; omega) | omega) [this]
  refine FN.mono (iter_c (z := L l) hl (fun i h' => i = 0 ∧ PoJ h s k q l P 0 false h' ∧ SIs h' s k q n m L b f t) (fun h' => ∃ c z, L l = c :: z ∧ PoJ h s k q l { P with state := .done, pending := some .ret } c true h' ∧ Sx h' s k q n m (putL L l z)) ?_ ?_ ?_ x1 rfl) ?_
  · rintro i h1 ⟨rfl, j, x2⟩
    exact ⟨j.g3, j.g4, L, b, f, t, [], x2, by simp⟩
  · rintro i h1 hi ⟨rfl, j, x2⟩
    obtain ⟨c, hc⟩ : ∃ c, (L l)[0] = c := ⟨_, rfl⟩
    have hLl : L l = c :: (L l).tail := by
      cases hz : L l with
      | nil => rw [hz] at hi; simp at hi
      | cons a z => simp [hz] at hc; rw [hc]; rfl
    rw [hc]
    have gl := j.gl
    refine RN.one mixed (E := E) (by rw [Hz]; exact gl) Lp Lt LA LB (by kernel_rfl) (by kernel_rfl) ?_
    intro r rn rd rg
    have r2 := rg 2
    have r4 := rg 4
    have r5 := rg 5
    rw [E2] at r2; rw [E4] at r4; rw [E5] at r5
    rw [En] at rn
    simp (maxSteps := 1000000) (disch := first | (simp; done) | (simp only [IHeap.size_push', IHeap.size_set']; omega) | omega) [rn, rd, r2, r4, r5, assignQ]
    refine ⟨P, by rw [Hz]; exact gl, Ls, ?_⟩
    have j0 := j.g0
    have j1 := j.g1
    have j2 := j.g2
    have jz := j.size
    simp (maxSteps := 1000000) (disch := first | (simp; done) | (simp only [IHeap.size_push', IHeap.size_set']; omega) | omega) [rn, rd, r2, r4, r5, Hz, j0]
    have x3 : SIs (h1.set (h.size + 5 + 1) (.loop { P with state := .busy })) s k q n m L b f t :=
      ⟨by rw [IHeap.get_set_ne _ (by omega)]; exact x2.gs, by rw [IHeap.get_set_ne _ (by omega)]; exact x2.gk, by rw [IHeap.get_set_ne _ (by omega)]; exact x2.gq, x2.rep, x2.n1, x2.m1, x2.nz, x2.mz⟩
    refine FN.mono (remove_ok x3 l c hl (by rw [hLl]; simp) hlen) ?_
    rintro _ h2 ⟨rfl, x4, z2, o2⟩
    rw [IHeap.size_set'] at z2 o2
    have er : (L l).erase c = (L l).tail := by rw [hLl]; simp
    rw [er] at x4
    have k0 : h2.get h.size = some (.row false 0 [.pointer (some ⟨s, 0, none⟩)]) := by rw [o2 _ (by omega) (by omega) (by omega), IHeap.get_set_ne _ (by omega)]; exact j0
    have k1 : h2.get (h.size + 1) = some (.row false 0 [.int .i64 0]) := by rw [o2 _ (by omega) (by omega) (by omega), IHeap.get_set_ne _ (by omega)]; exact j1
    have k2 : h2.get (h.size + 2) = some (.row false 0 [.bool false]) := by rw [o2 _ (by omega) (by omega) (by omega), IHeap.get_set_ne _ (by omega)]; exact j2
    have k3 : h2.get (h.size + 3) = some (.row false 0 [.pointer (some ⟨s, 0, none⟩)]) := by rw [o2 _ (by omega) (by omega) (by omega), IHeap.get_set_ne _ (by omega)]; exact j.g3
    have k4 : h2.get (h.size + 4) = some (.row false 0 [.int .i64 l]) := by rw [o2 _ (by omega) (by omega) (by omega), IHeap.get_set_ne _ (by omega)]; exact j.g4
    have k5 : h2.get (h.size + 5) = some .defs := by rw [o2 _ (by omega) (by omega) (by omega), IHeap.get_set_ne _ (by omega)]; exact j.gd
    have k6 : h2.get (h.size + 6) = some (.loop { P with state := .busy }) := by rw [o2 _ (by omega) (by omega) (by omega), show h.size + 6 = h.size + 5 + 1 from rfl, IHeap.get_set_same _ (by omega)]
    simp (maxSteps := 1000000) (disch := first | (simp; done) | (simp only [IHeap.size_push', IHeap.size_set']; omega) | omega) [rn, rd, r2, r4, r5, Hz, k0, k1, k2, k6, bodyQ]
    refine ⟨c, (L l).tail, hLl, ⟨?_, fun i hi h1 h2 => ?_, ?_, ?_, ?_, ?_, ?_, ?_, ?_⟩, ?_⟩
    · simp only [IHeap.size_set']; omega
    · have q1 := j.old i hi h1 h2
      have q2 := o2 i (by omega) h1 h2
      rw [IHeap.get_set_ne _ (by omega)] at q2
      simp (maxSteps := 1000000) (disch := first | (simp; done) | (simp only [IHeap.size_push', IHeap.size_set']; omega) | omega) [q1, q2]
    · simp (maxSteps := 1000000) (disch := first | (simp; done) | (simp only [IHeap.size_push', IHeap.size_set']; omega) | omega) [k0]
    · simp (maxSteps := 1000000) (disch := first | (simp; done) | (simp only [IHeap.size_push', IHeap.size_set']; omega) | omega) []
    · simp (maxSteps := 1000000) (disch := first | (simp; done) | (simp only [IHeap.size_push', IHeap.size_set']; omega) | omega) []
    · simp (maxSteps := 1000000) (disch := first | (simp; done) | (simp only [IHeap.size_push', IHeap.size_set']; omega) | omega) [k3]
    · simp (maxSteps := 1000000) (disch := first | (simp; done) | (simp only [IHeap.size_push', IHeap.size_set']; omega) | omega) [k4]
    · simp (maxSteps := 1000000) (disch := first | (simp; done) | (simp only [IHeap.size_push', IHeap.size_set']; omega) | omega) [k5]
    · simp (maxSteps := 1000000) (disch := first | (simp; done) | (simp only [IHeap.size_push', IHeap.size_set']; omega) | omega) []
    · obtain ⟨b', f', t', x6⟩ := x4
      refine ⟨b', f', t', ?_, ?_, ?_, x6.rep, x6.n1, x6.m1, x6.nz, x6.mz⟩
      · have := x6.gs
        simp (maxSteps := 1000000) (disch := first | (simp; done) | (simp only [IHeap.size_push', IHeap.size_set']; omega) | omega) [this]
      · have := x6.gk
        simp (maxSteps := 1000000) (disch := first | (simp; done) | (simp only [IHeap.size_push', IHeap.size_set']; omega) | omega) [this]
      · have := x6.gq
        simp (maxSteps := 1000000) (disch := first | (simp; done) | (simp only [IHeap.size_push', IHeap.size_set']; omega) | omega) [this]
  · refine ⟨rfl, ⟨by simp only [IHeap.size_push']; omega, fun i hi _ _ => ?_, ?_, ?_, ?_, ?_, ?_, ?_, ?_⟩, x1⟩
    · have := Ho i hi
      simp (maxSteps := 1000000) (disch := first | (simp; done) | (simp only [IHeap.size_push', IHeap.size_set']; omega) | omega) [this]
    · simp (maxSteps := 1000000) (disch := first | (simp; done) | (simp only [IHeap.size_push', IHeap.size_set']; omega) | omega) [H0]
    · simp (maxSteps := 1000000) (disch := first | (simp; done) | (simp only [IHeap.size_push', IHeap.size_set']; omega) | omega) [H1]
    · simp (maxSteps := 1000000) (disch := first | (simp; done) | (simp only [IHeap.size_push', IHeap.size_set']; omega) | omega) [H2]
    · simp (maxSteps := 1000000) (disch := first | (simp; done) | (simp only [IHeap.size_push', IHeap.size_set']; omega) | omega) [H3]
    · simp (maxSteps := 1000000) (disch := first | (simp; done) | (simp only [IHeap.size_push', IHeap.size_set']; omega) | omega) [H4]
    · simp (maxSteps := 1000000) (disch := first | (simp; done) | (simp only [IHeap.size_push', IHeap.size_set']; omega) | omega) [Hz]
    · simp (maxSteps := 1000000) (disch := first | (simp; done) | (simp only [IHeap.size_push', IHeap.size_set']; omega) | omega) [Hz]
  · rintro v h3 hp
    simp only [Hid.ap_mk] at hp ⊢
    have hk : ∃ (L' : Loop) (a : Int) (is : Bool), PoJ h s k q l L' a is h3 ∧ L'.state ≠ .busy ∧ Sx h3 s k q n m (putL L l (L l).tail) ∧ ((L'.pending = none ∧ a = 0 ∧ is = false ∧ popV (L l) = .tuple #[.int .i64 0, .bool false]) ∨ (L'.pending = some .ret ∧ popV (L l) = .tuple #[.int .i64 a, .bool is])) := by
      rcases hp with ⟨h1, h2, h3⟩ | ⟨c, z, h1, h2, h3⟩
      · have hnil : L l = [] := List.eq_nil_of_length_eq_zero h1
        refine ⟨P, _, _, h2, by rw [Ls]; simp, ⟨b, f, t, ?_⟩, .inl ⟨Ln, rfl, rfl, by rw [hnil]; rfl⟩⟩
        have e : putL L l (L l).tail = L := by
          have := putL_same L l
          rw [hnil] at this ⊢
          exact this
        rw [e]
        exact h3
      · refine ⟨_, _, _, h2, by simp, by rw [h1]; exact h3, .inr ⟨rfl, by rw [h1]; rfl⟩⟩
    obtain ⟨L', a, is, j, hs, x5, hx⟩ := hk
    have jz := j.size
    have gl := j.gl
    have jd := j.gd
    have j1 := j.g1
    have j2 := j.g2
    have gd' : (h3.set (H.size + 1) (.loop { L' with state := .exhausted })).get H.size = some .defs := by simp (maxSteps := 1000000) (disch := first | (simp; done) | (simp only [IHeap.size_push', IHeap.size_set']; omega) | omega) [Hz, jd]
    have g1' : (h3.set (h.size + 5 + 1) (.loop { L' with state := .exhausted })).get (h.size + 1) = some (.row false 0 [.int .i64 a]) := by simp (maxSteps := 1000000) (disch := first | (simp; done) | (simp only [IHeap.size_push', IHeap.size_set']; omega) | omega) [j1]
    have g2' : (h3.set (h.size + 5 + 1) (.loop { L' with state := .exhausted })).get (h.size + 2) = some (.row false 0 [.bool is]) := by simp (maxSteps := 1000000) (disch := first | (simp; done) | (simp only [IHeap.size_push', IHeap.size_set']; omega) | omega) [j2]
    have go' : ∀ i, i < h.size → (h3.set (h.size + 5 + 1) (.loop { L' with state := .exhausted })).get i = h3.get i := fun i hi => by rw [IHeap.get_set_ne _ (by omega)]
    obtain ⟨E', hE', n', d', g'⟩ := XEnv.withd E (markOf H.size :: E.dfr)
    have E4' := g' 4
    have E5' := g' 5
    rw [E4] at E4'; rw [E5] at E5'; rw [En] at n'; rw [Ed] at d'
    have fin : ∀ h4 : IHeap, (∀ i, i < h.size → h4.get i = h3.get i) → Sx h4 s k q n m (putL L l (L l).tail) ∧ ∀ i, i < h.size → i ≠ k → i ≠ q → h4.get i = h.get i := by
      intro h4 o4
      obtain ⟨b', f', t', x6⟩ := x5
      refine ⟨⟨b', f', t', ⟨by rw [o4 _ hsz]; exact x6.gs, by rw [o4 _ hkz]; exact x6.gk, by rw [o4 _ hqz]; exact x6.gq, x6.rep, x6.n1, x6.m1, x6.nz, x6.mz⟩⟩, fun i hi h1 h2 => by rw [o4 i hi]; exact j.old i hi h1 h2⟩
    rcases hx with ⟨hx, rfl, rfl, hv⟩ | ⟨hx, hv⟩
    · refine ⟨L', by rw [Hz]; exact gl, hs, .normal, by rw [hx]; rfl, ?_⟩
      simp only [Hid.ap_mk]
      rw [hE']
      rw [Hz] at gd' d' ⊢
      generalize hhh : h3.set (h.size + 5 + 1) (.loop { L' with state := .exhausted }) = h4 at gd' g1' g2' go' ⊢
      have hz4 : h4.size = h3.size := by rw [← hhh]; simp only [IHeap.size_set']
      have gd2 : ((h4.set (h.size + 1) (.row false 0 [.int .i64 0])).set (h.size + 2) (.row false 0 [.bool false])).get (h.size + 5) = some .defs := by simp (maxSteps := 1000000) (disch := first | (simp; done) | (simp only [IHeap.size_push', IHeap.size_set']; omega) | omega) [gd']
      simp (maxSteps := 1000000) (disch := first | (simp; done) | (simp only [IHeap.size_push', IHeap.size_set']; omega) | omega) [outOf_normal, E4', E5', n', d', g1', g2', finD_one gd2, hv]
      obtain ⟨f1, f2⟩ := fin (((h4.set (h.size + 1) (.row false 0 [.int .i64 0])).set (h.size + 2) (.row false 0 [.bool false])).set (h.size + 5) .dead) (fun i hi => by
        have := go' i hi
        simp (maxSteps := 1000000) (disch := first | (simp; done) | (simp only [IHeap.size_push', IHeap.size_set']; omega) | omega) [this])
      exact ⟨f1, by omega, f2⟩
    · refine ⟨L', by rw [Hz]; exact gl, hs, .ret, by rw [hx]; rfl, ?_⟩
      simp only [Hid.ap_mk]
      rw [hE']
      rw [Hz] at gd' d' ⊢
      generalize hhh : h3.set (h.size + 5 + 1) (.loop { L' with state := .exhausted }) = h4 at gd' g1' g2' go' ⊢
      have hz4 : h4.size = h3.size := by rw [← hhh]; simp only [IHeap.size_set']
      simp (maxSteps := 1000000) (disch := first | (simp; done) | (simp only [IHeap.size_push', IHeap.size_set']; omega) | omega) [outOf_ret, E4', E5', n', d', g1', g2', finD_one gd', hv]
      obtain ⟨f1, f2⟩ := fin (h4.set (h.size + 5) .dead) (fun i hi => by
        have := go' i hi
        simp (maxSteps := 1000000) (disch := first | (simp; done) | (simp only [IHeap.size_push', IHeap.size_set']; omega) | omega) [this])
      exact ⟨f1, by omega, f2⟩
end Go.Proofs.Ytepajeemcalheaa.Ideal
