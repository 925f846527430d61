import Derived.Test.YtmobpbhbllhdcaaP14p
noncomputable section
open Go.Proofs
namespace Go.Proofs.Ytmobpbhbllhdcaa.Ideal
open Go.RowKit
set_option linter.unusedSimpArgs false
set_option linter.unusedVariables false
set_option linter.unusedSectionVars false
set_option maxRecDepth 100000
set_option maxHeartbeats 4000000
attribute [-simp] IHeap.size_set IHeap.size_push
attribute [local simp ↓] Hid.ap_mk
attribute [local simp] scopeQ_normal scopeQ_ret scopeQ_exit WP_skip WP_label WP_exit WP_goto WP_ret WP_region WP_seq WP_cond WP_block WP_scope WP_loop WP_range thenQ_normal thenQ_ret thenQ_exit thenQ_goto loopQ_normal loopQ_ret loopQ_exit invQ_normal invQ_ret invQ_exit outOf_normal outOf_ret outOf_goto outOf_exit ev_tmp ev_const ev_func
  wops_nil wops_cons wantedE_none wantedE_some jgd_some wnx_eq niC_false wdo_move wdo_assign wdo_pick wdo_load wdo_store wdo_alloc wdo_box wdo_fieldAddr wdo_indexAddr wdo_field wdo_extract wdo_build wdo_buildSlice wdo_makeSlice wdo_binOp wdo_unOp wdo_makeFunc wdo_nilCheck wdo_callV wdo_len wdo_append wdo_copy wdo_delete wdo_max wdo_min wdo_convert jcvt_int
  xput_get put_n put_none put_dfr ibin finQ_n finQ_r finD_nil splice_one ires_nil ires_one ires_two ires_three ires1_tmp ires1_cell jcell_ptr rowLoad_row wrap64 wrapU64 wrapU8 wrapU16 wrapU32 callV_fn buildOf Instr.fill Value.cells Value.oneCell' kindOf slots_all splice_all IHeap.size_set' IHeap.size_push' IHeap.get_set_same IHeap.get_set_ne IHeap.get_pushed IHeap.get_push_ne IHeap.set_set IHeap.set_push IHeap.set_pushed IHeap.set_set3 getU_nil getU_same getU_ne jif_true jif_false pushH_eq setH_eq forceL_eq forceV_eq ibuildSlice
attribute [local simp] wdo_index jopt_some
attribute [-simp] Value.oneCell'
attribute [local simp] one_int' one_ptr'
theorem one_fn (f : Fn) (a b : Array Value) : (Value.func f a b).oneCell' = true := byEq rfl
theorem finD_two {P : Program} {Q : VQ} {e : XEnv} {h : IHeap} {a b : Nat} (ha : h.get a = some .defs) (hb : (h.set a .dead).get b = some .defs) : Q (.tuple #[]) ((h.set a .dead).set b .dead) → finD P [] Q [markOf a, markOf b] e h := by
  have : marksOf [markOf a, markOf b] = some [a, b] := by simp [marksOf, markOf]
  intro x
  simp only [finD, this, closeMarks, ha, hb]
  exact x
def GT.allP (g : GT) : List PL := g.now.ps ++ g.nxT.ps
def GT.off (g : GT) (i : Nat) : Nat := if i = 0 then 0 else if i = 1 then g.now.ps.length else g.allP.length
structure GIJ (J : Nat → IHeap → Prop) (o y l b2 z : Nat) (A : Option Addr) (L : Loop) (ms : List Nat) (k : Nat) (h : IHeap) : Prop where
  j : J (o + k) h
  size : z + 2 ≤ h.size
  yl : h.get y = some (.row false 0 [.func (.yield l) #[] #[]])
  box : h.get b2 = some (.row false 0 [.pointer A])
  gd : h.get z = some .defs
  gl : h.get (z + 1) = some (.loop L)
  ms : ∀ b ∈ ms, h.get b = some .defs
theorem galls_it {g : GT} {h : IHeap} {l b G p q p' q' : Nat} (ok : GOK g) (J : Nat → IHeap → Prop)
    (hb : ∀ k h, J k h → h.get b = some (.row false 0 [.pointer (some ⟨G, 0, none⟩)])) (hx : ∀ k h, J k h → GAt g h G p q p' q')
    (hJ : ∀ (k : Nat) h1 c, g.allP[k]? = some c → c.2.2 = 1 → h.size ≤ h1.size → J k h1 → RN Try.prog l #[.agg #[.int .u64 c.1, .int .u32 c.2.1]] h1 (Q := ⟨fun v h' => v = .bool true ∧ J (k + 1) h' ∧ h1.size ≤ h'.size ∧ ∀ i, h.size ≤ i → i < h1.size → h'.get i = h1.get i⟩))
    (hN : ∀ (k : Nat) h c, g.allP[k]? = some c → c.2.2 ≠ 1 → J k h → J (k + 1) h)
    (hF : ∀ k h1 h2, J k h1 → h1.size ≤ h2.size → (∀ i, i < h.size → h2.get i = h1.get i) → J k h2) (h0 : J 0 h) :
    FN Try.prog 55 #[.func (.yield l) #[] #[], .pointer (some ⟨b, 0, none⟩)] h (Q := ⟨fun _ h' => J g.allP.length h'⟩) := by
  have gb := hb _ _ h0
  have bl := IHeap.get_lt gb
  have x := hx _ _ h0
  have gl := IHeap.get_lt x.gG
  obtain ⟨H, hH⟩ : ∃ H, H = h.push (.row false 0 [.func (.yield l) #[] #[]]) := ⟨_, rfl⟩
  have Hz : H.size = h.size + 1 := by rw [hH, IHeap.size_push']
  have Ho : ∀ i, i < h.size → H.get i = h.get i := fun i hi => by rw [hH]; exact IHeap.get_push_ne _ (by omega)
  have Hb : H.get h.size = some (.row false 0 [.func (.yield l) #[] #[]]) := by rw [hH]; exact IHeap.get_pushed _ rfl
  have jH : J 0 H := hF _ _ _ h0 (by omega) Ho
  have xH := hx _ _ jH
  have gH := xH.gG
  have gbH := hb _ _ jH
  refine FN.enter mixed (fn := Try.f55) (by kernel_rfl) rfl (by kernel_rfl) fun e hn hg hd => ?_
  simp [Try.f55] at hn
  have a0 : e.get 0 = .func (.yield l) #[] #[] := hg 0 (by omega)
  have a1 : e.get 1 = .pointer (some ⟨b, 0, none⟩) := hg 1 (by omega)
  clear hg
  simp (maxSteps := 1000000) (disch := first | (simp; done) | (simp only [IHeap.size_push', IHeap.size_set']; omega) | omega) [a0, a1, hn, hd, one_fn, ← hH, gbH]
  refine FN.of (gnone_c xH) ?_
  simp (maxSteps := 1000000) (disch := first | (simp; done) | (simp only [IHeap.size_push', IHeap.size_set']; omega) | omega) [a0, a1, hn, hd, gbH, gH]
  refine ⟨niC_pend [] (by kernel_rfl) trivial, ?_⟩
  refine WPL.by_inv mixed (by kernel_rfl) (fun k e h' => ∃ (i : Nat) (ms : List Nat), i + k = 2 ∧ ms.length = i ∧ ms.Nodup ∧ e.n = 30 ∧ e.dfr = ms.map markOf ∧ (∀ b ∈ ms, h.size < b ∧ h'.get b = some .defs) ∧ e.get 1 = .pointer (some ⟨b, 0, none⟩) ∧ e.get 2 = .pointer (some ⟨h.size, 0, none⟩) ∧ e.get 17 = .agg #[.pointer (some ⟨p, 0, none⟩), .pointer (g.nxA p')] ∧ e.get 18 = .int .i64 i ∧ h.size + 1 ≤ h'.size ∧ J (g.off i) h' ∧ h'.get h.size = some (.row false 0 [.func (.yield l) #[] #[]])) 2 ?_ ?_
  · refine ⟨0, [], ?_⟩
    simp (maxSteps := 1000000) (disch := first | (simp; done) | (simp only [IHeap.size_push', IHeap.size_set']; omega) | omega) [a0, a1, hn, hd, Hz, Hb, GT.off, jH]
  clear hn hd a0 a1 e
  rintro k e h1 ⟨i, ms, hi, hml, hnd, hn, hd, hms, e1, e2, e17, e18, hz1, j1, y1⟩
  cases k with
  | zero =>
    obtain rfl : i = 2 := by omega
    obtain ⟨m1, m2, rfl⟩ : ∃ m1 m2, ms = [m1, m2] := by
      match ms, hml with
      | [m1, m2], _ => exact ⟨m1, m2, rfl⟩
    have hne : m1 ≠ m2 := by simp at hnd; exact hnd
    have f1 := hms m1 (by simp)
    have f2 := hms m2 (by simp)
    simp (maxSteps := 1000000) (disch := first | (simp; done) | (simp only [IHeap.size_push', IHeap.size_set']; omega) | omega) [e18, hn, hd]
    refine finD_two f1.2 (by rw [IHeap.get_set_ne _ hne]; exact f2.2) ?_
    refine hF _ _ _ j1 (by simp only [IHeap.size_set']; omega) (fun i hi => ?_)
    rw [IHeap.get_set_ne _ (by omega), IHeap.get_set_ne _ (by omega)]
  | succ k =>
    have hi2 : i < 2 := by omega
    have x1 := hx _ _ j1
    obtain ⟨A, t, qq, hidx, htis, hat, hoff, hlen⟩ : ∃ (A : Option Addr) (t : TB) (qq : Nat), idxV Try.prog 84 (.agg #[.pointer (some ⟨p, 0, none⟩), .pointer (g.nxA p')]) (.int .i64 i) = some (.pointer A, .pure) ∧ (∀ h', GAt g h' G p q p' q' → TIs h' A t qq) ∧ (∀ (j : Nat) c, t.ps[j]? = some c → g.allP[g.off i + j]? = some c) ∧ g.off (i + 1) = g.off i + t.ps.length ∧ t.ps.length ≤ 1000 := by
      rcases (by omega : i = 0 ∨ i = 1) with rfl | rfl
      · refine ⟨some ⟨p, 0, none⟩, g.now, q, by simp [idxV], fun h' y => .inr ⟨p, rfl, y.now⟩, fun j c hc => ?_, by simp [GT.off], by have := ok.l.le; omega⟩
        have hj := (List.getElem?_eq_some_iff.1 hc).1
        simp only [GT.off, if_true, Nat.zero_add, GT.allP]
        rw [List.getElem?_append_left hj]
        exact hc
      · refine ⟨g.nxA p', g.nxT, q', by simp [idxV], fun h' y => y.nx, fun j c hc => ?_, by simp [GT.off, GT.allP], ?_⟩
        · show (g.now.ps ++ g.nxT.ps)[g.now.ps.length + j]? = some c
          rw [List.getElem?_append_right (by omega), Nat.add_sub_cancel_left]
          exact hc
        · cases hxx : g.nx with
          | none => rw [nxT_none hxx]; simp
          | some t =>
            have := (ok.x t hxx).2.1.le
            rw [nxT_some hxx]
            omega
    have hlt : (i : Int) < 2 := by omega
    simp (maxSteps := 1000000) (disch := first | (simp; done) | (simp only [IHeap.size_push', IHeap.size_set']; omega) | omega) [e1, e2, e17, e18, hn, hd, hlt, hidx]
    refine FN.of (all_c A) ?_
    simp (maxSteps := 1000000) (disch := first | (simp; done) | (simp only [IHeap.size_push', IHeap.size_set']; omega) | omega) [e1, e2, e17, e18, hn, hd]
    refine WPR.gen fun E H4 hE hH4 => ?_
    have E1 : E.get 1 = .pointer (some ⟨b, 0, none⟩) := by rw [hE]; simp (maxSteps := 1000000) (disch := first | (simp; done) | (simp only [IHeap.size_push', IHeap.size_set']; omega) | omega) [hn, e1]
    have E2 : E.get 2 = .pointer (some ⟨h.size, 0, none⟩) := by rw [hE]; simp (maxSteps := 1000000) (disch := first | (simp; done) | (simp only [IHeap.size_push', IHeap.size_set']; omega) | omega) [hn, e2]
    have E17 : E.get 17 = .agg #[.pointer (some ⟨p, 0, none⟩), .pointer (g.nxA p')] := by rw [hE]; simp (maxSteps := 1000000) (disch := first | (simp; done) | (simp only [IHeap.size_push', IHeap.size_set']; omega) | omega) [hn, e17]
    have E18 : E.get 18 = .int .i64 i := by rw [hE]; simp (maxSteps := 1000000) (disch := first | (simp; done) | (simp only [IHeap.size_push', IHeap.size_set']; omega) | omega) [hn, e18]
    have E22 : E.get 22 = .func (.func 64) #[] #[.pointer (some ⟨h1.size, 0, none⟩)] := by rw [hE]; simp (maxSteps := 1000000) (disch := first | (simp; done) | (simp only [IHeap.size_push', IHeap.size_set']; omega) | omega) [hn]
    have En : E.n = 30 := by rw [hE]; simp (maxSteps := 1000000) (disch := first | (simp; done) | (simp only [IHeap.size_push', IHeap.size_set']; omega) | omega) [hn]
    have Ed : E.dfr = ms.map markOf := by rw [hE]; simp (maxSteps := 1000000) (disch := first | (simp; done) | (simp only [IHeap.size_push', IHeap.size_set']; omega) | omega) [hd]
    have Gz : H4.size = h1.size + 1 := by rw [hH4, IHeap.size_push']
    have Go4 : ∀ i, i < h1.size → H4.get i = h1.get i := fun i hi => by rw [hH4]; exact IHeap.get_push_ne _ (by omega)
    have G1 : H4.get h1.size = some (.row false 0 [.pointer A]) := by rw [hH4]; exact IHeap.get_pushed _ rfl
    clear hH4 hE hn hd e1 e2 e17 e18
    have msl : ∀ b ∈ ms, b < h1.size := fun b hbm => IHeap.get_lt (hms b hbm).2
    refine WPR.intro2 (cs := #[.pointer (some ⟨h1.size, 0, none⟩)]) (fs := #[]) rfl E22 (by simp) rfl ?_
    intro L Lp Lt LA LB Ls Ln
    have eL : ({ state := .ready, pending := none, fn := L.fn, tmps := L.tmps, params := L.params, assign := L.assign, body := L.body, defers := L.defers } : Loop) = L := by
      rw [← Ls, ← Ln]
    refine FN.mono (all_it (q := qq) (t := t) (A := A) hlen (fun k h' => GIJ J (g.off i) h.size l h1.size H4.size A L ms k h') (fun _ => False) (fun k h' j => j.box) (fun k h' j => htis _ (hx _ _ j.j)) ?_ ?_ ?_ ?_) ?_
    · intro k h4 c hcc hz j
      have gl4 := j.gl
      have jz := j.size
      refine RN.two mixed (E := E) gl4 Lp Lt LA LB (by kernel_rfl) (by kernel_rfl) ?_
      intro rr rn rd rg
      have r2 := rg 2
      rw [E2] at r2
      rw [En] at rn
      simp (maxSteps := 1000000) (disch := first | (simp; done) | (simp only [IHeap.size_push', IHeap.size_set']; omega) | omega) [rn, rd, r2, assignQ, one_int, zeros]
      refine ⟨L, gl4, Ls, ?_⟩
      obtain ⟨h5, hh5⟩ : ∃ h5, h5 = (h4.set (H4.size + 1) (.loop { L with state := .busy })).push (.row false 0 [.int .u64 c.1, .int .u32 c.2.1]) := ⟨_, rfl⟩
      have z5 : h5.size = h4.size + 1 := by rw [hh5]; simp only [IHeap.size_push', IHeap.size_set']
      have o5 : ∀ i, i < h4.size → i ≠ H4.size + 1 → h5.get i = h4.get i := fun i hi hne => by
        rw [hh5, IHeap.get_push_ne _ (by simp only [IHeap.size_set']; omega), IHeap.get_set_ne _ (fun e => hne e.symm)]
      have l5 : h5.get (H4.size + 1) = some (.loop { L with state := .busy }) := by
        rw [hh5, IHeap.get_push_ne _ (by simp only [IHeap.size_set']; omega), IHeap.get_set_same _ (by omega)]
      have c5 : h5.get h4.size = some (.row false 0 [.int .u64 c.1, .int .u32 c.2.1]) := by
        rw [hh5, IHeap.get_pushed _ (by simp only [IHeap.size_set'])]
      have y5 := (o5 h.size (by omega) (by omega)).trans j.yl
      have j5 : J (g.off i + k) h5 := hF _ _ _ j.j (by omega) (fun i hi => o5 i (by omega) (by omega))
      rw [← hh5]
      have y4 := j.yl
      simp (maxSteps := 1000000) (disch := first | (simp; done) | (simp only [IHeap.size_push', IHeap.size_set']; omega) | omega) [rn, rd, r2, y4, y5, c5]
      refine RN.mono (hJ _ _ c (hat k c hcc) hz (by omega) j5) ?_
      rintro v h6 ⟨rfl, j6, z6, o6⟩
      have l6 := (o6 (H4.size + 1) (by omega) (by omega)).trans l5
      simp (maxSteps := 1000000) (disch := first | (simp; done) | (simp only [IHeap.size_push', IHeap.size_set']; omega) | omega) [rn, rd, bodyQ, l6]
      rw [eL]
      have k6 : ∀ i, h.size ≤ i → i < h4.size → i ≠ H4.size + 1 → (h6.set (H4.size + 1) (.loop L)).get i = h4.get i := fun i h1 h2 h3 => by
        rw [IHeap.get_set_ne _ (fun e => h3 e.symm), o6 i h1 (by omega), o5 i h2 h3]
      refine ⟨hF _ _ _ (by rw [← Nat.add_assoc]; exact j6) (by rw [IHeap.size_set']; omega) (fun i hi => by rw [IHeap.get_set_ne _ (by omega)]), by rw [IHeap.size_set']; omega, ?_, ?_, ?_, ?_, ?_⟩
      · rw [k6 _ (by omega) (by omega) (by omega)]; exact j.yl
      · rw [k6 _ (by omega) (by omega) (by omega)]; exact j.box
      · rw [k6 _ (by omega) (by omega) (by omega)]; exact j.gd
      · exact IHeap.get_set_same _ (by omega)
      · intro b hbm
        have := msl b hbm
        have := (hms b hbm).1
        rw [k6 _ (by omega) (by omega) (by omega)]; exact j.ms b hbm
    · intro k h4 c hcc hz j
      exact ⟨hN _ _ c (hat k c hcc) hz j.j, j.size, j.yl, j.box, j.gd, j.gl, j.ms⟩
    · intro k h4 h5 j fr
      have jz := j.size
      have z5 := fr.size
      have o5 : ∀ i, i < h4.size → h5.get i = h4.get i := fun i hi => by rw [fr.get i hi, getU_nil]
      refine ⟨hF _ _ _ j.j z5 (fun i hi => o5 i (by omega)), by omega, ?_, ?_, ?_, ?_, ?_⟩
      · rw [o5 _ (by omega)]; exact j.yl
      · rw [o5 _ (by omega)]; exact j.box
      · rw [o5 _ (by omega)]; exact j.gd
      · rw [o5 _ (by omega)]; exact j.gl
      · intro b hbm
        have := msl b hbm
        rw [o5 _ (by omega)]; exact j.ms b hbm
    · have k4 : ∀ i, i < h1.size → (((H4.push .defs).push (.loop L)).get i) = h1.get i := fun i hi => by
        rw [IHeap.get_push_ne _ (by simp only [IHeap.size_push']; omega), IHeap.get_push_ne _ (by omega), Go4 i hi]
      refine ⟨hF _ _ _ j1 (by simp only [IHeap.size_push']; omega) (fun i hi => k4 i (by omega)), by simp only [IHeap.size_push']; omega, ?_, ?_, ?_, ?_, ?_⟩
      · rw [k4 _ (by omega)]; exact y1
      · rw [IHeap.get_push_ne _ (by simp only [IHeap.size_push']; omega), IHeap.get_push_ne _ (by omega)]; exact G1
      · rw [IHeap.get_push_ne _ (by simp only [IHeap.size_push']; omega)]; exact IHeap.get_pushed _ rfl
      · exact IHeap.get_pushed _ (by simp only [IHeap.size_push'])
      · intro b hbm
        have := msl b hbm
        rw [k4 _ (by omega)]; exact (hms b hbm).2
    · rintro v h5 hp
      simp only [Hid.ap_mk] at hp ⊢
      rcases hp with j | hp
      · have jz := j.size
        refine ⟨L, j.gl, by rw [Ls]; simp, .normal, by rw [Ln]; rfl, ?_⟩
        simp only [Hid.ap_mk, outOf_normal]
        obtain ⟨E', hE', n', d', g'⟩ := XEnv.withd E (markOf H4.size :: E.dfr)
        rw [hE']
        have E1' := g' 1
        have E2' := g' 2
        have E17' := g' 17
        have E18' := g' 18
        rw [E1] at E1'; rw [E2] at E2'; rw [E17] at E17'; rw [E18] at E18'; rw [En] at n'; rw [Ed] at d'
        obtain ⟨h6, hh6⟩ : ∃ h6, h6 = h5.set (H4.size + 1) (.loop { L with state := .exhausted }) := ⟨_, rfl⟩
        rw [← hh6]
        have z6 : h6.size = h5.size := by rw [hh6]; simp only [IHeap.size_set']
        have o6 : ∀ i, i ≠ H4.size + 1 → h6.get i = h5.get i := fun i hi => by
          rw [hh6]; exact IHeap.get_set_ne _ (fun e => hi e.symm)
        simp (maxSteps := 1000000) (disch := first | (simp; done) | (simp only [IHeap.size_push', IHeap.size_set']; omega) | omega) [E1', E2', E17', E18', n', d', wrap64]
        have hnm : H4.size ∉ ms := fun hm => by have := msl _ hm; omega
        refine ⟨k, by omega, i + 1, by omega, H4.size :: ms, by simp [hml], List.nodup_cons.2 ⟨hnm, hnd⟩, rfl, fun b hbm => ?_, by omega, by omega, ?_, ?_⟩
        · rcases List.mem_cons.1 hbm with rfl | hbm
          · exact ⟨by omega, by rw [o6 _ (by omega)]; exact j.gd⟩
          · have := msl b hbm
            exact ⟨(hms b hbm).1, by rw [o6 _ (by omega)]; exact j.ms b hbm⟩
        · rw [hoff]
          exact hF _ _ _ j.j (by omega) (fun i hi => o6 i (by omega))
        · rw [o6 _ (by omega)]; exact j.yl
      · exact hp.elim
end Go.Proofs.Ytmobpbhbllhdcaa.Ideal
