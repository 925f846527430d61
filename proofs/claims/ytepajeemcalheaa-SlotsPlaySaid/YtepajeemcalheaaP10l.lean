import Derived.Test.YtepajeemcalheaaP10k
noncomputable section
open Go.Proofs
namespace Go.Proofs.Ytepajeemcalheaa.Ideal
open Go.RowKit
set_option linter.unusedSimpArgs false
set_option linter.unusedVariables false
set_option linter.unusedSectionVars false
set_option maxRecDepth 100000
set_option maxHeartbeats 4000000
attribute [-simp] IHeap.size_set IHeap.size_push
attribute [local simp ↓] Hid.ap_mk
attribute [local simp] scopeQ_normal scopeQ_ret scopeQ_exit WP_skip WP_label WP_exit WP_goto WP_ret WP_region WP_seq WP_cond WP_block WP_scope WP_loop WP_range thenQ_normal thenQ_ret thenQ_exit thenQ_goto loopQ_normal loopQ_ret loopQ_exit invQ_normal invQ_ret invQ_exit outOf_normal outOf_ret outOf_goto outOf_exit ev_tmp ev_const ev_func
  wops_nil wops_cons wantedE_none wantedE_some jgd_some wnx_eq niC_false wdo_move wdo_assign wdo_pick wdo_load wdo_store wdo_alloc wdo_box wdo_fieldAddr wdo_indexAddr wdo_field wdo_extract wdo_build wdo_buildSlice wdo_makeSlice wdo_binOp wdo_unOp wdo_makeFunc wdo_nilCheck wdo_callV wdo_len wdo_append wdo_copy wdo_delete wdo_max wdo_min wdo_convert jcvt_int
  xput_get put_n put_none put_dfr ibin finQ_n finQ_r finD_nil splice_one ires_nil ires_one ires_two ires_three ires1_tmp ires1_cell jcell_ptr rowLoad_row wrap64 wrapU64 wrapU8 wrapU16 wrapU32 callV_fn buildOf Instr.fill Value.cells Value.oneCell' kindOf slots_all splice_all IHeap.size_set' IHeap.size_push' IHeap.get_set_same IHeap.get_set_ne IHeap.get_pushed IHeap.get_push_ne IHeap.set_set IHeap.set_push IHeap.set_pushed IHeap.set_set3 getU_nil getU_same getU_ne jif_true jif_false pushH_eq setH_eq forceL_eq forceV_eq ibuildSlice
attribute [local simp] wdo_index jopt_some fb_known wdo_cut29
attribute [-simp] Value.oneCell'
attribute [local simp] one_int' one_bool' one_ptr' one_slc'
theorem nodup_le : ∀ {n : Nat} {l : List Nat}, l.Nodup → (∀ x ∈ l, x < n) → l.length ≤ n
  | 0, l, h, hb => by
    cases l with
    | nil => simp
    | cons a l => have := hb a (by simp); omega
  | n + 1, l, h, hb => by
    have := nodup_le (n := n) (l := l.erase n) (h.erase n) (fun x hx => by
      have h1 := h.mem_erase_iff.1 hx
      have := hb x h1.2
      have := h1.1
      omega)
    rw [List.length_erase] at this
    split at this <;> omega
variable {h : IHeap} {w u q n m : Nat} {L : Nat → List Nat} {cs : Nat → Value} {s k : Nat} {b f : Nat → Nat} {t : Nat → Int}
theorem SRep.len (r : SRep n m L b f t) (hn : n ≤ 60) : ∀ l, l < m → (L l).length ≤ 1000 := fun l hl => by
  have := nodup_le (r.nd l hl) (fun x hx => (r.mem l hl x hx).1)
  omega
theorem SRep.un (r : SRep n m L b f t) {l c : Nat} (hl : l < m) (hc : c ∈ L l) : ∀ l', l' < m → c ∈ L l' → l' = l := fun l' hl' hc' => by
  have h1 := r.mem l hl c hc
  have h2 := r.mem l' hl' c hc'
  omega
/-- The program's and the document's, of one content. -/
structure Bo (h : IHeap) (s k q w n m : Nat) (L : Nat → List Nat) : Prop where
  sx : Sx h s k q n m L
  rx : ∃ u cs, RIs h w u q n m L cs
theorem Bo.ne {L L' : Nat → List Nat} (x : SIs h s k q n m L b f t) (y : RIs h w u q n m L' cs) : w ≠ s ∧ w ≠ k ∧ w ≠ q ∧ u ≠ k ∧ u ≠ q := by
  have gs := x.gs
  have gk := x.gk
  have gq := x.gq
  have gw := y.gw
  have gu := y.gu
  refine ⟨?_, ?_, ?_, ?_, ?_⟩ <;> rintro rfl
  · rw [gs] at gw; simp at gw
  · rw [gk] at gw; cases gw
  · rw [gq] at gw; cases gw
  · rw [gk] at gu; cases gu
  · rw [gq] at gu
    obtain ⟨A, hA, _⟩ := y.at' 0 y.m1
    have h0 : (manyR m L)[0]? = some (cs 0) := by
      have : manyR m L = (List.range m).map cs := by injection gu with e; injection e
      rw [this, y.get y.m1]
    rw [manyR_get y.m1, hA] at h0
    cases h0
/-- What the program changes leaves the document's. -/
theorem RIs.prog {L L' : Nat → List Nat} {h' : IHeap} (x : SIs h s k q n m L' b f t) (y : RIs h w u q n m L cs) (o : ∀ i, i < h.size → i ≠ k → i ≠ q → h'.get i = h.get i) : RIs h' w u q n m L cs := by
  obtain ⟨h1, h2, h3, h4, h5⟩ := Bo.ne x y
  exact ⟨by rw [o w (IHeap.get_lt y.gw) h2 h3]; exact y.gw, by rw [o u (IHeap.get_lt y.gu) h4 h5]; exact y.gu, fun l hl => (y.at' l hl).to fun i hi hq hg => o i hi (by rintro rfl; rw [x.gk] at hg; cases hg) hq, y.mz, y.nz, y.m1⟩
/-- What the document changes leaves the program's. -/
theorem SIs.ref {L L' : Nat → List Nat} {h' : IHeap} (x : SIs h s k q n m L b f t) (y : RIs h w u q n m L' cs) (o : ∀ i, i < h.size → i ≠ w → h'.get i = h.get i) : SIs h' s k q n m L b f t := by
  obtain ⟨h1, h2, h3, h4, h5⟩ := Bo.ne x y
  exact ⟨by rw [o s (IHeap.get_lt x.gs) (Ne.symm h1)]; exact x.gs, by rw [o k (IHeap.get_lt x.gk) (Ne.symm h2)]; exact x.gk, by rw [o q (IHeap.get_lt x.gq) (Ne.symm h3)]; exact x.gq, x.rep, x.n1, x.m1, x.nz, x.mz⟩
theorem RIs.to (y : RIs h w u q n m L cs) {h' : IHeap} (o : ∀ i, i < h.size → h'.get i = h.get i) : RIs h' w u q n m L cs :=
  ⟨by rw [o w (IHeap.get_lt y.gw)]; exact y.gw, by rw [o u (IHeap.get_lt y.gu)]; exact y.gu, fun l hl => (y.at' l hl).to fun i hi _ _ => o i hi, y.mz, y.nz, y.m1⟩
theorem Bo.to (x : Bo h s k q w n m L) {h' : IHeap} (o : ∀ i, i < h.size → h'.get i = h.get i) : Bo h' s k q w n m L := by
  obtain ⟨⟨b, f, t, x1⟩, u, cs, y⟩ := x
  exact ⟨⟨b, f, t, x1.to o⟩, u, cs, y.to o⟩
theorem putL_put (L : Nat → List Nat) (l : Nat) (a c : List Nat) : putL (putL L l a) l c = putL L l c := by
  funext y
  unfold putL
  split <;> simp_all
theorem putL_at (L : Nat → List Nat) (l : Nat) (a : List Nat) : putL L l a l = a := by simp [putL]
theorem Bo.set_odd (x : Bo h s k q w n m L) {i : Nat} {o : IObj} (g : ∀ e c, h.get i = some (.row false e c) → e = 0 ∧ c.length = 1) : Bo (h.set i o) s k q w n m L := by
  obtain ⟨⟨b', f', t', x'⟩, u', cs', y'⟩ := x
  have ne : ∀ (a e : Nat) (c : List Value), h.get a = some (.row false e c) → (e ≠ 0 ∨ c.length ≠ 1) → i ≠ a := fun a e c h1 h2 e' => by
    have := g e c (by rw [e']; exact h1)
    omega
  refine ⟨⟨b', f', t', ?_, ?_, ?_, x'.rep, x'.n1, x'.m1, x'.nz, x'.mz⟩, u', cs', ?_, ?_, fun l' hl' => (y'.at' l' hl').to fun a ha _ hg => ?_, y'.mz, y'.nz, y'.m1⟩
  · rw [IHeap.get_set_ne _ (ne _ _ _ x'.gs (by simp))]; exact x'.gs
  · rw [IHeap.get_set_ne _ (ne _ _ _ x'.gk (by simp))]; exact x'.gk
  · rw [IHeap.get_set_ne _ (ne _ _ _ x'.gq (by simp))]; exact x'.gq
  · rw [IHeap.get_set_ne _ (ne _ _ _ y'.gw (by simp))]; exact y'.gw
  · rw [IHeap.get_set_ne _ (ne _ _ _ y'.gu (by simp))]; exact y'.gu
  · rw [IHeap.get_set_ne _ (ne _ _ _ hg (by simp))]
theorem Bo.set_loop (x : Bo h s k q w n m L) {i : Nat} {P : Loop} {o : IObj} (g : h.get i = some (.loop P)) : Bo (h.set i o) s k q w n m L :=
  x.set_odd fun e c h => by rw [g] at h; cases h
/-- Where a list is emptied. -/
structure EmJ (h0 : IHeap) (s k q w n m : Nat) (l : Int) (L : Nat → List Nat) (P : Loop) (h : IHeap) : Prop where
  size : h0.size + 9 ≤ h.size
  old : ∀ a, a < h0.size → a ≠ k → a ≠ q → a ≠ w → h.get a = h0.get a
  g0 : h.get h0.size = some (.row false 0 [.pointer (some ⟨s, 0, none⟩)])
  g1 : h.get (h0.size + 1) = some (.row false 0 [.pointer (some ⟨w, 0, none⟩)])
  g2 : h.get (h0.size + 2) = some (.row false 0 [.bool false])
  g5 : h.get (h0.size + 5) = some (.row false 0 [.pointer (some ⟨s, 0, none⟩)])
  g6 : h.get (h0.size + 6) = some (.row false 0 [.int .i64 l])
  gd : h.get (h0.size + 7) = some .defs
  gl : h.get (h0.size + 8) = some (.loop P)
  bo : Bo h s k q w n m L
def emL (L : Nat → List Nat) (m : Nat) (l : Int) : Nat → List Nat := if 0 ≤ l ∧ l < m then putL L l.toNat [] else L
theorem emptied_c (x : Bo h s k q w n m L) (hn60 : n ≤ 60) (l : Int) :
    FN Try.prog 17 #[.pointer (some ⟨s, 0, none⟩), .pointer (some ⟨w, 0, none⟩), .int .i64 l] h (Q := ⟨fun v h' => v = .bool true ∧ Bo h' s k q w n m (emL L m l) ∧ h.size ≤ h'.size ∧ ∀ i, i < h.size → i ≠ k → i ≠ q → i ≠ w → h'.get i = h.get i⟩) := by
  refine FN.enter mixed (fn := Try.f17) (by kernel_rfl) rfl (by kernel_rfl) fun e hn hg hd => ?_
  simp [Try.f17] at hn
  have a0 : e.get 0 = .pointer (some ⟨s, 0, none⟩) := hg 0 (by omega)
  have a1 : e.get 1 = .pointer (some ⟨w, 0, none⟩) := hg 1 (by omega)
  have a2 : e.get 2 = .int .i64 l := hg 2 (by omega)
  clear hg
  obtain ⟨⟨b0, f0, t0, x0⟩, u0, cs0, y0⟩ := id x
  have sz := IHeap.get_lt x0.gs
  have kz := IHeap.get_lt x0.gk
  have qz := IHeap.get_lt x0.gq
  have wz := IHeap.get_lt y0.gw
  simp (maxSteps := 1000000) (disch := first | (simp; done) | (simp only [IHeap.size_push', IHeap.size_set']; omega) | omega) [a0, a1, a2, hn, hd]
  refine FN.of (of_c s l) ?_
  simp (maxSteps := 1000000) (disch := first | (simp; done) | (simp only [IHeap.size_push', IHeap.size_set']; omega) | omega) [a0, a1, a2, hn, hd]
  refine FN.of (of_c s l) ?_
  simp (maxSteps := 1000000) (disch := first | (simp; done) | (simp only [IHeap.size_push', IHeap.size_set']; omega) | omega) [a0, a1, a2, hn, hd]
  refine WPR.gen fun E H hE hH => ?_
  have E2 : E.get 2 = .int .i64 l := by rw [hE]; simp (maxSteps := 1000000) (disch := first | (simp; done) | (simp only [IHeap.size_push', IHeap.size_set']; omega) | omega) [hn, a2]
  have E3 : E.get 3 = .pointer (some ⟨h.size, 0, none⟩) := by rw [hE]; simp (maxSteps := 1000000) (disch := first | (simp; done) | (simp only [IHeap.size_push', IHeap.size_set']; omega) | omega) [hn]
  have E4 : E.get 4 = .pointer (some ⟨h.size + 1, 0, none⟩) := by rw [hE]; simp (maxSteps := 1000000) (disch := first | (simp; done) | (simp only [IHeap.size_push', IHeap.size_set']; omega) | omega) [hn]
  have E6 : E.get 6 = .pointer (some ⟨h.size + 2, 0, none⟩) := by rw [hE]; simp (maxSteps := 1000000) (disch := first | (simp; done) | (simp only [IHeap.size_push', IHeap.size_set']; omega) | omega) [hn]
  have E14 : E.get 14 = .func (.func 27) #[] #[.pointer (some ⟨h.size + 5, 0, none⟩), .pointer (some ⟨h.size + 6, 0, none⟩)] := by rw [hE]; simp (maxSteps := 1000000) (disch := first | (simp; done) | (simp only [IHeap.size_push', IHeap.size_set']; omega) | omega) [hn]
  have En : E.n = 31 := by rw [hE]; simp (maxSteps := 1000000) (disch := first | (simp; done) | (simp only [IHeap.size_push', IHeap.size_set']; omega) | omega) [hn]
  have Ed : E.dfr = [] := by rw [hE]; simp (maxSteps := 1000000) (disch := first | (simp; done) | (simp only [IHeap.size_push', IHeap.size_set']; omega) | omega) [hd]
  have Hz : H.size = h.size + 7 := by rw [hH]; simp (maxSteps := 1000000) (disch := first | (simp; done) | (simp only [IHeap.size_push', IHeap.size_set']; omega) | omega) []
  have Ho : ∀ i, i < h.size → H.get i = h.get i := fun i hi => by rw [hH]; simp (maxSteps := 1000000) (disch := first | (simp; done) | (simp only [IHeap.size_push', IHeap.size_set']; omega) | omega) []
  have H0 : H.get h.size = some (.row false 0 [.pointer (some ⟨s, 0, none⟩)]) := by rw [hH]; simp (maxSteps := 1000000) (disch := first | (simp; done) | (simp only [IHeap.size_push', IHeap.size_set']; omega) | omega) []
  have H1 : H.get (h.size + 1) = some (.row false 0 [.pointer (some ⟨w, 0, none⟩)]) := by rw [hH]; simp (maxSteps := 1000000) (disch := first | (simp; done) | (simp only [IHeap.size_push', IHeap.size_set']; omega) | omega) []
  have H2 : H.get (h.size + 2) = some (.row false 0 [.bool false]) := by rw [hH]; simp (maxSteps := 1000000) (disch := first | (simp; done) | (simp only [IHeap.size_push', IHeap.size_set']; omega) | omega) []
  have H5 : H.get (h.size + 5) = some (.row false 0 [.pointer (some ⟨s, 0, none⟩)]) := by rw [hH]; simp (maxSteps := 1000000) (disch := first | (simp; done) | (simp only [IHeap.size_push', IHeap.size_set']; omega) | omega) []
  have H6 : H.get (h.size + 6) = some (.row false 0 [.int .i64 l]) := by rw [hH]; simp (maxSteps := 1000000) (disch := first | (simp; done) | (simp only [IHeap.size_push', IHeap.size_set']; omega) | omega) []
  clear hH hE hn hd a0 a1 a2
  refine WPR.intro2 (cs := #[.pointer (some ⟨h.size + 5, 0, none⟩), .pointer (some ⟨h.size + 6, 0, none⟩)]) (fs := #[]) rfl E14 (by simp) rfl ?_
  intro P Lp Lt LA LB Ls Ln
  have ho0 : ∀ i, i < h.size → ((H.push .defs).push (.loop P)).get i = h.get i := fun i hi => by
    have := Ho i hi
    simp (maxSteps := 1000000) (disch := first | (simp; done) | (simp only [IHeap.size_push', IHeap.size_set']; omega) | omega) [this]
  have x1 := x0.to ho0
  have j0 : EmJ h s k q w n m l L P ((H.push .defs).push (.loop P)) := by
    refine ⟨by simp only [IHeap.size_push']; omega, fun i hi _ _ _ => ho0 i hi, ?_, ?_, ?_, ?_, ?_, ?_, ?_, x.to ho0⟩
    · simp (maxSteps := 1000000) (disch := first | (simp; done) | (simp only [IHeap.size_push', IHeap.size_set']; omega) | omega) [H0]
    · simp (maxSteps := 1000000) (disch := first | (simp; done) | (simp only [IHeap.size_push', IHeap.size_set']; omega) | omega) [H1]
    · simp (maxSteps := 1000000) (disch := first | (simp; done) | (simp only [IHeap.size_push', IHeap.size_set']; omega) | omega) [H2]
    · simp (maxSteps := 1000000) (disch := first | (simp; done) | (simp only [IHeap.size_push', IHeap.size_set']; omega) | omega) [H5]
    · simp (maxSteps := 1000000) (disch := first | (simp; done) | (simp only [IHeap.size_push', IHeap.size_set']; omega) | omega) [H6]
    · simp (maxSteps := 1000000) (disch := first | (simp; done) | (simp only [IHeap.size_push', IHeap.size_set']; omega) | omega) [Hz]
    · simp (maxSteps := 1000000) (disch := first | (simp; done) | (simp only [IHeap.size_push', IHeap.size_set']; omega) | omega) [Hz]
  have key : FN Try.prog 27 #[.func (.yield (H.size + 1)) #[] #[], .pointer (some ⟨h.size + 5, 0, none⟩), .pointer (some ⟨h.size + 6, 0, none⟩)] ((H.push .defs).push (.loop P)) (Q := ⟨fun _ h' => EmJ h s k q w n m l (emL L m l) P h'⟩) := by
    by_cases hb : 0 ≤ l ∧ l < m
    · obtain ⟨y, rfl⟩ : ∃ y : Nat, l = y := ⟨l.toNat, by omega⟩
      have hy : y < m := by omega
      have e0 : emL L m y = putL L y ((L y).drop (L y).length) := by
        rw [List.drop_length]
        unfold emL
        rw [if_pos hb]
        rfl
      rw [e0]
      refine FN.mono (iter_c (z := L y) (l := y) hy (fun i h' => EmJ h s k q w n m y (putL L y ((L y).drop i)) P h') (fun _ => False) ?_ ?_ (by rw [List.drop_zero, putL_same]; exact j0) x1 rfl) (fun v h' hx => hx.resolve_right id)
      · rintro i h1 j
        obtain ⟨b', f', t', x'⟩ := j.bo.sx
        exact ⟨j.g5, j.g6, _, b', f', t', [], x', by rw [putL_at]; rfl⟩
      · rintro i h1 hi j
        obtain ⟨c, hc⟩ : ∃ c, (L y)[i] = c := ⟨_, rfl⟩
        have hdr : (L y).drop i = c :: (L y).drop (i + 1) := by rw [List.drop_eq_getElem_cons hi, hc]
        rw [hc]
        have gl := j.gl
        refine RN.one mixed (E := E) (by rw [Hz]; exact gl) Lp Lt LA LB (by kernel_rfl) (by kernel_rfl) ?_
        intro r' rn rd rg
        have r3 := rg 3
        have r4 := rg 4
        have r6 := rg 6
        rw [E3] at r3; rw [E4] at r4; rw [E6] at r6
        rw [En] at rn
        have g0 := j.g0
        have g1 := j.g1
        have jz := j.size
        simp (maxSteps := 1000000) (disch := first | (simp; done) | (simp only [IHeap.size_push', IHeap.size_set']; omega) | omega) [rn, rd, r3, r4, r6, assignQ]
        refine ⟨P, by rw [Hz]; exact gl, Ls, ?_⟩
        have eL : ({ state := .ready, pending := none, fn := P.fn, tmps := P.tmps, params := P.params, assign := P.assign, body := P.body, defers := P.defers } : Loop) = P := by
          rw [← Ls, ← Ln]
        simp (maxSteps := 1000000) (disch := first | (simp; done) | (simp only [IHeap.size_push', IHeap.size_set']; omega) | omega) [rn, rd, r3, r4, r6, Hz, g0]
        have lz := IHeap.get_lt gl
        have st : Bo (h1.set (h.size + 7 + 1) (.loop { P with state := .busy })) s k q w n m (putL L y ((L y).drop i)) := by
          exact j.bo.set_loop gl
        have gq2 : ∀ a, a ≠ h.size + 7 + 1 → (h1.set (h.size + 7 + 1) (.loop { P with state := .busy })).get a = h1.get a := fun a ha => IHeap.get_set_ne _ (Ne.symm ha)
        have gl2 : (h1.set (h.size + 7 + 1) (.loop { P with state := .busy })).get (h.size + 7 + 1) = some (.loop { P with state := .busy }) := IHeap.get_set_same _ lz
        have sz2 : (h1.set (h.size + 7 + 1) (.loop { P with state := .busy })).size = h1.size := IHeap.size_set _ _ _
        generalize h1.set (h.size + 7 + 1) (.loop { P with state := .busy }) = h2 at st gq2 gl2 sz2
        obtain ⟨⟨b2, f2, t2, x2⟩, u2, cs2, y2⟩ := st
        have hcm : c ∈ (putL L y ((L y).drop i)) y := by rw [putL_at, hdr]; simp
        have hcn := (x2.rep.mem y hy c hcm).1
        have hlen := x2.rep.len hn60
        have hnd := x2.rep.nd y hy
        have er : ((putL L y ((L y).drop i)) y).erase c = (L y).drop (i + 1) := by rw [putL_at, hdr]; simp
        refine FN.mono (remove_ok x2 y c hy hcm (by have := hlen y hy; omega)) ?_
        rintro _ h3 ⟨rfl, ⟨b3, f3, t3, x3⟩, z3, o3⟩
        rw [er, putL_put] at x3
        have y3 := RIs.prog x2 y2 o3
        have q1 : h3.get (h.size + 1) = some (.row false 0 [.pointer (some ⟨w, 0, none⟩)]) := by rw [o3 _ (by omega) (by omega) (by omega), gq2 _ (by omega)]; exact g1
        simp (maxSteps := 1000000) (disch := first | (simp; done) | (simp only [IHeap.size_push', IHeap.size_set']; omega) | omega) [rn, rd, r3, r4, r6, Hz, q1, undef]
        refine FN.mono (rremove_c y3 (IHeap.get_lt x3.gq) hlen y c hy hcn hcm (x2.rep.un hy hcm) hnd) ?_
        rintro _ h4 ⟨rfl, ⟨u4, cs4, y4⟩, z4, o4⟩
        rw [er, putL_put] at y4
        have x4 := SIs.ref x3 y3 o4
        have lp : h4.get (h.size + 7 + 1) = some (.loop { P with state := .busy }) := by rw [o4 _ (by omega) (by omega), o3 _ (by omega) (by omega) (by omega)]; exact gl2
        have lpz := IHeap.get_lt lp
        simp (maxSteps := 1000000) (disch := first | (simp; done) | (simp only [IHeap.size_push', IHeap.size_set']; omega) | omega) [rn, rd, r3, r4, r6, Hz, lp, undef, bodyQ]
        rw [eL]
        have k4 : ∀ a, a < h1.size → a ≠ k → a ≠ q → a ≠ w → a ≠ h.size + 8 → (h4.set (h.size + 7 + 1) (.loop P)).get a = h1.get a := fun a ha e1 e2 e3 e4 => by
          rw [IHeap.get_set_ne _ (by omega), o4 a (by omega) e3, o3 a (by omega) e1 e2, gq2 a (by omega)]
        refine ⟨by rw [IHeap.size_set]; omega, fun a ha e1 e2 e3 => by rw [k4 a (by omega) e1 e2 e3 (by omega)]; exact j.old a ha e1 e2 e3, ?_, ?_, ?_, ?_, ?_, ?_, ?_, ?_⟩
        · rw [k4 _ (by omega) (by omega) (by omega) (by omega) (by omega)]; exact j.g0
        · rw [k4 _ (by omega) (by omega) (by omega) (by omega) (by omega)]; exact j.g1
        · rw [k4 _ (by omega) (by omega) (by omega) (by omega) (by omega)]; exact j.g2
        · rw [k4 _ (by omega) (by omega) (by omega) (by omega) (by omega)]; exact j.g5
        · rw [k4 _ (by omega) (by omega) (by omega) (by omega) (by omega)]; exact j.g6
        · rw [k4 _ (by omega) (by omega) (by omega) (by omega) (by omega)]; exact j.gd
        · exact IHeap.get_set_same _ lpz
        · exact Bo.set_loop ⟨⟨b3, f3, t3, x4⟩, u4, cs4, y4⟩ lp
    · have e0 : emL L m l = L := by
        unfold emL
        rw [if_neg hb]
      rw [e0]
      exact FN.of (iter_bad x1 hb (by simp (maxSteps := 1000000) (disch := first | (simp; done) | (simp only [IHeap.size_push', IHeap.size_set']; omega) | omega) [H5]) (by simp (maxSteps := 1000000) (disch := first | (simp; done) | (simp only [IHeap.size_push', IHeap.size_set']; omega) | omega) [H6])) j0
  refine FN.mono key ?_
  rintro v h3 j
  simp only [Hid.ap_mk] at j ⊢
  have jz := j.size
  have gl := j.gl
  have go' : ∀ a, a ≠ h.size + 8 → (h3.set (H.size + 1) (.loop { P with state := .exhausted })).get a = h3.get a := fun a ha => by rw [IHeap.get_set_ne _ (by omega)]
  have bo4 : Bo (h3.set (H.size + 1) (.loop { P with state := .exhausted })) s k q w n m (emL L m l) := j.bo.set_loop (by rw [Hz]; exact gl)
  obtain ⟨E', hE', n', d', g'⟩ := XEnv.withd E (markOf H.size :: E.dfr)
  have E2' := g' 2
  have E3' := g' 3
  have E4' := g' 4
  have E6' := g' 6
  rw [E2] at E2'; rw [E3] at E3'; rw [E4] at E4'; rw [E6] at E6'; rw [En] at n'; rw [Ed] at d'
  rw [Hz] at d' go' bo4
  refine ⟨P, by rw [Hz]; exact gl, by rw [Ls]; simp, .normal, by rw [Ln]; rfl, ?_⟩
  simp only [Hid.ap_mk]
  rw [hE', Hz]
  generalize hhh : h3.set (h.size + 7 + 1) (.loop { P with state := .exhausted }) = h4 at go' bo4
  have hz4 : h4.size = h3.size := by rw [← hhh]; simp only [IHeap.size_set']
  have q0 : h4.get (h.size + 1) = some (.row false 0 [.pointer (some ⟨w, 0, none⟩)]) := by rw [go' _ (by omega)]; exact j.g1
  have q2 : h4.get (h.size + 2) = some (.row false 0 [.bool false]) := by rw [go' _ (by omega)]; exact j.g2
  have qd : (h4.set (h.size + 2) (.row false 0 [.bool true])).get (h.size + 7) = some .defs := by rw [IHeap.get_set_ne _ (by omega), go' _ (by omega)]; exact j.gd
  obtain ⟨sx4, u4, cs4, y4⟩ := id bo4
  have v0 : ∃ A, ICall Try.prog 30 #[.pointer (some ⟨w, 0, none⟩), .int .i64 l] h4 (.slice A 0 0) h4 := by
    by_cases hb : 0 ≤ l ∧ l < m
    · obtain ⟨y, rfl⟩ : ∃ y : Nat, l = y := ⟨l.toNat, by omega⟩
      have hy : y < m := by omega
      obtain ⟨A, hA, _⟩ := y4.at' y hy
      have e0 : emL L m y y = [] := by
        unfold emL
        rw [if_pos hb]
        simp [putL]
      rw [e0] at hA
      refine ⟨A, ?_⟩
      have := rof_c y4 y hy
      rw [hA] at this
      exact this
    · exact ⟨none, rof_bad y4 l hb⟩
  obtain ⟨A, v0⟩ := v0
  simp (maxSteps := 1000000) (disch := first | (simp; done) | (simp only [IHeap.size_push', IHeap.size_set']; omega) | omega) [outOf_normal, E2', E3', E4', E6', n', d', q0, q2]
  refine FN.of v0 ?_
  simp (maxSteps := 1000000) (disch := first | (simp; done) | (simp only [IHeap.size_push', IHeap.size_set']; omega) | omega) [outOf_normal, E2', E3', E4', E6', n', d', q0, q2, finD_one qd]
  have dd : (h4.set (h.size + 2) (.row false 0 [.bool true])).get (h.size + 7) = some .defs := qd
  refine ⟨(bo4.set_odd (fun e c h => ?_)).set_odd (fun e c h => ?_), by omega, fun i hi e1 e2 e3 => ?_⟩
  · rw [q2] at h; cases h; exact ⟨rfl, rfl⟩
  · rw [dd] at h; cases h
  · rw [IHeap.get_set_ne _ (by omega), IHeap.get_set_ne _ (by omega), go' _ (by omega)]; exact j.old i hi e1 e2 e3
end Go.Proofs.Ytepajeemcalheaa.Ideal
