import Derived.Test.YtepajeemcalheaaP10j
noncomputable section
open Go.Proofs
namespace Go.Proofs.Ytepajeemcalheaa.Ideal
open Go.RowKit
set_option linter.unusedSimpArgs false
set_option linter.unusedVariables false
set_option linter.unusedSectionVars false
set_option maxRecDepth 100000
set_option maxHeartbeats 4000000
attribute [-simp] IHeap.size_set IHeap.size_push
attribute [local simp ↓] Hid.ap_mk
attribute [local simp] scopeQ_normal scopeQ_ret scopeQ_exit WP_skip WP_label WP_exit WP_goto WP_ret WP_region WP_seq WP_cond WP_block WP_scope WP_loop WP_range thenQ_normal thenQ_ret thenQ_exit thenQ_goto loopQ_normal loopQ_ret loopQ_exit invQ_normal invQ_ret invQ_exit outOf_normal outOf_ret outOf_goto outOf_exit ev_tmp ev_const ev_func
  wops_nil wops_cons wantedE_none wantedE_some jgd_some wnx_eq niC_false wdo_move wdo_assign wdo_pick wdo_load wdo_store wdo_alloc wdo_box wdo_fieldAddr wdo_indexAddr wdo_field wdo_extract wdo_build wdo_buildSlice wdo_makeSlice wdo_binOp wdo_unOp wdo_makeFunc wdo_nilCheck wdo_callV wdo_len wdo_append wdo_copy wdo_delete wdo_max wdo_min wdo_convert jcvt_int
  xput_get put_n put_none put_dfr ibin finQ_n finQ_r finD_nil splice_one ires_nil ires_one ires_two ires_three ires1_tmp ires1_cell jcell_ptr rowLoad_row wrap64 wrapU64 wrapU8 wrapU16 wrapU32 callV_fn buildOf Instr.fill Value.cells Value.oneCell' kindOf slots_all splice_all IHeap.size_set' IHeap.size_push' IHeap.get_set_same IHeap.get_set_ne IHeap.get_pushed IHeap.get_push_ne IHeap.set_set IHeap.set_push IHeap.set_pushed IHeap.set_set3 getU_nil getU_same getU_ne jif_true jif_false pushH_eq setH_eq forceL_eq forceV_eq ibuildSlice
attribute [local simp] wdo_index jopt_some fb_known wdo_cut29
attribute [-simp] Value.oneCell'
attribute [local simp] one_int' one_bool' one_ptr' one_slc'
variable {h : IHeap} {w u q n m : Nat} {L : Nat → List Nat} {cs : Nat → Value} {s k : Nat} {b f : Nat → Nat} {t : Nat → Int}
/-- Where a list is told. -/
structure TeJ (h0 : IHeap) (s : Nat) (l : Int) (W : Value) (P : Loop) (i : Nat) (h : IHeap) : Prop where
  size : h0.size + 9 ≤ h.size
  old : ∀ a, a < h0.size → h.get a = h0.get a
  g0 : h.get h0.size = some (.row false 0 [W])
  g1 : h.get (h0.size + 1) = some (.row false 0 [.bool false])
  g4 : h.get (h0.size + 4) = some (.row false 0 [.int .i64 i])
  g5 : h.get (h0.size + 5) = some (.row false 0 [.pointer (some ⟨s, 0, none⟩)])
  g6 : h.get (h0.size + 6) = some (.row false 0 [.int .i64 l])
  gd : h.get (h0.size + 7) = some .defs
  gl : h.get (h0.size + 8) = some (.loop P)
theorem tells_c (x : SIs h s k q n m L b f t) (l : Int) {v : Value} {p : List Nat} (hv : SlAt h q v p) (hlen : p.length ≤ 1000) (hor : (∃ y : Nat, l = y ∧ y < m ∧ L y = p) ∨ (¬ (0 ≤ l ∧ l < m) ∧ p = [])) :
    FN Try.prog 22 #[.pointer (some ⟨s, 0, none⟩), .int .i64 l, v] h (Q := ⟨fun v h' => v = .bool true ∧ h.size ≤ h'.size ∧ ∀ i, i < h.size → h'.get i = h.get i⟩) := by
  refine FN.enter mixed (fn := Try.f22) (by kernel_rfl) rfl (by kernel_rfl) fun e hn hg hd => ?_
  simp [Try.f22] at hn
  have a0 : e.get 0 = .pointer (some ⟨s, 0, none⟩) := hg 0 (by omega)
  have a1 : e.get 1 = .int .i64 l := hg 1 (by omega)
  have a2 : e.get 2 = v := hg 2 (by omega)
  clear hg
  have one := hv.one
  obtain ⟨A, rfl, hr⟩ := hv
  have hl0 : ICall Try.prog 12 #[.pointer (some ⟨s, 0, none⟩), .int .i64 l] ((((h.push (.row false 0 [.slice A p.length p.length])).push (.row false 0 [.bool false])).push (.row false 0 [.pointer (some ⟨s, 0, none⟩)])).push (.row false 0 [.int .i64 l])) (.int .i64 p.length) ((((h.push (.row false 0 [.slice A p.length p.length])).push (.row false 0 [.bool false])).push (.row false 0 [.pointer (some ⟨s, 0, none⟩)])).push (.row false 0 [.int .i64 l])) := by
    have x1 : SIs ((((h.push (.row false 0 [.slice A p.length p.length])).push (.row false 0 [.bool false])).push (.row false 0 [.pointer (some ⟨s, 0, none⟩)])).push (.row false 0 [.int .i64 l])) s k q n m L b f t := x.to fun i hi => by simp (maxSteps := 1000000) (disch := first | (simp; done) | (simp only [IHeap.size_push', IHeap.size_set']; omega) | omega) []
    rcases hor with ⟨y, rfl, hy, rfl⟩ | ⟨hb, rfl⟩
    · exact len_c x1 y hy
    · exact len_bad x1 l hb
  simp (maxSteps := 1000000) (disch := first | (simp; done) | (simp only [IHeap.size_push', IHeap.size_set']; omega) | omega) [a0, a1, a2, hn, hd]
  refine FN.of (of_c s l) ?_
  simp (maxSteps := 1000000) (disch := first | (simp; done) | (simp only [IHeap.size_push', IHeap.size_set']; omega) | omega) [a0, a1, a2, hn, hd, undef]
  refine FN.of hl0 ?_
  have k1 : ((((h.push (.row false 0 [.slice A p.length p.length])).push (.row false 0 [.bool false])).push (.row false 0 [.pointer (some ⟨s, 0, none⟩)])).push (.row false 0 [.int .i64 l])).get h.size = ((((h.push (.row false 0 [.slice A p.length p.length])).push (.row false 0 [.bool false])).push (.row false 0 [.pointer (some ⟨s, 0, none⟩)])).push (.row false 0 [.int .i64 l])).get h.size := rfl
  simp (maxSteps := 1000000) (disch := first | (simp; done) | (simp only [IHeap.size_push', IHeap.size_set']; omega) | omega) [a0, a1, a2, hn, hd, undef]
  refine ⟨niC_pend [(7, 8)] (by kernel_rfl) ⟨k1, trivial⟩, ?_⟩
  refine FN.of (of_c s l) ?_
  simp (maxSteps := 1000000) (disch := first | (simp; done) | (simp only [IHeap.size_push', IHeap.size_set']; omega) | omega) [a0, a1, a2, hn, hd]
  refine WPR.gen fun E H hE hH => ?_
  have E5 : E.get 5 = .pointer (some ⟨h.size, 0, none⟩) := by rw [hE]; simp (maxSteps := 1000000) (disch := first | (simp; done) | (simp only [IHeap.size_push', IHeap.size_set']; omega) | omega) [hn]
  have E6 : E.get 6 = .pointer (some ⟨h.size + 1, 0, none⟩) := by rw [hE]; simp (maxSteps := 1000000) (disch := first | (simp; done) | (simp only [IHeap.size_push', IHeap.size_set']; omega) | omega) [hn]
  have E7 : E.get 7 = .pointer (some ⟨h.size + 4, 0, none⟩) := by rw [hE]; simp (maxSteps := 1000000) (disch := first | (simp; done) | (simp only [IHeap.size_push', IHeap.size_set']; omega) | omega) [hn]
  have E23 : E.get 23 = .func (.func 27) #[] #[.pointer (some ⟨h.size + 5, 0, none⟩), .pointer (some ⟨h.size + 6, 0, none⟩)] := by rw [hE]; simp (maxSteps := 1000000) (disch := first | (simp; done) | (simp only [IHeap.size_push', IHeap.size_set']; omega) | omega) [hn]
  have En : E.n = 43 := by rw [hE]; simp (maxSteps := 1000000) (disch := first | (simp; done) | (simp only [IHeap.size_push', IHeap.size_set']; omega) | omega) [hn]
  have Ed : E.dfr = [] := by rw [hE]; simp (maxSteps := 1000000) (disch := first | (simp; done) | (simp only [IHeap.size_push', IHeap.size_set']; omega) | omega) [hd]
  have Hz : H.size = h.size + 7 := by rw [hH]; simp (maxSteps := 1000000) (disch := first | (simp; done) | (simp only [IHeap.size_push', IHeap.size_set']; omega) | omega) []
  have Ho : ∀ i, i < h.size → H.get i = h.get i := fun i hi => by rw [hH]; simp (maxSteps := 1000000) (disch := first | (simp; done) | (simp only [IHeap.size_push', IHeap.size_set']; omega) | omega) []
  have H0 : H.get h.size = some (.row false 0 [.slice A p.length p.length]) := by rw [hH]; simp (maxSteps := 1000000) (disch := first | (simp; done) | (simp only [IHeap.size_push', IHeap.size_set']; omega) | omega) []
  have H1 : H.get (h.size + 1) = some (.row false 0 [.bool false]) := by rw [hH]; simp (maxSteps := 1000000) (disch := first | (simp; done) | (simp only [IHeap.size_push', IHeap.size_set']; omega) | omega) []
  have H4 : H.get (h.size + 4) = some (.row false 0 [.int .i64 0]) := by rw [hH]; simp (maxSteps := 1000000) (disch := first | (simp; done) | (simp only [IHeap.size_push', IHeap.size_set']; omega) | omega) []
  have H5 : H.get (h.size + 5) = some (.row false 0 [.pointer (some ⟨s, 0, none⟩)]) := by rw [hH]; simp (maxSteps := 1000000) (disch := first | (simp; done) | (simp only [IHeap.size_push', IHeap.size_set']; omega) | omega) []
  have H6 : H.get (h.size + 6) = some (.row false 0 [.int .i64 l]) := by rw [hH]; simp (maxSteps := 1000000) (disch := first | (simp; done) | (simp only [IHeap.size_push', IHeap.size_set']; omega) | omega) []
  clear hH hE hn hd a0 a1 a2 k1 hl0
  refine WPR.intro2 (cs := #[.pointer (some ⟨h.size + 5, 0, none⟩), .pointer (some ⟨h.size + 6, 0, none⟩)]) (fs := #[]) rfl E23 (by simp) rfl ?_
  intro P Lp Lt LA LB Ls Ln
  have x1 : SIs ((H.push .defs).push (.loop P)) s k q n m L b f t := x.to fun i hi => by
    have := Ho i hi
    simp (maxSteps := 1000000) (disch := first | (simp; done) | (simp only [IHeap.size_push', IHeap.size_set']; omega) | omega) [this]
  have j0 : TeJ h s l (.slice A p.length p.length) P 0 ((H.push .defs).push (.loop P)) := by
    refine ⟨by simp only [IHeap.size_push']; omega, fun i hi => ?_, ?_, ?_, ?_, ?_, ?_, ?_, ?_⟩
    · have := Ho i hi
      simp (maxSteps := 1000000) (disch := first | (simp; done) | (simp only [IHeap.size_push', IHeap.size_set']; omega) | omega) [this]
    · simp (maxSteps := 1000000) (disch := first | (simp; done) | (simp only [IHeap.size_push', IHeap.size_set']; omega) | omega) [H0]
    · simp (maxSteps := 1000000) (disch := first | (simp; done) | (simp only [IHeap.size_push', IHeap.size_set']; omega) | omega) [H1]
    · simp (maxSteps := 1000000) (disch := first | (simp; done) | (simp only [IHeap.size_push', IHeap.size_set']; omega) | omega) [H4]
    · simp (maxSteps := 1000000) (disch := first | (simp; done) | (simp only [IHeap.size_push', IHeap.size_set']; omega) | omega) [H5]
    · simp (maxSteps := 1000000) (disch := first | (simp; done) | (simp only [IHeap.size_push', IHeap.size_set']; omega) | omega) [H6]
    · simp (maxSteps := 1000000) (disch := first | (simp; done) | (simp only [IHeap.size_push', IHeap.size_set']; omega) | omega) [Hz]
    · simp (maxSteps := 1000000) (disch := first | (simp; done) | (simp only [IHeap.size_push', IHeap.size_set']; omega) | omega) [Hz]
  have key : FN Try.prog 27 #[.func (.yield (H.size + 1)) #[] #[], .pointer (some ⟨h.size + 5, 0, none⟩), .pointer (some ⟨h.size + 6, 0, none⟩)] ((H.push .defs).push (.loop P)) (Q := ⟨fun _ h' => TeJ h s l (.slice A p.length p.length) P p.length h'⟩) := by
    rcases hor with ⟨y, rfl, hy, hLy⟩ | ⟨hb, rfl⟩
    · refine FN.mono (iter_c (z := p) (l := y) hy (fun i h' => TeJ h s y (.slice A p.length p.length) P i h') (fun _ => False) ?_ ?_ j0 x1 hLy) (fun v h' hx => hx.resolve_right id)
      · rintro i h1 j
        exact ⟨j.g5, j.g6, L, b, f, t, p.take i, x.to j.old, by rw [hLy, List.take_append_drop]⟩
      · rintro i h1 hi j
        obtain ⟨c, hc⟩ : ∃ c, p[i] = c := ⟨_, rfl⟩
        have lne : p ≠ [] := by intro e; rw [e] at hi; simp at hi
        obtain ⟨r, rfl, rq, gr⟩ := hr lne
        have gi := ints_get (getk hi)
        rw [hc] at gi ⊢
        have gl := j.gl
        refine RN.one mixed (E := E) (by rw [Hz]; exact gl) Lp Lt LA LB (by kernel_rfl) (by kernel_rfl) ?_
        intro r' rn rd rg
        have r5 := rg 5
        have r6 := rg 6
        have r7 := rg 7
        rw [E5] at r5; rw [E6] at r6; rw [E7] at r7
        rw [En] at rn
        have g0 := j.g0
        have g4 := j.g4
        have jz := j.size
        have rz := IHeap.get_lt gr
        have jl : h1.get r = some (.row false 1 (ints p)) := by rw [j.old _ rz]; exact gr
        have hi2 : (i : Int) < p.length := by omega
        have hi3 : ¬ (p.length : Int) ≤ i := by omega
        simp (maxSteps := 1000000) (disch := first | (simp; done) | (simp only [IHeap.size_push', IHeap.size_set']; omega) | omega) [rn, rd, r5, r6, r7, assignQ]
        refine ⟨P, by rw [Hz]; exact gl, Ls, ?_⟩
        have eL : ({ state := .ready, pending := none, fn := P.fn, tmps := P.tmps, params := P.params, assign := P.assign, body := P.body, defers := P.defers } : Loop) = P := by
          rw [← Ls, ← Ln]
        simp (maxSteps := 1000000) (disch := first | (simp; done) | (simp only [IHeap.size_push', IHeap.size_set']; omega) | omega) [rn, rd, r5, r6, r7, Hz, g0, g4, jl, hi, hi2, hi3, gi, undef, wrap64, bodyQ]
        rw [eL]
        refine ⟨?_, fun a ha => ?_, ?_, ?_, ?_, ?_, ?_, ?_, ?_⟩
        · simp only [IHeap.size_set']; omega
        · rw [IHeap.get_set_ne _ (by omega), IHeap.get_set_ne _ (by omega)]; exact j.old a ha
        · simp (maxSteps := 1000000) (disch := first | (simp; done) | (simp only [IHeap.size_push', IHeap.size_set']; omega) | omega) [g0]
        · have := j.g1
          simp (maxSteps := 1000000) (disch := first | (simp; done) | (simp only [IHeap.size_push', IHeap.size_set']; omega) | omega) [this]
        · simp (maxSteps := 1000000) (disch := first | (simp; done) | (simp only [IHeap.size_push', IHeap.size_set']; omega) | omega) []
        · have := j.g5
          simp (maxSteps := 1000000) (disch := first | (simp; done) | (simp only [IHeap.size_push', IHeap.size_set']; omega) | omega) [this]
        · have := j.g6
          simp (maxSteps := 1000000) (disch := first | (simp; done) | (simp only [IHeap.size_push', IHeap.size_set']; omega) | omega) [this]
        · have := j.gd
          simp (maxSteps := 1000000) (disch := first | (simp; done) | (simp only [IHeap.size_push', IHeap.size_set']; omega) | omega) [this]
        · simp (maxSteps := 1000000) (disch := first | (simp; done) | (simp only [IHeap.size_push', IHeap.size_set']; omega) | omega) []
    · exact FN.of (iter_bad x1 hb (by simp (maxSteps := 1000000) (disch := first | (simp; done) | (simp only [IHeap.size_push', IHeap.size_set']; omega) | omega) [H5]) (by simp (maxSteps := 1000000) (disch := first | (simp; done) | (simp only [IHeap.size_push', IHeap.size_set']; omega) | omega) [H6])) j0
  refine FN.mono key ?_
  rintro v h3 j
  simp only [Hid.ap_mk] at j ⊢
  have jz := j.size
  have gl := j.gl
  have go' : ∀ a, a ≠ h.size + 8 → (h3.set (H.size + 1) (.loop { P with state := .exhausted })).get a = h3.get a := fun a ha => by rw [IHeap.get_set_ne _ (by omega)]
  obtain ⟨E', hE', n', d', g'⟩ := XEnv.withd E (markOf H.size :: E.dfr)
  have E5' := g' 5
  have E6' := g' 6
  have E7' := g' 7
  rw [E5] at E5'; rw [E6] at E6'; rw [E7] at E7'; rw [En] at n'; rw [Ed] at d'
  rw [Hz] at d' go'
  refine ⟨P, by rw [Hz]; exact gl, by rw [Ls]; simp, .normal, by rw [Ln]; rfl, ?_⟩
  simp only [Hid.ap_mk]
  rw [hE', Hz]
  generalize hhh : h3.set (h.size + 7 + 1) (.loop { P with state := .exhausted }) = h4 at go'
  have hz4 : h4.size = h3.size := by rw [← hhh]; simp only [IHeap.size_set']
  have q0 : h4.get h.size = some (.row false 0 [.slice A p.length p.length]) := by rw [go' _ (by omega)]; exact j.g0
  have q1 : h4.get (h.size + 1) = some (.row false 0 [.bool false]) := by rw [go' _ (by omega)]; exact j.g1
  have q4 : h4.get (h.size + 4) = some (.row false 0 [.int .i64 p.length]) := by rw [go' _ (by omega)]; exact j.g4
  have qd : (h4.set (h.size + 1) (.row false 0 [.bool true])).get (h.size + 7) = some .defs := by rw [IHeap.get_set_ne _ (by omega), go' _ (by omega)]; exact j.gd
  simp (maxSteps := 1000000) (disch := first | (simp; done) | (simp only [IHeap.size_push', IHeap.size_set']; omega) | omega) [outOf_normal, E5', E6', E7', n', d', q0, q1, q4, finD_one qd]
  exact ⟨by omega, fun i hi => by rw [IHeap.get_set_ne _ (by omega), IHeap.get_set_ne _ (by omega), go' _ (by omega)]; exact j.old i hi⟩
end Go.Proofs.Ytepajeemcalheaa.Ideal
