import Derived.Test.YtfgaggpfdckggaaP18c
noncomputable section
open Go.Proofs
namespace Go.Proofs.Ytfgaggpfdckggaa.Ideal
open Go.RowKit
set_option linter.unusedSimpArgs false
set_option linter.unusedVariables false
set_option linter.unusedSectionVars false
set_option linter.unnecessarySimpa false
set_option maxRecDepth 100000
set_option maxHeartbeats 2000000
attribute [-simp] IHeap.size_set IHeap.size_push
attribute [local simp ↓] Hid.ap_mk
attribute [local simp] scopeQ_normal scopeQ_ret scopeQ_exit WP_skip WP_label WP_exit WP_goto WP_ret WP_region WP_seq WP_cond WP_block WP_scope WP_loop WP_range thenQ_normal thenQ_ret thenQ_exit thenQ_goto loopQ_normal loopQ_ret loopQ_exit invQ_normal invQ_ret invQ_exit outOf_normal outOf_ret outOf_goto outOf_exit ev_tmp ev_const ev_func
  wops_nil wops_cons wantedE_none wantedE_some jgd_some wnx_eq niC_false wdo_move wdo_assign wdo_pick wdo_load wdo_store wdo_alloc wdo_box wdo_fieldAddr wdo_indexAddr wdo_field wdo_extract wdo_build wdo_buildSlice wdo_makeSlice wdo_binOp wdo_unOp wdo_makeFunc wdo_nilCheck wdo_callV wdo_len wdo_append wdo_copy wdo_delete wdo_max wdo_min wdo_convert jcvt_int
  xput_get put_n put_none put_dfr ibin finQ_n finQ_r finD_nil splice_one ires_nil ires_one ires_two ires_three ires1_tmp ires1_cell jcell_ptr rowLoad_row wrap64 wrapU64 wrapU8 wrapU16 wrapU32 callV_fn buildOf Instr.fill Value.cells Value.oneCell' kindOf slots_all splice_all IHeap.size_set' IHeap.size_push' IHeap.get_set_same IHeap.get_set_ne IHeap.get_pushed IHeap.get_push_ne IHeap.set_set IHeap.set_push IHeap.set_pushed IHeap.set_set3 getU_nil getU_same getU_ne jif_true jif_false pushH_eq setH_eq forceL_eq forceV_eq ibuildSlice
attribute [-simp] Value.oneCell'
def whereV (o s m x : Int) : Int := if mayB o s m then (match (List.range m.toNat).find? (fun k => decide (sq o s m k = x)) with | some k => (k : Int) | none => -1) else -1
theorem find_range {p : Nat → Bool} {n k : Nat} (hk : k < n) (hp : p k = true) (hl : ∀ j, j < k → p j = false) : (List.range n).find? p = some k := by
  rw [List.find?_range_eq_some]
  exact ⟨hp, List.mem_range.2 hk, fun j hj => by rw [hl j hj]; rfl⟩
theorem whereV_hit {o s m x : Int} {k : Nat} (hm : mayB o s m = true) (hk : k < m.toNat) (hp : sq o s m k = x) (hl : ∀ j, j < k → sq o s m j ≠ x) : whereV o s m x = k := by
  unfold whereV
  rw [if_pos hm, find_range hk (by simpa using hp) (fun j hj => by simpa using hl j hj)]
theorem whereV_miss {o s m x : Int} (hl : ∀ j, j < m.toNat → sq o s m j ≠ x) : whereV o s m x = -1 := by
  unfold whereV
  split
  · rw [List.find?_eq_none.2 (fun j hj => by simpa using hl j (List.mem_range.1 hj))]
  · rfl
structure WhJ (h0 : IHeap) (o s m x : Int) (L : Loop) (k : Nat) (v : Int) (h : IHeap) : Prop where
  size : h0.size + 7 ≤ h.size
  old : ∀ i, i < h0.size → h.get i = h0.get i
  gx : h.get (h0.size + 1) = some (.row false 0 [.int .i64 x])
  gv : h.get (h0.size + 2) = some (.row false 0 [.int .i64 v])
  gk : h.get (h0.size + 3) = some (.row false 0 [.int .i64 k])
  gp : h.get (h0.size + 4) = some (.row false 0 [.int .i64 o, .int .i64 s, .int .i64 m])
  gl : h.get (h0.size + 6) = some (.loop L)
  gd : h.get (h0.size + 5) = some .defs
  no : ∀ j, j < k → sq o s m j ≠ x
theorem where_c {h : IHeap} (o s m x : Int) : CT Try.prog 13 #[pmV o s m, .int .i64 x] h (.int .i64 (whereV o s m x)) [] := by
  refine FN.enter mixed (fn := Try.f13) (by kernel_rfl) rfl (by kernel_rfl) fun e hn hg hd => ?_
  simp [Try.f13] at hn
  have a0 : e.get 0 = pmV o s m := hg 0 (by omega)
  have a1 : e.get 1 = .int .i64 x := hg 1 (by omega)
  clear hg
  simp (maxSteps := 1000000) (disch := first | (simp; done) | (simp only [IHeap.size_push', IHeap.size_set']; omega) | omega) [a0, a1, hn, hd, pmV, one_int]
  refine FN.of (slots_c o s m) ?_
  simp (maxSteps := 1000000) (disch := first | (simp; done) | (simp only [IHeap.size_push', IHeap.size_set']; omega) | omega) [a0, a1, hn, hd, pmV, one_int]
  refine WPR.gen fun E H hE hH => ?_
  have E3 : E.get 3 = .pointer (some ⟨h.size + 1, 0, none⟩) := by rw [hE]; simp (maxSteps := 1000000) (disch := first | (simp; done) | (simp only [IHeap.size_push', IHeap.size_set']; omega) | omega) [hn]
  have E4 : E.get 4 = .pointer (some ⟨h.size + 2, 0, none⟩) := by rw [hE]; simp (maxSteps := 1000000) (disch := first | (simp; done) | (simp only [IHeap.size_push', IHeap.size_set']; omega) | omega) [hn]
  have E5 : E.get 5 = .pointer (some ⟨h.size + 3, 0, none⟩) := by rw [hE]; simp (maxSteps := 1000000) (disch := first | (simp; done) | (simp only [IHeap.size_push', IHeap.size_set']; omega) | omega) [hn]
  have E8 : E.get 8 = .func (.func 23) #[] #[.pointer (some ⟨h.size + 4, 0, none⟩)] := by rw [hE]; simp (maxSteps := 1000000) (disch := first | (simp; done) | (simp only [IHeap.size_push', IHeap.size_set']; omega) | omega) [hn]
  have En : E.n = 16 := by rw [hE]; simp (maxSteps := 1000000) (disch := first | (simp; done) | (simp only [IHeap.size_push', IHeap.size_set']; omega) | omega) [hn]
  have Ed : E.dfr = [] := by rw [hE]; simp (maxSteps := 1000000) (disch := first | (simp; done) | (simp only [IHeap.size_push', IHeap.size_set']; omega) | omega) [hd]
  have Hz : H.size = h.size + 5 := by rw [hH]; simp (maxSteps := 1000000) (disch := first | (simp; done) | (simp only [IHeap.size_push', IHeap.size_set']; omega) | omega) []
  have Ho : ∀ i, i < h.size → H.get i = h.get i := fun i hi => by rw [hH]; simp (maxSteps := 1000000) (disch := first | (simp; done) | (simp only [IHeap.size_push', IHeap.size_set']; omega) | omega) []
  have H1 : H.get (h.size + 1) = some (.row false 0 [.int .i64 x]) := by rw [hH]; simp (maxSteps := 1000000) (disch := first | (simp; done) | (simp only [IHeap.size_push', IHeap.size_set']; omega) | omega) []
  have H2 : H.get (h.size + 2) = some (.row false 0 [.int .i64 0]) := by rw [hH]; simp (maxSteps := 1000000) (disch := first | (simp; done) | (simp only [IHeap.size_push', IHeap.size_set']; omega) | omega) []
  have H3 : H.get (h.size + 3) = some (.row false 0 [.int .i64 0]) := by rw [hH]; simp (maxSteps := 1000000) (disch := first | (simp; done) | (simp only [IHeap.size_push', IHeap.size_set']; omega) | omega) []
  have H4 : H.get (h.size + 4) = some (.row false 0 [.int .i64 o, .int .i64 s, .int .i64 m]) := by rw [hH]; simp (maxSteps := 1000000) (disch := first | (simp; done) | (simp only [IHeap.size_push', IHeap.size_set']; omega) | omega) []
  clear hH hE hn hd a0 a1
  refine WPR.intro2 (cs := #[.pointer (some ⟨h.size + 4, 0, none⟩)]) (fs := #[]) rfl E8 (by simp) rfl ?_
  intro L Lp Lt LA LB Ls Ln
  refine FN.mono (iter_c o s m (fun k h' => WhJ h o s m x L k 0 h') (fun h' => ∃ k : Nat, k < m.toNat ∧ sq o s m k = x ∧ WhJ h o s m x { L with state := .done, pending := some .ret } k k h') (fun k h' j => j.gp) ?_ ?_ ?_) ?_
  · rintro k h1 hm hk j
    obtain ⟨m7, mm, _⟩ := may_ge hm
    have gl := j.gl
    refine RN.one mixed (E := E) (by rw [Hz]; exact gl) Lp Lt LA LB (by kernel_rfl) (by kernel_rfl) ?_
    intro r rn rd rg
    have r3 := rg 3
    have r4 := rg 4
    have r5 := rg 5
    rw [E3] at r3; rw [E4] at r4; rw [E5] at r5
    rw [En] at rn
    simp (maxSteps := 1000000) (disch := first | (simp; done) | (simp only [IHeap.size_push', IHeap.size_set']; omega) | omega) [rn, rd, r3, r4, r5, assignQ]
    refine ⟨L, by rw [Hz]; exact gl, Ls, ?_⟩
    have jz := j.size
    have jx := j.gx
    have jv := j.gv
    have jk := j.gk
    have jp := j.gp
    have jd := j.gd
    by_cases hx : sq o s m k = x
    · simp (maxSteps := 1000000) (disch := first | (simp; done) | (simp only [IHeap.size_push', IHeap.size_set']; omega) | omega) [rn, rd, r3, r4, r5, jx, jv, jk, jp, jd, Hz, hx, bodyQ, one_int]
      refine ⟨k, by omega, hx, ⟨by simp only [IHeap.size_set']; omega, fun i hi => ?_, ?_, ?_, ?_, ?_, ?_, ?_, j.no⟩⟩
      · have := j.old i hi
        simp (maxSteps := 1000000) (disch := first | (simp; done) | (simp only [IHeap.size_push', IHeap.size_set']; omega) | omega) [this]
      all_goals simp (maxSteps := 1000000) (disch := first | (simp; done) | (simp only [IHeap.size_push', IHeap.size_set']; omega) | omega) [jx, jv, jk, jp, jd]
    · simp (maxSteps := 1000000) (disch := first | (simp; done) | (simp only [IHeap.size_push', IHeap.size_set']; omega) | omega) [rn, rd, r3, r4, r5, jx, jv, jk, jp, jd, Hz, hx, bodyQ, one_int, wrap64]
      have eL : ({ state := .ready, pending := none, fn := L.fn, tmps := L.tmps, params := L.params, assign := L.assign, body := L.body, defers := L.defers } : Loop) = L := by
        rw [← Ls, ← Ln]
      rw [eL]
      refine ⟨by simp only [IHeap.size_set']; omega, fun i hi => ?_, ?_, ?_, ?_, ?_, ?_, ?_, fun i hi => ?_⟩
      · have := j.old i hi
        simp (maxSteps := 1000000) (disch := first | (simp; done) | (simp only [IHeap.size_push', IHeap.size_set']; omega) | omega) [this]
      · simp (maxSteps := 1000000) (disch := first | (simp; done) | (simp only [IHeap.size_push', IHeap.size_set']; omega) | omega) [jx]
      · simp (maxSteps := 1000000) (disch := first | (simp; done) | (simp only [IHeap.size_push', IHeap.size_set']; omega) | omega) [jv]
      · simp (maxSteps := 1000000) (disch := first | (simp; done) | (simp only [IHeap.size_push', IHeap.size_set']; omega) | omega) [jk]
      · simp (maxSteps := 1000000) (disch := first | (simp; done) | (simp only [IHeap.size_push', IHeap.size_set']; omega) | omega) [jp]
      · simp (maxSteps := 1000000) (disch := first | (simp; done) | (simp only [IHeap.size_push', IHeap.size_set']; omega) | omega) []
      · simp (maxSteps := 1000000) (disch := first | (simp; done) | (simp only [IHeap.size_push', IHeap.size_set']; omega) | omega) [jd]
      · by_cases h : i = k
        · rw [h]; exact hx
        · exact j.no i (by omega)
  · rintro k h1 h2 j fr
    have jz := j.size
    refine ⟨by have := fr.size; omega, fun i hi => ?_, ?_, ?_, ?_, ?_, ?_, ?_, j.no⟩
    · rw [fr.get i (by omega)]; exact j.old i hi
    · rw [fr.get _ (by omega)]; exact j.gx
    · rw [fr.get _ (by omega)]; exact j.gv
    · rw [fr.get _ (by omega)]; exact j.gk
    · rw [fr.get _ (by omega)]; exact j.gp
    · rw [fr.get _ (by omega)]; exact j.gl
    · rw [fr.get _ (by omega)]; exact j.gd
  · refine ⟨by simp only [IHeap.size_push']; omega, fun i hi => ?_, ?_, ?_, ?_, ?_, ?_, ?_, fun j hj => by omega⟩
    · have := Ho i hi
      simp (maxSteps := 1000000) (disch := first | (simp; done) | (simp only [IHeap.size_push', IHeap.size_set']; omega) | omega) [this]
    · simp (maxSteps := 1000000) (disch := first | (simp; done) | (simp only [IHeap.size_push', IHeap.size_set']; omega) | omega) [H1]
    · simp (maxSteps := 1000000) (disch := first | (simp; done) | (simp only [IHeap.size_push', IHeap.size_set']; omega) | omega) [H2]
    · simp (maxSteps := 1000000) (disch := first | (simp; done) | (simp only [IHeap.size_push', IHeap.size_set']; omega) | omega) [H3]
    · simp (maxSteps := 1000000) (disch := first | (simp; done) | (simp only [IHeap.size_push', IHeap.size_set']; omega) | omega) [H4]
    · simp (maxSteps := 1000000) (disch := first | (simp; done) | (simp only [IHeap.size_push', IHeap.size_set']; omega) | omega) [Hz]
    · simp (maxSteps := 1000000) (disch := first | (simp; done) | (simp only [IHeap.size_push', IHeap.size_set']; omega) | omega) [Hz]
  · rintro v h3 hp
    simp only [Hid.ap_mk] at hp ⊢
    have hk : ∃ (L' : Loop) (k : Nat) (v : Int), WhJ h o s m x L' k v h3 ∧ L'.state ≠ .busy ∧ ((L'.pending = none ∧ whereV o s m x = -1) ∨ (L'.pending = some .ret ∧ whereV o s m x = v)) := by
      cases hm : mayB o s m
      · rw [hm, if_neg (by simp)] at hp
        exact ⟨L, _, _, hp, by rw [Ls]; simp, .inl ⟨Ln, by simp [whereV, hm]⟩⟩
      · rw [hm, if_pos rfl] at hp
        rcases hp with h1 | ⟨k, k1, k2, k3⟩
        · exact ⟨L, _, _, h1, by rw [Ls]; simp, .inl ⟨Ln, whereV_miss h1.no⟩⟩
        · exact ⟨_, _, _, k3, by simp, .inr ⟨rfl, whereV_hit hm k1 k2 k3.no⟩⟩
    obtain ⟨L', k, v, j, hs, hx⟩ := hk
    have jz := j.size
    have gl := j.gl
    have jd := j.gd
    have jv := j.gv
    have gd' : (h3.set (H.size + 1) (.loop { L' with state := .exhausted })).get H.size = some .defs := by simp (maxSteps := 1000000) (disch := first | (simp; done) | (simp only [IHeap.size_push', IHeap.size_set']; omega) | omega) [Hz, jd]
    have gv' : (h3.set (h.size + 5 + 1) (.loop { L' with state := .exhausted })).get (h.size + 2) = some (.row false 0 [.int .i64 v]) := by simp (maxSteps := 1000000) (disch := first | (simp; done) | (simp only [IHeap.size_push', IHeap.size_set']; omega) | omega) [jv]
    have go' : ∀ i, i < h.size → (h3.set (h.size + 5 + 1) (.loop { L' with state := .exhausted })).get i = h.get i := fun i hi => by
      have := j.old i hi
      simp (maxSteps := 1000000) (disch := first | (simp; done) | (simp only [IHeap.size_push', IHeap.size_set']; omega) | omega) [this]
    obtain ⟨E', hE', n', d', g'⟩ := XEnv.withd E (markOf H.size :: E.dfr)
    have E3' := g' 3
    have E4' := g' 4
    rw [E3] at E3'; rw [E4] at E4'; rw [En] at n'; rw [Ed] at d'
    rcases hx with ⟨hx, hv⟩ | ⟨hx, hv⟩
    · refine ⟨L', by rw [Hz]; exact gl, hs, .normal, by rw [hx]; rfl, ?_⟩
      simp only [Hid.ap_mk]
      rw [hE']
      rw [Hz] at gd' d' ⊢
      generalize hhh : h3.set (h.size + 5 + 1) (.loop { L' with state := .exhausted }) = h4 at gd' gv' go' ⊢
      have hz4 : h4.size = h3.size := by rw [← hhh]; simp only [IHeap.size_set']
      have gd2 : (h4.set (h.size + 2) (.row false 0 [.int .i64 (-1)])).get (h.size + 5) = some .defs := by simp (maxSteps := 1000000) (disch := first | (simp; done) | (simp only [IHeap.size_push', IHeap.size_set']; omega) | omega) [gd']
      simp (maxSteps := 1000000) (disch := first | (simp; done) | (simp only [IHeap.size_push', IHeap.size_set']; omega) | omega) [outOf_normal, E3', E4', n', d', gv', one_int, finD_one gd2, hv]
      refine ⟨by simp only [IHeap.size_set']; omega, fun i hi => ?_⟩
      have := go' i hi
      simp (maxSteps := 1000000) (disch := first | (simp; done) | (simp only [IHeap.size_push', IHeap.size_set']; omega) | omega) [this]
    · refine ⟨L', by rw [Hz]; exact gl, hs, .ret, by rw [hx]; rfl, ?_⟩
      simp only [Hid.ap_mk]
      rw [hE']
      rw [Hz] at gd' d' ⊢
      generalize hhh : h3.set (h.size + 5 + 1) (.loop { L' with state := .exhausted }) = h4 at gd' gv' go' ⊢
      have hz4 : h4.size = h3.size := by rw [← hhh]; simp only [IHeap.size_set']
      simp (maxSteps := 1000000) (disch := first | (simp; done) | (simp only [IHeap.size_push', IHeap.size_set']; omega) | omega) [outOf_ret, E3', E4', n', d', gv', one_int, finD_one gd', hv]
      refine ⟨by simp only [IHeap.size_set']; omega, fun i hi => ?_⟩
      have := go' i hi
      simp (maxSteps := 1000000) (disch := first | (simp; done) | (simp only [IHeap.size_push', IHeap.size_set']; omega) | omega) [this]
end Go.Proofs.Ytfgaggpfdckggaa.Ideal
