import Derived.Test.YtmobpbhbllhdcaaP14b
noncomputable section
open Go.Proofs
namespace Go.Proofs.Ytmobpbhbllhdcaa.Ideal
open Go.RowKit
set_option linter.unusedSimpArgs false
set_option linter.unusedVariables false
set_option linter.unusedSectionVars false
set_option linter.unnecessarySimpa false
set_option maxRecDepth 100000
set_option maxHeartbeats 2000000
attribute [-simp] IHeap.size_set IHeap.size_push
attribute [local simp ↓] Hid.ap_mk
attribute [local simp] scopeQ_normal scopeQ_ret scopeQ_exit WP_skip WP_label WP_exit WP_goto WP_ret WP_region WP_seq WP_cond WP_block WP_scope WP_loop WP_range thenQ_normal thenQ_ret thenQ_exit thenQ_goto loopQ_normal loopQ_ret loopQ_exit invQ_normal invQ_ret invQ_exit outOf_normal outOf_ret outOf_goto outOf_exit ev_tmp ev_const ev_func
  wops_nil wops_cons wantedE_none wantedE_some jgd_some wnx_eq niC_false wdo_move wdo_assign wdo_pick wdo_load wdo_store wdo_alloc wdo_box wdo_fieldAddr wdo_indexAddr wdo_field wdo_extract wdo_build wdo_buildSlice wdo_makeSlice wdo_binOp wdo_unOp wdo_makeFunc wdo_nilCheck wdo_callV wdo_len wdo_append wdo_copy wdo_delete wdo_max wdo_min wdo_convert jcvt_int
  xput_get put_n put_none put_dfr ibin finQ_n finQ_r finD_nil splice_one ires_nil ires_one ires_two ires_three ires1_tmp ires1_cell jcell_ptr rowLoad_row wrap64 wrapU64 wrapU8 wrapU16 wrapU32 callV_fn buildOf Instr.fill Value.cells Value.oneCell' kindOf slots_all splice_all IHeap.size_set' IHeap.size_push' IHeap.get_set_same IHeap.get_set_ne IHeap.get_pushed IHeap.get_push_ne IHeap.set_set IHeap.set_push IHeap.set_pushed IHeap.set_set3 getU_nil getU_same getU_ne jif_true jif_false pushH_eq setH_eq forceL_eq forceV_eq ibuildSlice
attribute [-simp] Value.oneCell'
/-- What is asked of an entry: nothing, or a function that leaves memory. -/
def FnIs (h0 : IHeap) (F : Value) (K : Option (Int → Bool)) : Prop := (F = .nilFunc ∧ K = none) ∨ ∃ g fs cs K', F = .func (.func g) fs cs ∧ K = some K' ∧ fnB Try.prog g = true ∧ ∀ h' what, (∀ i, i < h0.size → h'.get i = h0.get i) → FN Try.prog g (fs.push (.int .u32 what) ++ cs) h' (Q := ⟨fun v h'' => v = .bool (K' what) ∧ Fr h' h'' []⟩)
/-- Whether the way ends at a place, as empty, or as found. -/
def stopB (K : Option (Int → Bool)) (hash : Int) (c : PL) : Bool := match K with
  | none => true
  | some K' => decide (c.2.2 = 0) || (decide (c.2.2 = 1) && decide (c.1 = hash) && K' c.2.1)
def TB.find (t : TB) (hash : Int) (K : Option (Int → Bool)) : Option Nat := match (List.range t.ps.length).find? (fun k => match t.ps[wayI t.ps.length hash k]? with | some c => stopB K hash c | none => true) with
  | some k => (match t.ps[wayI t.ps.length hash k]?, K with
    | some c, some _ => if c.2.2 = 0 then none else some (wayI t.ps.length hash k)
    | _, _ => none)
  | none => none
def findV (r : Option Nat) : Value := match r with | some i => .tuple #[.int .i64 i, .bool true] | none => .tuple #[.int .i64 0, .bool false]
theorem find_none {t : TB} {hash : Int} {K : Option (Int → Bool)} (h : ∀ j, j < t.ps.length → ∀ c, t.ps[wayI t.ps.length hash j]? = some c → stopB K hash c = false) : t.find hash K = none := by
  unfold TB.find
  rw [List.find?_eq_none.2 (fun k hk => by
    have hk := List.mem_range.1 hk
    have hw := wayI_lt hash k (show 0 < t.ps.length by omega)
    have := h k hk _ (List.getElem?_eq_getElem hw)
    rw [List.getElem?_eq_getElem hw]
    simp [this])]
theorem find_some {t : TB} {hash : Int} {K : Option (Int → Bool)} {k : Nat} {c : PL} (hk : k < t.ps.length) (hc : t.ps[wayI t.ps.length hash k]? = some c) (h1 : stopB K hash c = true) (h : ∀ j, j < k → ∀ c, t.ps[wayI t.ps.length hash j]? = some c → stopB K hash c = false) :
    t.find hash K = (match K with | some _ => if c.2.2 = 0 then none else some (wayI t.ps.length hash k) | none => none) := by
  unfold TB.find
  rw [(List.find?_range_eq_some (i := k)).2 ⟨by rw [hc]; exact h1, List.mem_range.2 hk, fun j hj => by
    have hw := wayI_lt hash j (show 0 < t.ps.length by omega)
    have := h j hj _ (List.getElem?_eq_getElem hw)
    rw [List.getElem?_eq_getElem hw]
    simp [this]⟩]
  simp only [hc]
  cases K <;> rfl
structure FiJ (h0 : IHeap) (A : Option Addr) (hash : Int) (F : Value) (L : Loop) (v : Int) (b : Bool) (h : IHeap) : Prop where
  size : h0.size + 8 ≤ h.size
  old : ∀ i, i < h0.size → h.get i = h0.get i
  g0 : h.get h0.size = some (.row false 0 [.int .u64 hash])
  g1 : h.get (h0.size + 1) = some (.row false 0 [F])
  g2 : h.get (h0.size + 2) = some (.row false 0 [.int .i64 v])
  g3 : h.get (h0.size + 3) = some (.row false 0 [.bool b])
  g4 : h.get (h0.size + 4) = some (.row false 0 [.pointer A])
  g5 : h.get (h0.size + 5) = some (.row false 0 [.int .u64 hash])
  gd : h.get (h0.size + 6) = some .defs
  gl : h.get (h0.size + 7) = some (.loop L)
theorem FiJ.step {h0 h h' : IHeap} {A : Option Addr} {hash : Int} {F : Value} {L L' : Loop} {v : Int} {b : Bool} (j : FiJ h0 A hash F L v b h) (hs : h.size ≤ h'.size) (k : ∀ i, i < h.size → i ≠ h0.size + 7 → h'.get i = h.get i) (gl : h'.get (h0.size + 7) = some (.loop L')) : FiJ h0 A hash F L' v b h' := by
  have jz := j.size
  exact ⟨by omega, fun i hi => (k i (by omega) (by omega)).trans (j.old i hi), (k _ (by omega) (by omega)).trans j.g0, (k _ (by omega) (by omega)).trans j.g1, (k _ (by omega) (by omega)).trans j.g2, (k _ (by omega) (by omega)).trans j.g3, (k _ (by omega) (by omega)).trans j.g4, (k _ (by omega) (by omega)).trans j.g5, (k _ (by omega) (by omega)).trans j.gd, gl⟩
theorem FiJ.step2 {h0 h h' : IHeap} {A : Option Addr} {hash : Int} {F : Value} {L L' : Loop} {v v' : Int} {b b' : Bool} (j : FiJ h0 A hash F L v b h) (hs : h.size ≤ h'.size) (k : ∀ i, i < h.size → i ≠ h0.size + 7 → i ≠ h0.size + 2 → i ≠ h0.size + 3 → h'.get i = h.get i) (g2 : h'.get (h0.size + 2) = some (.row false 0 [.int .i64 v'])) (g3 : h'.get (h0.size + 3) = some (.row false 0 [.bool b'])) (gl : h'.get (h0.size + 7) = some (.loop L')) : FiJ h0 A hash F L' v' b' h' := by
  have jz := j.size
  exact ⟨by omega, fun i hi => (k i (by omega) (by omega) (by omega) (by omega)).trans (j.old i hi), (k _ (by omega) (by omega) (by omega) (by omega)).trans j.g0, (k _ (by omega) (by omega) (by omega) (by omega)).trans j.g1, g2, g3, (k _ (by omega) (by omega) (by omega) (by omega)).trans j.g4, (k _ (by omega) (by omega) (by omega) (by omega)).trans j.g5, (k _ (by omega) (by omega) (by omega) (by omega)).trans j.gd, gl⟩
theorem next_stop {t : TB} {hash : Int} {K : Option (Int → Bool)} {k : Nat} {c : PL} (jn : ∀ j, j < k → ∀ c, t.ps[wayI t.ps.length hash j]? = some c → stopB K hash c = false) (hcc : t.ps[wayI t.ps.length hash k]? = some c) (hst : stopB K hash c = false) : ∀ j, j < k + 1 → ∀ c, t.ps[wayI t.ps.length hash j]? = some c → stopB K hash c = false := by
  intro j hj d hd
  by_cases e : j = k
  · subst e; rw [hcc] at hd; cases hd; exact hst
  · exact jn j (by omega) d hd
theorem Find_c {h : IHeap} {A : Option Addr} {q : Nat} {t : TB} (hll : t.ps.length ≤ 300000) (x : TIs h A t q) (hash : Int) (hh : 0 ≤ hash ∧ hash < 18446744073709551616) (F : Value) (K : Option (Int → Bool)) (hF : FnIs h F K) :
    CT Try.prog 57 #[.pointer A, .int .u64 hash, F] h (findV (t.find hash K)) [] := by
  refine FN.enter mixed (fn := Try.f57) (by kernel_rfl) rfl (by kernel_rfl) fun e hn hg hd => ?_
  simp [Try.f57] at hn
  have a0 : e.get 0 = .pointer A := hg 0 (by omega)
  have a1 : e.get 1 = .int .u64 hash := hg 1 (by omega)
  have a2 : e.get 2 = F := hg 2 (by omega)
  clear hg
  have hFc : F.cells = #[F] := by rcases hF with ⟨rfl, _⟩ | ⟨g, fs, cs, K', rfl, _⟩ <;> rfl
  have hF1 : F.oneCell' = true := by rcases hF with ⟨rfl, _⟩ | ⟨g, fs, cs, K', rfl, _⟩ <;> rfl
  have ci : ∀ k n, (Value.int k n).cells = #[.int k n] := fun _ _ => rfl
  simp (maxSteps := 1000000) (disch := first | (simp; done) | (simp only [IHeap.size_push', IHeap.size_set']; omega) | omega) [-Value.cells, a0, a1, a2, hn, hd, hFc, ci]
  refine FN.of (round_c A hash) ?_
  simp (maxSteps := 1000000) (disch := first | (simp; done) | (simp only [IHeap.size_push', IHeap.size_set']; omega) | omega) [-Value.cells, a0, a1, a2, hn, hd, hFc, ci]
  refine WPR.gen fun E H hE hH => ?_
  have E4 : E.get 4 = .pointer (some ⟨h.size, 0, none⟩) := by rw [hE]; simp (maxSteps := 1000000) (disch := first | (simp; done) | (simp only [IHeap.size_push', IHeap.size_set']; omega) | omega) [hn]
  have E5 : E.get 5 = .pointer (some ⟨h.size + 1, 0, none⟩) := by rw [hE]; simp (maxSteps := 1000000) (disch := first | (simp; done) | (simp only [IHeap.size_push', IHeap.size_set']; omega) | omega) [hn]
  have E6 : E.get 6 = .pointer (some ⟨h.size + 2, 0, none⟩) := by rw [hE]; simp (maxSteps := 1000000) (disch := first | (simp; done) | (simp only [IHeap.size_push', IHeap.size_set']; omega) | omega) [hn]
  have E7 : E.get 7 = .pointer (some ⟨h.size + 3, 0, none⟩) := by rw [hE]; simp (maxSteps := 1000000) (disch := first | (simp; done) | (simp only [IHeap.size_push', IHeap.size_set']; omega) | omega) [hn]
  have E12 : E.get 12 = .func (.func 65) #[] #[.pointer (some ⟨h.size + 4, 0, none⟩), .pointer (some ⟨h.size + 5, 0, none⟩)] := by rw [hE]; simp (maxSteps := 1000000) (disch := first | (simp; done) | (simp only [IHeap.size_push', IHeap.size_set']; omega) | omega) [hn]
  have En : E.n = 40 := by rw [hE]; simp (maxSteps := 1000000) (disch := first | (simp; done) | (simp only [IHeap.size_push', IHeap.size_set']; omega) | omega) [hn]
  have Ed : E.dfr = [] := by rw [hE]; simp (maxSteps := 1000000) (disch := first | (simp; done) | (simp only [IHeap.size_push', IHeap.size_set']; omega) | omega) [hd]
  have Hz : H.size = h.size + 6 := by rw [hH]; simp only [IHeap.size_push']
  have Ho : ∀ i, i < h.size → H.get i = h.get i := fun i hi => by rw [hH]; simp (maxSteps := 1000000) (disch := first | (simp; done) | (simp only [IHeap.size_push', IHeap.size_set']; omega) | omega) []
  have H0 : H.get h.size = some (.row false 0 [.int .u64 hash]) := by rw [hH]; simp (maxSteps := 1000000) (disch := first | (simp; done) | (simp only [IHeap.size_push', IHeap.size_set']; omega) | omega) []
  have H1 : H.get (h.size + 1) = some (.row false 0 [F]) := by rw [hH]; simp (maxSteps := 1000000) (disch := first | (simp; done) | (simp only [IHeap.size_push', IHeap.size_set']; omega) | omega) []
  have H2 : H.get (h.size + 2) = some (.row false 0 [.int .i64 0]) := by rw [hH]; simp (maxSteps := 1000000) (disch := first | (simp; done) | (simp only [IHeap.size_push', IHeap.size_set']; omega) | omega) []
  have H3 : H.get (h.size + 3) = some (.row false 0 [.bool false]) := by rw [hH]; simp (maxSteps := 1000000) (disch := first | (simp; done) | (simp only [IHeap.size_push', IHeap.size_set']; omega) | omega) []
  have H4 : H.get (h.size + 4) = some (.row false 0 [.pointer A]) := by rw [hH]; simp (maxSteps := 1000000) (disch := first | (simp; done) | (simp only [IHeap.size_push', IHeap.size_set']; omega) | omega) []
  have H5 : H.get (h.size + 5) = some (.row false 0 [.int .u64 hash]) := by rw [hH]; simp (maxSteps := 1000000) (disch := first | (simp; done) | (simp only [IHeap.size_push', IHeap.size_set']; omega) | omega) []
  clear hH hE hn hd a0 a1 a2
  refine WPR.intro2 (cs := #[.pointer (some ⟨h.size + 4, 0, none⟩), .pointer (some ⟨h.size + 5, 0, none⟩)]) (fs := #[]) rfl E12 (by simp) rfl ?_
  intro L Lp Lt LA LB Ls Ln
  refine FN.mono (iter_c (q := q) (t := t) (A := A) (hash := hash) hll hh (fun k h' => FiJ h A hash F L 0 false h' ∧ ∀ j, j < k → ∀ c, t.ps[wayI t.ps.length hash j]? = some c → stopB K hash c = false)
    (fun h' => (t.find hash K = none ∧ FiJ h A hash F { L with state := .done, pending := some (.exit 0) } 0 false h') ∨ ∃ W : Nat, t.find hash K = some W ∧ FiJ h A hash F { L with state := .done, pending := some .ret } W true h') (fun k h' j => j.1.g4) (fun k h' j => j.1.g5) (fun k h' j => x.inv j.1.old) ?_ ?_) ?_
  · rintro k h1 c hk hcc ⟨j, jn⟩
    have gl := j.gl
    refine RN.two mixed (E := E) (by rw [Hz]; exact gl) Lp Lt LA LB (by kernel_rfl) (by kernel_rfl) ?_
    intro r rn rd rg
    have r4 := rg 4
    have r5 := rg 5
    have r6 := rg 6
    have r7 := rg 7
    rw [E4] at r4; rw [E5] at r5; rw [E6] at r6; rw [E7] at r7
    rw [En] at rn
    have jz := j.size
    have j0 := j.g0
    have j1 := j.g1
    have j2 := j.g2
    have j3 := j.g3
    have j4 := j.g4
    have j5 := j.g5
    have jd := j.gd
    have eL : ({ state := .ready, pending := none, fn := L.fn, tmps := L.tmps, params := L.params, assign := L.assign, body := L.body, defers := L.defers } : Loop) = L := by
      rw [← Ls, ← Ln]
    have hstep : ∀ (L' : Loop) (o : IObj), FiJ h A hash F L' 0 false ((h1.set (h.size + 6 + 1) (.loop L')).push o) := fun L' o => j.step (by simp only [IHeap.size_push', IHeap.size_set']; omega) (fun i hi hne => by simp (maxSteps := 1000000) (disch := first | (simp; done) | (simp only [IHeap.size_push', IHeap.size_set']; omega) | omega) [hne, Ne.symm hne]) (by simp (maxSteps := 1000000) (disch := first | (simp; done) | (simp only [IHeap.size_push', IHeap.size_set']; omega) | omega) [])
    simp (maxSteps := 1000000) (disch := first | (simp; done) | (simp only [IHeap.size_push', IHeap.size_set']; omega) | omega) [rn, rd, r4, r5, r6, r7, assignQ, plV, one_int, zeros]
    refine ⟨L, by rw [Hz]; simp (maxSteps := 1000000) (disch := first | (simp; done) | (simp only [IHeap.size_push', IHeap.size_set']; omega) | omega) [gl], Ls, ?_⟩
    by_cases hz : c.2.2 = 0
    · have hst : stopB K hash c = true := by unfold stopB; cases K <;> simp [hz]
      have hfd : t.find hash K = none := by
        rw [find_some hk hcc hst jn]
        cases K <;> simp [hz]
      simp (maxSteps := 1000000) (disch := first | (simp; done) | (simp only [IHeap.size_push', IHeap.size_set']; omega) | omega) [rn, rd, r4, r5, r6, r7, Hz, hz, bodyQ, undef]
      exact .inl ⟨hfd, hstep _ _⟩
    · rcases hF with ⟨rfl, rfl⟩ | ⟨g, fs, cs, K', rfl, rfl, hfn, hK⟩
      · have hfd : t.find hash none = none := by rw [find_some hk hcc rfl jn]
        simp (maxSteps := 1000000) (disch := first | (simp; done) | (simp only [IHeap.size_push', IHeap.size_set']; omega) | omega) [rn, rd, r4, r5, r6, r7, Hz, hz, bodyQ, j1]
        exact .inl ⟨hfd, hstep _ _⟩
      · by_cases hz1 : c.2.2 = 1
        · by_cases hz2 : c.1 = hash
          · simp (maxSteps := 1000000) (disch := first | (simp; done) | (simp only [IHeap.size_push', IHeap.size_set']; omega) | omega) [rn, rd, r4, r5, r6, r7, Hz, hz1, hz2, bodyQ, j1, j0, hfn]
            have jB := hstep { L with state := .busy } (.row false 0 [.int .u64 hash, .int .u32 c.2.1, .int .u8 1])
            refine FN.mono (hK _ c.2.1 jB.old) ?_
            rintro v h2 ⟨rfl, fr2⟩
            have hz2' := fr2.size
            simp only [IHeap.size_push', IHeap.size_set'] at hz2'
            have jC : FiJ h A hash (.func (.func g) fs cs) { L with state := .busy } 0 false h2 := jB.step fr2.size (fun i hi _ => fr2.get i hi) (by rw [fr2.get _ (by simp only [IHeap.size_push', IHeap.size_set']; omega)]; exact jB.gl)
            have l2 := jC.gl
            have c2 := jC.g2
            have c3 := jC.g3
            have cz := jC.size
            cases hb : K' c.2.1
            · have hst : stopB (some K') hash c = false := by simp [stopB, hz, hb]
              simp (maxSteps := 1000000) (disch := first | (simp; done) | (simp only [IHeap.size_push', IHeap.size_set']; omega) | omega) [rn, rd, r4, r5, r6, r7, Hz, bodyQ, l2]
              rw [eL]
              exact ⟨jC.step (by simp only [IHeap.size_set']; omega) (fun i hi hne => by simp (maxSteps := 1000000) (disch := first | (simp; done) | (simp only [IHeap.size_push', IHeap.size_set']; omega) | omega) [hne, Ne.symm hne]) (by simp (maxSteps := 1000000) (disch := first | (simp; done) | (simp only [IHeap.size_push', IHeap.size_set']; omega) | omega) []), fun a ha b1 b2 b3 hd => next_stop jn hcc hst a ha (b1, b2, b3) hd⟩
            · have hst : stopB (some K') hash c = true := by simp [stopB, hz1, hz2, hb]
              have hfd : t.find hash (some K') = some (wayI t.ps.length hash k) := by
                rw [find_some hk hcc hst jn]; simp [hz]
              simp (maxSteps := 1000000) (disch := first | (simp; done) | (simp only [IHeap.size_push', IHeap.size_set']; omega) | omega) [rn, rd, r4, r5, r6, r7, Hz, bodyQ, l2, c2, c3, one_int, one_bool]
              refine .inr ⟨_, hfd, ?_⟩
              exact jC.step2 (by simp only [IHeap.size_set']; omega) (fun i hi n1 n2 n3 => by simp (maxSteps := 1000000) (disch := first | (simp; done) | (simp only [IHeap.size_push', IHeap.size_set']; omega) | omega) [n1, n2, n3, Ne.symm n1, Ne.symm n2, Ne.symm n3]) (by simp (maxSteps := 1000000) (disch := first | (simp; done) | (simp only [IHeap.size_push', IHeap.size_set']; omega) | omega) []) (by simp (maxSteps := 1000000) (disch := first | (simp; done) | (simp only [IHeap.size_push', IHeap.size_set']; omega) | omega) []) (by simp (maxSteps := 1000000) (disch := first | (simp; done) | (simp only [IHeap.size_push', IHeap.size_set']; omega) | omega) [])
          · have hst : stopB (some K') hash c = false := by simp [stopB, hz, hz2]
            simp (maxSteps := 1000000) (disch := first | (simp; done) | (simp only [IHeap.size_push', IHeap.size_set']; omega) | omega) [rn, rd, r4, r5, r6, r7, Hz, hz1, hz2, bodyQ, j1, j0, undef]
            rw [eL]
            exact ⟨hstep _ _, fun a ha b1 b2 b3 hd => next_stop jn hcc hst a ha (b1, b2, b3) hd⟩
        · have hst : stopB (some K') hash c = false := by simp [stopB, hz, hz1]
          simp (maxSteps := 1000000) (disch := first | (simp; done) | (simp only [IHeap.size_push', IHeap.size_set']; omega) | omega) [rn, rd, r4, r5, r6, r7, Hz, hz, hz1, bodyQ, j1, j0, undef]
          rw [eL]
          exact ⟨hstep _ _, fun a ha b1 b2 b3 hd => next_stop jn hcc hst a ha (b1, b2, b3) hd⟩
  · refine ⟨⟨by simp only [IHeap.size_push']; omega, fun i hi => ?_, ?_, ?_, ?_, ?_, ?_, ?_, ?_, ?_⟩, fun j hj => by omega⟩
    · have := Ho i hi
      simp (maxSteps := 1000000) (disch := first | (simp; done) | (simp only [IHeap.size_push', IHeap.size_set']; omega) | omega) [this]
    · simp (maxSteps := 1000000) (disch := first | (simp; done) | (simp only [IHeap.size_push', IHeap.size_set']; omega) | omega) [H0]
    · simp (maxSteps := 1000000) (disch := first | (simp; done) | (simp only [IHeap.size_push', IHeap.size_set']; omega) | omega) [H1]
    · simp (maxSteps := 1000000) (disch := first | (simp; done) | (simp only [IHeap.size_push', IHeap.size_set']; omega) | omega) [H2]
    · simp (maxSteps := 1000000) (disch := first | (simp; done) | (simp only [IHeap.size_push', IHeap.size_set']; omega) | omega) [H3]
    · simp (maxSteps := 1000000) (disch := first | (simp; done) | (simp only [IHeap.size_push', IHeap.size_set']; omega) | omega) [H4]
    · simp (maxSteps := 1000000) (disch := first | (simp; done) | (simp only [IHeap.size_push', IHeap.size_set']; omega) | omega) [H5]
    · simp (maxSteps := 1000000) (disch := first | (simp; done) | (simp only [IHeap.size_push', IHeap.size_set']; omega) | omega) [Hz]
    · simp (maxSteps := 1000000) (disch := first | (simp; done) | (simp only [IHeap.size_push', IHeap.size_set']; omega) | omega) [Hz]
  · rintro v h3 hp
    simp only [Hid.ap_mk] at hp ⊢
    obtain ⟨E', hE', n', d', g'⟩ := XEnv.withd E (markOf H.size :: E.dfr)
    have E6' := g' 6
    have E7' := g' 7
    rw [E6] at E6'; rw [E7] at E7'; rw [En] at n'; rw [Ed, Hz] at d'
    have hk : ∃ (L' : Loop) (v : Int) (b : Bool), FiJ h A hash F L' v b h3 ∧ L'.state ≠ .busy ∧ ((xpend L'.pending = some .normal ∧ t.find hash K = none) ∨ (xpend L'.pending = some (.exit 0) ∧ t.find hash K = none) ∨ (xpend L'.pending = some .ret ∧ findV (t.find hash K) = .tuple #[.int .i64 v, .bool b])) := by
      rcases hp with ⟨j, jn⟩ | ⟨hf, j⟩ | ⟨W, hf, j⟩
      · exact ⟨L, _, _, j, by rw [Ls]; simp, .inl ⟨by rw [Ln]; rfl, find_none jn⟩⟩
      · exact ⟨_, _, _, j, by simp, .inr (.inl ⟨rfl, hf⟩)⟩
      · exact ⟨_, _, _, j, by simp, .inr (.inr ⟨rfl, by rw [hf]; rfl⟩)⟩
    obtain ⟨L', v, b, j, hs, hx⟩ := hk
    have gl := j.gl
    have jz := j.size
    have j2 := j.g2
    have j3 := j.g3
    have jd := j.gd
    obtain ⟨h4, hh4⟩ : ∃ h4, h4 = h3.set (h.size + 6 + 1) (.loop { L' with state := .exhausted }) := ⟨_, rfl⟩
    have hz4 : h4.size = h3.size := by rw [hh4]; simp only [IHeap.size_set']
    have q2 : h4.get (h.size + 2) = some (.row false 0 [.int .i64 v]) := by rw [hh4]; simp (maxSteps := 1000000) (disch := first | (simp; done) | (simp only [IHeap.size_push', IHeap.size_set']; omega) | omega) [j2]
    have q3 : h4.get (h.size + 3) = some (.row false 0 [.bool b]) := by rw [hh4]; simp (maxSteps := 1000000) (disch := first | (simp; done) | (simp only [IHeap.size_push', IHeap.size_set']; omega) | omega) [j3]
    have qd : h4.get (h.size + 6) = some .defs := by rw [hh4]; simp (maxSteps := 1000000) (disch := first | (simp; done) | (simp only [IHeap.size_push', IHeap.size_set']; omega) | omega) [jd]
    have qd2 : ((h4.set (h.size + 2) (.row false 0 [.int .i64 0])).set (h.size + 3) (.row false 0 [.bool false])).get (h.size + 6) = some .defs := by simp (maxSteps := 1000000) (disch := first | (simp; done) | (simp only [IHeap.size_push', IHeap.size_set']; omega) | omega) [qd]
    have qo : ∀ i, i < h.size → h4.get i = h.get i := fun i hi => by
      have := j.old i hi
      rw [hh4]; simp (maxSteps := 1000000) (disch := first | (simp; done) | (simp only [IHeap.size_push', IHeap.size_set']; omega) | omega) [this]
    have fin : (∃ x, (x = .normal ∨ x = .exit 0) ∧ xpend L'.pending = some x ∧ t.find hash K = none) ∨ (xpend L'.pending = some .ret ∧ findV (t.find hash K) = .tuple #[.int .i64 v, .bool b]) := by
      rcases hx with ⟨a, b⟩ | ⟨a, b⟩ | h
      · exact .inl ⟨_, .inl rfl, a, b⟩
      · exact .inl ⟨_, .inr rfl, a, b⟩
      · exact .inr h
    rcases fin with ⟨y, hy, hx, hf⟩ | ⟨hx, hf⟩
    · refine ⟨L', by rw [Hz]; exact gl, hs, y, hx, ?_⟩
      have hy2 : outOf 0 y = .normal := by rcases hy with rfl | rfl <;> rfl
      simp only [Hid.ap_mk, hy2]
      rw [hE', Hz, ← hh4]
      clear hh4
      rw [hf]
      simp (maxSteps := 1000000) (disch := first | (simp; done) | (simp only [IHeap.size_push', IHeap.size_set']; omega) | omega) [E6', E7', n', d', q2, q3, one_int, one_bool, finD_one qd2, findV]
      exact ⟨by simp only [IHeap.size_set']; omega, fun i hi => by rw [IHeap.get_set_ne _ (by omega), IHeap.get_set_ne _ (by omega), IHeap.get_set_ne _ (by omega)]; exact qo i hi⟩
    · refine ⟨L', by rw [Hz]; exact gl, hs, .ret, hx, ?_⟩
      simp only [Hid.ap_mk, outOf_ret]
      rw [hE', Hz, ← hh4]
      clear hh4
      rw [hf]
      simp (maxSteps := 1000000) (disch := first | (simp; done) | (simp only [IHeap.size_push', IHeap.size_set']; omega) | omega) [E6', E7', n', d', q2, q3, one_int, one_bool, finD_one qd]
      exact ⟨by simp only [IHeap.size_set']; omega, fun i hi => by rw [IHeap.get_set_ne _ (by omega)]; exact qo i hi⟩
end Go.Proofs.Ytmobpbhbllhdcaa.Ideal
