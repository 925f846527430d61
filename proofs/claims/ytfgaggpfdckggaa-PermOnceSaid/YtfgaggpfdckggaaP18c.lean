import Derived.Test.YtfgaggpfdckggaaP18b
import Derived.Test.YtfgaggpfdckggaaI35
noncomputable section
open Go.Proofs
namespace Go.Proofs.Ytfgaggpfdckggaa.Ideal
open Go.RowKit
set_option linter.unusedSimpArgs false
set_option linter.unusedVariables false
set_option linter.unusedSectionVars false
set_option linter.unnecessarySimpa false
set_option maxRecDepth 100000
set_option maxHeartbeats 2000000
attribute [-simp] IHeap.size_set IHeap.size_push
attribute [local simp ↓] Hid.ap_mk
attribute [local simp] scopeQ_normal scopeQ_ret scopeQ_exit WP_skip WP_label WP_exit WP_goto WP_ret WP_region WP_seq WP_cond WP_block WP_scope WP_loop WP_range thenQ_normal thenQ_ret thenQ_exit thenQ_goto loopQ_normal loopQ_ret loopQ_exit invQ_normal invQ_ret invQ_exit outOf_normal outOf_ret outOf_goto outOf_exit ev_tmp ev_const ev_func
  wops_nil wops_cons wantedE_none wantedE_some jgd_some wnx_eq niC_false wdo_move wdo_assign wdo_pick wdo_load wdo_store wdo_alloc wdo_box wdo_fieldAddr wdo_indexAddr wdo_field wdo_extract wdo_build wdo_buildSlice wdo_makeSlice wdo_binOp wdo_unOp wdo_makeFunc wdo_nilCheck wdo_callV wdo_len wdo_append wdo_copy wdo_delete wdo_max wdo_min wdo_convert jcvt_int
  xput_get put_n put_none put_dfr ibin finQ_n finQ_r finD_nil splice_one ires_nil ires_one ires_two ires_three ires1_tmp ires1_cell jcell_ptr rowLoad_row wrap64 wrapU64 wrapU8 wrapU16 wrapU32 callV_fn buildOf Instr.fill Value.cells Value.oneCell' kindOf slots_all splice_all IHeap.size_set' IHeap.size_push' IHeap.get_set_same IHeap.get_set_ne IHeap.get_pushed IHeap.get_push_ne IHeap.set_set IHeap.set_push IHeap.set_pushed IHeap.set_set3 getU_nil getU_same getU_ne jif_true jif_false pushH_eq setH_eq forceL_eq forceV_eq ibuildSlice
attribute [-simp] Value.oneCell'
theorem iter_c {h : IHeap} {l b : Nat} (o s m : Int) (J : Nat → IHeap → Prop) (S : IHeap → Prop)
    (hb : ∀ k h, J k h → h.get b = some (.row false 0 [.int .i64 o, .int .i64 s, .int .i64 m]))
    (hJ : ∀ k h, mayB o s m = true → k < m.toNat → J k h → RN Try.prog l #[.int .i64 (sq o s m k)] h (Q := ⟨fun v h' => (v = .bool true ∧ J (k + 1) h') ∨ (v = .bool false ∧ S h')⟩))
    (hF : ∀ k h h', J k h → Fr h h' [] → J k h') (h0 : J 0 h) :
    FN Try.prog 23 #[.func (.yield l) #[] #[], .pointer (some ⟨b, 0, none⟩)] h (Q := ⟨fun _ h' => if mayB o s m then J m.toNat h' ∨ S h' else J 0 h'⟩) := by
  refine FN.enter mixed (fn := Try.f23) (by kernel_rfl) rfl (by kernel_rfl) fun e hn hg hd => ?_
  simp [Try.f23] at hn
  have a0 : e.get 0 = .func (.yield l) #[] #[] := hg 0 (by omega)
  have a1 : e.get 1 = .pointer (some ⟨b, 0, none⟩) := hg 1 (by omega)
  clear hg
  have gb := hb 0 h h0
  simp (maxSteps := 1000000) (disch := first | (simp; done) | (simp only [IHeap.size_push', IHeap.size_set']; omega) | omega) [a0, a1, hn, hd, gb]
  refine FN.ct (may_c o s m) ?_
  intro h2 fr
  have j0 := hF 0 h h2 h0 fr
  have gb2 := hb 0 h2 j0
  cases hm : mayB o s m
  · simp (maxSteps := 1000000) (disch := first | (simp; done) | (simp only [IHeap.size_push', IHeap.size_set']; omega) | omega) [a0, a1, hn, hd, gb]
    exact j0
  · obtain ⟨m7, mm, o0, o1, s1, s2⟩ := may_ge hm
    obtain ⟨M, rfl⟩ : ∃ M : Nat, m = M := ⟨m.toNat, by omega⟩
    simp (maxSteps := 1000000) (disch := first | (simp; done) | (simp only [IHeap.size_push', IHeap.size_set']; omega) | omega) [a0, a1, hn, hd, gb2]
    refine WPL.by_inv mixed (by kernel_rfl) (fun k e h' => ∃ i : Nat, i + k = M ∧ e.n = 25 ∧ e.dfr = [] ∧ e.get 0 = .func (.yield l) #[] #[] ∧ e.get 1 = .pointer (some ⟨b, 0, none⟩) ∧ e.get 3 = .int .i64 (sq o s M i) ∧ e.get 10 = .int .i64 M ∧ e.get 11 = .int .i64 i ∧ J i h') M ?_ ?_
    · refine ⟨0, ?_⟩
      simp (maxSteps := 1000000) (disch := first | (simp; done) | (simp only [IHeap.size_push', IHeap.size_set']; omega) | omega) [a0, a1, hn, hd, j0]
      unfold sq; simp; exact (Int.emod_eq_of_lt o0 o1).symm
    clear hn hd a0 a1 e
    rintro k e h3 ⟨i, hi, hn, hd, e0, e1, e3, e10, e11, j⟩
    have g1 := hb _ _ j
    cases k with
    | zero =>
      obtain rfl : i = M := by omega
      simp (maxSteps := 1000000) (disch := first | (simp; done) | (simp only [IHeap.size_push', IHeap.size_set']; omega) | omega) [e0, e1, e3, e10, e11, hn, hd]
      exact .inl j
    | succ k =>
      have hlt : (i : Int) < M := by omega
      simp (maxSteps := 1000000) (disch := first | (simp; done) | (simp only [IHeap.size_push', IHeap.size_set']; omega) | omega) [e0, e1, e3, e10, e11, hn, hd, g1, hlt]
      refine RN.mono (hJ i h3 hm (by omega) j) ?_
      rintro v h4 (⟨rfl, j4⟩ | ⟨rfl, s4⟩)
      · have g4 := hb _ _ j4
        have r := sq_rng (o := o) (s := s) (m := M) m7 i
        have e9 : (sq o s M i + s).tmod M = sq o s M (i + 1) := by
          rw [Int.tmod_eq_emod_of_nonneg (by omega)]; exact sq_succ o s M i
        have r2 := sq_rng (o := o) (s := s) (m := M) m7 (i + 1)
        have m0 : (M : Int) ≠ 0 := by omega
        have m0' : M ≠ 0 := by omega
        simp (maxSteps := 1000000) (disch := first | (simp; done) | (simp only [IHeap.size_push', IHeap.size_set']; omega) | omega) [e0, e1, e3, e10, e11, hn, hd, g4, wrap64, e9, m0, m0']
        refine ⟨k, by omega, i + 1, by omega, ?_⟩
        simp (maxSteps := 1000000) (disch := first | (simp; done) | (simp only [IHeap.size_push', IHeap.size_set']; omega) | omega) [e0, e1, e3, e10, e11, hn, hd, j4]
      · simp (maxSteps := 1000000) (disch := first | (simp; done) | (simp only [IHeap.size_push', IHeap.size_set']; omega) | omega) [e0, e1, e3, e10, e11, hn, hd]
        exact .inr s4
theorem slots_c {h : IHeap} (o s m : Int) : ICall Try.prog 18 #[pmV o s m] h (.func (.func 23) #[] #[.pointer (some ⟨h.size, 0, none⟩)]) (h.push (.row false 0 [.int .i64 o, .int .i64 s, .int .i64 m])) := by
  refine ICall.of_FN ?_
  refine FN.enter mixed (fn := Try.f18) (by kernel_rfl) rfl (by kernel_rfl) fun e hn hg hd => ?_
  simp [Try.f18] at hn
  have a0 : e.get 0 = pmV o s m := hg 0 (by omega)
  clear hg
  simp (maxSteps := 1000000) (disch := first | (simp; done) | (simp only [IHeap.size_push', IHeap.size_set']; omega) | omega) [a0, hn, hd, pmV]
def intsIn (l : List Int) (v : Value) (h : IHeap) : Prop := if l = [] then v = .slice none 0 0 else ∃ q, v = .slice (some ⟨q, 0, none⟩) l.length l.length ∧ h.get q = some (.row false 1 (ints l))
theorem zeros1 (v : Value) : zeros #[v] 1 = [v] := by simp [zeros]
theorem ni29 : notInt Try.prog 29 = true := by kernel_rfl
theorem ints_all : ∀ l : List Int, (ints l).all (·.oneCell') = true := fun l => by simp [ints, one_int]
theorem slots_ints (l : List Int) (n : Nat) (h : n = l.length) : slots (ints l) 0 n = some (ints l) := by
  rw [h, ← ints_len]; simp [slots]
theorem ints_app (l m : List Int) : ints l ++ ints m = ints (l ++ m) := by simp [ints]
/-- A slice of whole numbers, in a row of its own. -/
def slcI (l : List Int) (r : Nat) : Value := if l = [] then .slice none 0 0 else .slice (some ⟨r, 0, none⟩) l.length l.length
theorem slcI_succ (o s m : Int) (k r : Nat) : slcI (seqL o s m (k + 1)) r = .slice (some ⟨r, 0, none⟩) (k + 1) (k + 1) := by
  unfold slcI
  rw [if_neg (by intro h; have := congrArg List.length h; simp [seqL_len] at this), seqL_len]
theorem app29 {h : IHeap} {j r : Nat} {l : List Int} {x : Int} (hi : l ≠ [] → h.get r = some (.row false 1 (ints l))) (hj : h.get j = some (.row false 1 [.int .i64 x])) (hl : l.length < 100000) :
    ∃ h', iappend Try.prog h 29 29 (slcI l r) (.slice (some ⟨j, 0, none⟩) 1 1) = some (slcI (l ++ [x]) h.size, h') ∧ h'.size = h.size + 1 ∧ h'.get h.size = some (.row false 1 (ints (l ++ [x]))) ∧ ∀ i, i < h.size → (l ≠ [] → i ≠ r) → h'.get i = h.get i := by
  have hj : h.get j = some (.row false 1 (ints [x])) := hj
  have h4 := ints_all [x]
  have h5 := slots_ints [x] 1 rfl
  by_cases hc : l = []
  · subst hc
    refine ⟨h.push (.row false 1 (ints [x])), ?_, by simp only [IHeap.size_push'], by simp (maxSteps := 1000000) (disch := first | (simp; done) | (simp only [IHeap.size_push', IHeap.size_set']; omega) | omega) [], fun i hi _ => by simp (maxSteps := 1000000) (disch := first | (simp; done) | (simp only [IHeap.size_push', IHeap.size_set']; omega) | omega) []⟩
    simp [-Value.oneCell', slcI, iappend, asrcOf, srcOf, ni29, hj, h4, h5]
  · have hr := hi hc
    have hrz := IHeap.get_lt hr
    refine ⟨(h.set r .dead).push (.row false 1 (ints (l ++ [x]))), ?_, by simp only [IHeap.size_push', IHeap.size_set'], by simp (maxSteps := 1000000) (disch := first | (simp; done) | (simp only [IHeap.size_push', IHeap.size_set']; omega) | omega) [], fun i hi hir => ?_⟩
    · have h1 : ¬ l.length + 1 ≤ l.length := by omega
      have h2 : (l.length + 1) * 8 ≤ 140737488355328 ∧ l.length + 1 ≤ 4611686018427387904 := by omega
      have h3 := slots_ints l l.length rfl
      simp [-Value.oneCell', slcI, hc, iappend, asrcOf, srcOf, ni29, hj, hr, h4, h5, h1, h2, h3, ints_app]
    · have := hir hc
      simp (maxSteps := 1000000) (disch := first | (simp; done) | (simp only [IHeap.size_push', IHeap.size_set']; omega) | omega) [this, Ne.symm this]
structure AllJ (h0 : IHeap) (o s m n : Int) (L : Loop) (k : Nat) (h : IHeap) : Prop where
  size : h0.size + 6 ≤ h.size
  old : ∀ i, i < h0.size → h.get i = h0.get i
  gn : h.get (h0.size + 1) = some (.row false 0 [.int .i64 n])
  gp : h.get (h0.size + 2) = some (.row false 0 [.int .i64 o, .int .i64 s, .int .i64 m])
  gl : h.get (h0.size + 5) = some (.loop L)
  gd : h.get (h0.size + 4) = some .defs
  list : ∃ r, h.get (h0.size + 3) = some (.row false 0 [slcI (seqL o s m k) r]) ∧ (k ≠ 0 → h0.size + 6 ≤ r ∧ h.get r = some (.row false 1 (ints (seqL o s m k))))
def AllS (h0 : IHeap) (o s m n : Int) (L : Loop) (h : IHeap) : Prop := n < m ∧ AllJ h0 o s m n { L with state := .done, pending := some (.exit 0) } (n.toNat + 1) h
def allK (o s m n : Int) : Nat := if mayB o s m then min m.toNat (n.toNat + 1) else 0
def AllP (h : IHeap) (o s m n : Int) (v : Value) (h' : IHeap) : Prop := Fr h h' [] ∧ ∃ r, v = .tuple #[slcI (seqL o s m (allK o s m n)) r, .bool true] ∧ (allK o s m n ≠ 0 → h.size ≤ r ∧ h'.get r = some (.row false 1 (ints (seqL o s m (allK o s m n)))))
theorem all_c {h : IHeap} (o s m n : Int) (hn0 : 0 ≤ n) : FN Try.prog 11 #[pmV o s m, .int .i64 n] h (Q := ⟨fun v h' => AllP h o s m n v h'⟩) := by
  refine FN.enter mixed (fn := Try.f11) (by kernel_rfl) rfl (by kernel_rfl) fun e hn hg hd => ?_
  simp [Try.f11] at hn
  have a0 : e.get 0 = pmV o s m := hg 0 (by omega)
  have a1 : e.get 1 = .int .i64 n := hg 1 (by omega)
  clear hg
  simp (maxSteps := 1000000) (disch := first | (simp; done) | (simp only [IHeap.size_push', IHeap.size_set']; omega) | omega) [a0, a1, hn, hd, pmV, one_int]
  refine FN.of (slots_c o s m) ?_
  simp (maxSteps := 1000000) (disch := first | (simp; done) | (simp only [IHeap.size_push', IHeap.size_set']; omega) | omega) [a0, a1, hn, hd, pmV, one_int]
  refine WPR.gen fun E H hE hH => ?_
  have E2 : E.get 2 = .pointer (some ⟨h.size, 0, none⟩) := by rw [hE]; simp (maxSteps := 1000000) (disch := first | (simp; done) | (simp only [IHeap.size_push', IHeap.size_set']; omega) | omega) [hn]
  have E3 : E.get 3 = .pointer (some ⟨h.size + 1, 0, none⟩) := by rw [hE]; simp (maxSteps := 1000000) (disch := first | (simp; done) | (simp only [IHeap.size_push', IHeap.size_set']; omega) | omega) [hn]
  have E4 : E.get 4 = .slice none 0 0 := by rw [hE]; simp (maxSteps := 1000000) (disch := first | (simp; done) | (simp only [IHeap.size_push', IHeap.size_set']; omega) | omega) [hn]
  have E7 : E.get 7 = .pointer (some ⟨h.size + 1 + 1 + 1, 0, none⟩) := by rw [hE]; simp (maxSteps := 1000000) (disch := first | (simp; done) | (simp only [IHeap.size_push', IHeap.size_set']; omega) | omega) [hn]
  have E13 : E.get 13 = .func (.func 23) #[] #[.pointer (some ⟨h.size + 1 + 1, 0, none⟩)] := by rw [hE]; simp (maxSteps := 1000000) (disch := first | (simp; done) | (simp only [IHeap.size_push', IHeap.size_set']; omega) | omega) [hn]
  have En : E.n = 24 := by rw [hE]; simp (maxSteps := 1000000) (disch := first | (simp; done) | (simp only [IHeap.size_push', IHeap.size_set']; omega) | omega) [hn]
  have Ed : E.dfr = [] := by rw [hE]; simp (maxSteps := 1000000) (disch := first | (simp; done) | (simp only [IHeap.size_push', IHeap.size_set']; omega) | omega) [hd]
  have Hz : H.size = h.size + 4 := by rw [hH]; simp (maxSteps := 1000000) (disch := first | (simp; done) | (simp only [IHeap.size_push', IHeap.size_set']; omega) | omega) []
  have Ho : ∀ i, i < h.size → H.get i = h.get i := fun i hi => by rw [hH]; simp (maxSteps := 1000000) (disch := first | (simp; done) | (simp only [IHeap.size_push', IHeap.size_set']; omega) | omega) []
  have H1 : H.get (h.size + 1) = some (.row false 0 [.int .i64 n]) := by rw [hH]; simp (maxSteps := 1000000) (disch := first | (simp; done) | (simp only [IHeap.size_push', IHeap.size_set']; omega) | omega) []
  have H2 : H.get (h.size + 2) = some (.row false 0 [.int .i64 o, .int .i64 s, .int .i64 m]) := by rw [hH]; simp (maxSteps := 1000000) (disch := first | (simp; done) | (simp only [IHeap.size_push', IHeap.size_set']; omega) | omega) []
  have H3 : H.get (h.size + 3) = some (.row false 0 [.slice none 0 0]) := by rw [hH]; simp (maxSteps := 1000000) (disch := first | (simp; done) | (simp only [IHeap.size_push', IHeap.size_set']; omega) | omega) []
  clear hH hE hn hd a0 a1
  refine WPR.intro2 (cs := #[.pointer (some ⟨h.size + 2, 0, none⟩)]) (fs := #[]) rfl E13 (by simp) rfl ?_
  intro L Lp Lt LA LB Ls Ln
  refine FN.mono (iter_c o s m (fun k h' => (k : Int) ≤ n ∧ AllJ h o s m n L k h') (fun h' => AllS h o s m n L h') (fun k h' j => j.2.gp) ?_ ?_ ?_) ?_
  · rintro k h1 hm hk ⟨hkn0, j⟩
    obtain ⟨m7, mm, _⟩ := may_ge hm
    have gl := j.gl
    refine RN.one mixed (E := E) (by rw [Hz]; exact gl) Lp Lt LA LB (by kernel_rfl) (by kernel_rfl) ?_
    intro r rn rd rg
    have r3 := rg 3
    have r7 := rg 7
    rw [E3] at r3; rw [E7] at r7
    rw [En] at rn
    simp (maxSteps := 1000000) (disch := first | (simp; done) | (simp only [IHeap.size_push', IHeap.size_set']; omega) | omega) [rn, rd, r3, r7, assignQ]
    refine ⟨L, by rw [Hz]; exact gl, Ls, ?_⟩
    obtain ⟨q, g3, gr⟩ := j.list
    have jz := j.size
    have jn := j.gn
    simp (maxSteps := 1000000) (disch := first | (simp; done) | (simp only [IHeap.size_push', IHeap.size_set']; omega) | omega) [rn, rd, r3, r7, g3, Hz, zeros1]
    obtain ⟨h2, ap, hz2, hg2, ho2⟩ := app29 (h := (h1.set (h.size + 4 + 1) (.loop { L with state := .busy })).push (.row false 1 [.int .i64 (sq o s m k)])) (j := h1.size) (r := q) (l := seqL o s m k) (x := sq o s m k) (fun hc => by
      have hk0 : k ≠ 0 := fun h => hc (by rw [h]; rfl)
      obtain ⟨q1, q2⟩ := gr hk0
      have q3 := IHeap.get_lt q2
      simp (maxSteps := 1000000) (disch := first | (simp; done) | (simp only [IHeap.size_push', IHeap.size_set']; omega) | omega) [q2]) (by simp (maxSteps := 1000000) (disch := first | (simp; done) | (simp only [IHeap.size_push', IHeap.size_set']; omega) | omega) []) (by rw [seqL_len]; omega)
    simp only [IHeap.size_push', IHeap.size_set', ← seqL_succ] at ap hz2 hg2 ho2
    have g5 : h2.get (h.size + 3) = some (.row false 0 [slcI (seqL o s m k) q]) := by
      rw [ho2 _ (by omega) (fun hc => by
        have hk0 : k ≠ 0 := fun h => hc (by rw [h]; rfl)
        have := (gr hk0).1
        omega)]
      simp (maxSteps := 1000000) (disch := first | (simp; done) | (simp only [IHeap.size_push', IHeap.size_set']; omega) | omega) [g3]
    rw [slcI_succ] at ap
    have g6 : h2.get (h.size + 1) = some (.row false 0 [.int .i64 n]) := by
      rw [ho2 _ (by omega) (fun hc => by
        have hk0 : k ≠ 0 := fun h => hc (by rw [h]; rfl)
        have := (gr hk0).1
        omega)]
      simp (maxSteps := 1000000) (disch := first | (simp; done) | (simp only [IHeap.size_push', IHeap.size_set']; omega) | omega) [jn]
    have gl2 : h2.get (h.size + 4 + 1) = some (.loop { L with state := .busy }) := by
      rw [ho2 _ (by omega) (fun hc => by
        have hk0 : k ≠ 0 := fun h => hc (by rw [h]; rfl)
        have := (gr hk0).1
        omega)]
      simp (maxSteps := 1000000) (disch := first | (simp; done) | (simp only [IHeap.size_push', IHeap.size_set']; omega) | omega) []
    have go2 : ∀ i, i < h.size → h2.get i = h.get i := fun i hi => by
      rw [ho2 _ (by omega) (fun hc => by
        have hk0 : k ≠ 0 := fun h => hc (by rw [h]; rfl)
        have := (gr hk0).1
        omega)]
      simp (maxSteps := 1000000) (disch := first | (simp; done) | (simp only [IHeap.size_push', IHeap.size_set']; omega) | omega) []
      exact j.old i hi
    have gp2 : h2.get (h.size + 2) = some (.row false 0 [.int .i64 o, .int .i64 s, .int .i64 m]) := by
      rw [ho2 _ (by omega) (fun hc => by
        have hk0 : k ≠ 0 := fun h => hc (by rw [h]; rfl)
        have := (gr hk0).1
        omega)]
      have := j.gp
      simp (maxSteps := 1000000) (disch := first | (simp; done) | (simp only [IHeap.size_push', IHeap.size_set']; omega) | omega) [this]
    have gd2 : h2.get (h.size + 4) = some .defs := by
      rw [ho2 _ (by omega) (fun hc => by
        have hk0 : k ≠ 0 := fun h => hc (by rw [h]; rfl)
        have := (gr hk0).1
        omega)]
      have := j.gd
      simp (maxSteps := 1000000) (disch := first | (simp; done) | (simp only [IHeap.size_push', IHeap.size_set']; omega) | omega) [this]
    have hall : ∀ (L' : Loop), AllJ h o s m n L' (k + 1) ((h2.set (h.size + 1 + 1 + 1) (.row false 0 [.slice (some ⟨h1.size + 1, 0, none⟩) (k + 1) (k + 1)])).set (h.size + 4 + 1) (.loop L')) := by
      intro L'
      refine ⟨by simp only [IHeap.size_set']; omega, fun i hi => ?_, ?_, ?_, ?_, ?_, h1.size + 1, ?_, fun _ => ⟨by omega, ?_⟩⟩
      · rw [IHeap.get_set_ne _ (by omega), IHeap.get_set_ne _ (by omega)]; exact go2 i hi
      · simp (maxSteps := 1000000) (disch := first | (simp; done) | (simp only [IHeap.size_push', IHeap.size_set']; omega) | omega) [g6]
      · simp (maxSteps := 1000000) (disch := first | (simp; done) | (simp only [IHeap.size_push', IHeap.size_set']; omega) | omega) [gp2]
      · simp (maxSteps := 1000000) (disch := first | (simp; done) | (simp only [IHeap.size_push', IHeap.size_set']; omega) | omega) []
      · simp (maxSteps := 1000000) (disch := first | (simp; done) | (simp only [IHeap.size_push', IHeap.size_set']; omega) | omega) [gd2]
      · rw [slcI_succ]; simp (maxSteps := 1000000) (disch := first | (simp; done) | (simp only [IHeap.size_push', IHeap.size_set']; omega) | omega) []
      · simp (maxSteps := 1000000) (disch := first | (simp; done) | (simp only [IHeap.size_push', IHeap.size_set']; omega) | omega) [hg2]
    by_cases hkn : n < (k : Int) + 1
    · simp (maxSteps := 1000000) (disch := first | (simp; done) | (simp only [IHeap.size_push', IHeap.size_set']; omega) | omega) [rn, rd, r3, r7, g3, Hz, ap, g5, g6, hkn, bodyQ, one_slc, gl2]
      have e9 : n.toNat + 1 = k + 1 := by omega
      refine ⟨by omega, ?_⟩
      rw [e9]
      exact hall _
    simp (maxSteps := 1000000) (disch := first | (simp; done) | (simp only [IHeap.size_push', IHeap.size_set']; omega) | omega) [rn, rd, r3, r7, g3, Hz, ap, g5, g6, hkn, bodyQ, one_slc, gl2]
    have eL : ({ state := .ready, pending := none, fn := L.fn, tmps := L.tmps, params := L.params, assign := L.assign, body := L.body, defers := L.defers } : Loop) = L := by
      rw [← Ls, ← Ln]
    rw [eL]
    exact ⟨by omega, hall L⟩
  · rintro k h1 h2 ⟨hkn, j⟩ fr
    have jz := j.size
    refine ⟨hkn, ⟨by have := fr.size; omega, fun i hi => ?_, ?_, ?_, ?_, ?_, ?_⟩⟩
    · rw [fr.get i (by omega)]; exact j.old i hi
    · rw [fr.get _ (by omega)]; exact j.gn
    · rw [fr.get _ (by omega)]; exact j.gp
    · rw [fr.get _ (by omega)]; exact j.gl
    · rw [fr.get _ (by omega)]; exact j.gd
    · obtain ⟨r, r1, r2⟩ := j.list
      refine ⟨r, by rw [fr.get _ (by omega)]; exact r1, fun hk => ⟨(r2 hk).1, by rw [fr.get _ (IHeap.get_lt (r2 hk).2)]; exact (r2 hk).2⟩⟩
  · refine ⟨by omega, ⟨by simp only [IHeap.size_push']; omega, fun i hi => ?_, ?_, ?_, ?_, ?_, 0, ?_, fun h => absurd rfl h⟩⟩
    · have := Ho i hi
      simp (maxSteps := 1000000) (disch := first | (simp; done) | (simp only [IHeap.size_push', IHeap.size_set']; omega) | omega) [this]
    · simp (maxSteps := 1000000) (disch := first | (simp; done) | (simp only [IHeap.size_push', IHeap.size_set']; omega) | omega) [H1]
    · simp (maxSteps := 1000000) (disch := first | (simp; done) | (simp only [IHeap.size_push', IHeap.size_set']; omega) | omega) [H2]
    · simp (maxSteps := 1000000) (disch := first | (simp; done) | (simp only [IHeap.size_push', IHeap.size_set']; omega) | omega) [Hz]
    · simp (maxSteps := 1000000) (disch := first | (simp; done) | (simp only [IHeap.size_push', IHeap.size_set']; omega) | omega) [Hz]
    · simp (maxSteps := 1000000) (disch := first | (simp; done) | (simp only [IHeap.size_push', IHeap.size_set']; omega) | omega) [H3, slcI, seqL]
  · rintro v h3 hp
    simp only [Hid.ap_mk] at hp ⊢
    have hk : ∃ L' : Loop, AllJ h o s m n L' (allK o s m n) h3 ∧ L'.state ≠ .busy ∧ ∃ x, xpend L'.pending = some x ∧ outOf 0 x = .normal := by
      unfold allK
      cases hm : mayB o s m
      · rw [hm, if_neg (by simp)] at hp
        exact ⟨L, hp.2, by rw [Ls]; simp, .normal, by rw [Ln]; rfl, rfl⟩
      · rw [hm, if_pos rfl] at hp
        obtain ⟨m7, mm, _⟩ := may_ge hm
        rcases hp with ⟨h1, h2⟩ | ⟨h1, h2⟩
        · exact ⟨L, by rw [if_pos rfl, Nat.min_eq_left (by omega)]; exact h2, by rw [Ls]; simp, .normal, by rw [Ln]; rfl, rfl⟩
        · exact ⟨_, by rw [if_pos rfl, Nat.min_eq_right (by omega)]; exact h2, by simp, .exit 0, rfl, rfl⟩
    obtain ⟨L', j, hs, x, hx, ho⟩ := hk
    have jz := j.size
    have gl := j.gl
    obtain ⟨q, g3, gr⟩ := j.list
    refine ⟨L', by rw [Hz]; exact gl, hs, x, hx, ?_⟩
    simp only [Hid.ap_mk, ho]
    have gd := j.gd
    generalize hkk : allK o s m n = k at j g3 gr
    obtain ⟨E', hE', n', d', g'⟩ := XEnv.withd E (markOf H.size :: E.dfr)
    rw [hE']
    have E3' := g' 3
    have E7' := g' 7
    rw [E3] at E3'; rw [E7] at E7'; rw [En] at n'; rw [Ed] at d'
    have gd' : (h3.set (H.size + 1) (.loop { L' with state := .exhausted })).get H.size = some .defs := by simp (maxSteps := 1000000) (disch := first | (simp; done) | (simp only [IHeap.size_push', IHeap.size_set']; omega) | omega) [Hz, gd]
    rw [Hz] at gd'
    simp (maxSteps := 1000000) (disch := first | (simp; done) | (simp only [IHeap.size_push', IHeap.size_set']; omega) | omega) [E3', E7', n', d', Hz, g3, finD_one gd', one_bool]
    refine ⟨⟨by simp only [IHeap.size_set']; omega, fun i hi => ?_⟩, q, by rw [hkk], fun hk => ?_⟩
    · rw [IHeap.get_set_ne _ (by omega), IHeap.get_set_ne _ (by omega)]; exact j.old i hi
    · rw [hkk] at hk ⊢
      obtain ⟨q1, q2⟩ := gr hk
      refine ⟨by omega, ?_⟩
      rw [IHeap.get_set_ne _ (by omega), IHeap.get_set_ne _ (by omega)]; exact q2
end Go.Proofs.Ytfgaggpfdckggaa.Ideal
