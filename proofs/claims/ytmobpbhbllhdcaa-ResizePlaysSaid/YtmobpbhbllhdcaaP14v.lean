import Derived.Test.YtmobpbhbllhdcaaP14u
noncomputable section
open Go.Proofs
namespace Go.Proofs.Ytmobpbhbllhdcaa.Ideal
open Go.RowKit
set_option linter.unusedSimpArgs false
set_option linter.unusedVariables false
set_option linter.unusedSectionVars false
set_option maxRecDepth 100000
set_option maxHeartbeats 4000000
attribute [-simp] IHeap.size_set IHeap.size_push
attribute [local simp ↓] Hid.ap_mk
attribute [local simp] scopeQ_normal scopeQ_ret scopeQ_exit WP_skip WP_label WP_exit WP_goto WP_ret WP_region WP_seq WP_cond WP_block WP_scope WP_loop WP_range thenQ_normal thenQ_ret thenQ_exit thenQ_goto loopQ_normal loopQ_ret loopQ_exit invQ_normal invQ_ret invQ_exit outOf_normal outOf_ret outOf_goto outOf_exit ev_tmp ev_const ev_func
  wops_nil wops_cons wantedE_none wantedE_some jgd_some wnx_eq niC_false wdo_move wdo_assign wdo_pick wdo_load wdo_store wdo_alloc wdo_box wdo_fieldAddr wdo_indexAddr wdo_field wdo_extract wdo_build wdo_buildSlice wdo_makeSlice wdo_binOp wdo_unOp wdo_makeFunc wdo_nilCheck wdo_callV wdo_len wdo_append wdo_copy wdo_delete wdo_max wdo_min wdo_convert jcvt_int
  xput_get put_n put_none put_dfr ibin finQ_n finQ_r finD_nil splice_one ires_nil ires_one ires_two ires_three ires1_tmp ires1_cell jcell_ptr rowLoad_row wrap64 wrapU64 wrapU8 wrapU16 wrapU32 callV_fn buildOf Instr.fill Value.cells Value.oneCell' kindOf slots_all splice_all IHeap.size_set' IHeap.size_push' IHeap.get_set_same IHeap.get_set_ne IHeap.get_pushed IHeap.get_push_ne IHeap.set_set IHeap.set_push IHeap.set_pushed IHeap.set_set3 getU_nil getU_same getU_ne jif_true jif_false pushH_eq setH_eq forceL_eq forceV_eq ibuildSlice
attribute [local simp] wdo_index jopt_some
attribute [-simp] Value.oneCell'
attribute [local simp] one_int' one_ptr'
/-- The entries at the full places. -/
def fl (l : List PL) : List (Int × Int) := (l.filter fun c => decide (c.2.2 = 1)).map fun c => (c.1, c.2.1)
theorem fl_app (a b : List PL) : fl (a ++ b) = fl a ++ fl b := by simp [fl]
theorem fl_take {l : List PL} {k : Nat} {c : PL} (h : l[k]? = some c) : fl (l.take (k + 1)) = fl (l.take k) ++ (if c.2.2 = 1 then [(c.1, c.2.1)] else []) := by
  rw [List.take_add_one, h, fl_app]
  congr 1
  by_cases e : c.2.2 = 1 <;> simp [fl, e]
theorem fl_len (l : List PL) : (fl l).length = (fullL l).countP id := by
  induction l with
  | nil => rfl
  | cons c l ih =>
    by_cases e : c.2.2 = 1
    · simpa [fl, fullL, e] using ih
    · simpa [fl, fullL, e] using ih
theorem fl_le (l : List PL) : (fl l).length ≤ l.length := by
  simp only [fl, List.length_map]
  exact List.length_filter_le _ _
def slcE (l : List (Int × Int)) (r : Nat) : Value := if l = [] then .slice none 0 0 else .slice (some ⟨r, 0, none⟩) l.length l.length
def adrE (l : List (Int × Int)) (r : Nat) : Option Addr := if l = [] then none else some ⟨r, 0, none⟩
theorem slcE_eq (l : List (Int × Int)) (r : Nat) : slcE l r = .slice (adrE l r) l.length l.length := by
  unfold slcE adrE
  by_cases h : l = [] <;> simp [h]
theorem appE {h : IHeap} {j r : Nat} {l : List (Int × Int)} {a b : Int} (hi : l ≠ [] → h.get r = some (.row false 2 (ents l))) (hj : h.get j = some (.row false 2 [.int .u64 a, .int .u32 b])) (hl : l.length < 100000) :
    ∃ h', iappend Try.prog h 76 76 (slcE l r) (.slice (some ⟨j, 0, none⟩) 1 1) = some (slcE (l ++ [(a, b)]) h.size, h') ∧ h'.size = h.size + 1 ∧ h'.get h.size = some (.row false 2 (ents (l ++ [(a, b)]))) ∧ ∀ i, i < h.size → (l ≠ [] → i ≠ r) → h'.get i = h.get i := by
  have hx := src_row (h := h) (s := 2) (q := 0) (m := 1) (c := 1) hj (slots_full _ (by rfl)) (by omega)
  have ea : ∀ l : List (Int × Int), ents (l ++ [(a, b)]) = ents l ++ [.int .u64 a, .int .u32 b] := fun l => by
    induction l with
    | nil => rfl
    | cons c l ih => simp [ents, ih]
  by_cases hc : l = []
  · subst hc
    refine ⟨h.push (.row false 2 (ents [(a, b)])), ?_, by simp only [IHeap.size_push'], by simp (maxSteps := 1000000) (disch := first | (simp; done) | (simp only [IHeap.size_push', IHeap.size_set']; omega) | omega) [], fun i hi _ => by simp (maxSteps := 1000000) (disch := first | (simp; done) | (simp only [IHeap.size_push', IHeap.size_set']; omega) | omega) []⟩
    have := iapp_nil (P := Try.prog) (h := h) (t := 76) (t2 := 76) sl76 ze32 bt32 (by rfl) (by omega) ni74 hx (by simp [one_int]) (by omega) (by omega)
    simpa [slcE, ents] using this
  · have hr := hi hc
    have hrz := IHeap.get_lt hr
    refine ⟨(h.set r .dead).push (.row false 2 (ents (l ++ [(a, b)]))), ?_, by simp only [IHeap.size_push', IHeap.size_set'], by simp (maxSteps := 1000000) (disch := first | (simp; done) | (simp only [IHeap.size_push', IHeap.size_set']; omega) | omega) [], fun i hi hir => ?_⟩
    · have := iapp_grow (P := Try.prog) (t := 76) (t2 := 76) (c := l.length) (n := l.length) (q := 0) (olds := ents l) sl76 ze32 bt32 (by rfl) (by omega) ni74 hx (by simp [one_int]) (by omega) (by omega) hr (.inr rfl) (slots_full _ (by rw [ents_len]))
      simpa [slcE, hc, ea] using this
    · have := hir hc
      simp (maxSteps := 1000000) (disch := first | (simp; done) | (simp only [IHeap.size_push', IHeap.size_set']; omega) | omega) [this, Ne.symm this]
def WAllQ (g : GT) (h : IHeap) (v : Value) (h' : IHeap) : Prop := Fr h h' [] ∧ ∃ r, v = slcE (fl g.allP) r ∧ (fl g.allP ≠ [] → h'.get r = some (.row false 2 (ents (fl g.allP))))
theorem wall_c {g : GT} {h : IHeap} {W pw pw' : Nat} (x : WAt g h W pw pw') (ok : GOK g) : FN Try.prog 50 #[.pointer (some ⟨W, 0, none⟩)] h (Q := ⟨fun v h' => WAllQ g h v h'⟩) := by
  have lb := ok.l.le
  refine FN.enter mixed (fn := Try.f50) (by kernel_rfl) rfl (by kernel_rfl) fun e hn hg hd => ?_
  simp [Try.f50] at hn
  have a0 : e.get 0 = .pointer (some ⟨W, 0, none⟩) := hg 0 (by omega)
  clear hg
  simp (maxSteps := 1000000) (disch := first | (simp; done) | (simp only [IHeap.size_push', IHeap.size_set']; omega) | omega) [a0, hn, hd]
  refine WPL.by_inv mixed (by kernel_rfl) (fun k e h' => ∃ (i r : Nat), i + k = g.now.ps.length ∧ e.n = 83 ∧ e.dfr = [] ∧ e.get 0 = .pointer (some ⟨W, 0, none⟩) ∧ e.get 3 = slcE (fl (g.now.ps.take i)) r ∧ e.get 4 = .int .i64 i ∧ Fr h h' [] ∧ (fl (g.now.ps.take i) ≠ [] → h.size ≤ r ∧ h'.get r = some (.row false 2 (ents (fl (g.now.ps.take i)))))) g.now.ps.length ?_ ?_
  · refine ⟨0, 0, ?_⟩
    simp (maxSteps := 1000000) (disch := first | (simp; done) | (simp only [IHeap.size_push', IHeap.size_set']; omega) | omega) [a0, hn, hd, slcE, fl]
    exact Fr.refl _
  clear hn hd a0 e
  rintro k e h1 ⟨i, r, hi, hn, hd, e0, e3, e4, fr, hr⟩
  have hz1 := fr.size
  have x1 := x.keep fr
  have gW := x1.gW
  obtain ⟨rf, rm, re, xn⟩ := x1.now
  have gp := xn.gp
  cases k with
  | succ k =>
    have hlt : (i : Int) < g.now.ps.length := by omega
    have hlt2 : i < g.now.ps.length := by omega
    obtain ⟨c, hcc⟩ : ∃ c, g.now.ps[i]? = some c := ⟨_, List.getElem?_eq_getElem hlt2⟩
    have gf := xn.gf
    have ge := xn.ge
    have bf := bools_get (fullL_get hcc)
    have es := ents_slots (entL_get hcc)
    have ft := fl_take hcc
    by_cases hz : c.2.2 = 1
    · rw [if_pos hz] at ft
      simp (maxSteps := 1000000) (disch := first | (simp; done) | (simp only [IHeap.size_push', IHeap.size_set']; omega) | omega) [e0, e3, e4, hn, hd, gW, gp, hlt, gf, ge, bf, es, hz, zeros, one_int]
      obtain ⟨h2, ap, hz2, hg2, ho2⟩ := appE (h := h1.push (.row false 2 [.int .u64 c.1, .int .u32 c.2.1])) (j := h1.size) (r := r) (l := fl (g.now.ps.take i)) (a := c.1) (b := c.2.1) (fun hc => by
        obtain ⟨q1, q2⟩ := hr hc
        have q3 := IHeap.get_lt q2
        simp (maxSteps := 1000000) (disch := first | (simp; done) | (simp only [IHeap.size_push', IHeap.size_set']; omega) | omega) [q2]) (by simp (maxSteps := 1000000) (disch := first | (simp; done) | (simp only [IHeap.size_push', IHeap.size_set']; omega) | omega) []) (by
        have h1 := fl_le (g.now.ps.take i)
        have h2 : (g.now.ps.take i).length ≤ g.now.ps.length := by simp; omega
        omega)
      simp only [IHeap.size_push'] at ap hz2 hg2 ho2
      rw [ap]
      simp (maxSteps := 1000000) (disch := first | (simp; done) | (simp only [IHeap.size_push', IHeap.size_set']; omega) | omega) [e0, e4, hn, hd, wrap64]
      refine ⟨k, by omega, i + 1, by omega, h1.size + 1, by rw [ft], by omega, ⟨by omega, fun a ha => ?_⟩, fun _ => ⟨by omega, by rw [ft]; exact hg2⟩⟩
      rw [ho2 a (by omega) (fun hc => by
        have := (hr hc).1
        omega), IHeap.get_push_ne _ (by omega)]
      exact fr.get a ha
    · rw [if_neg hz, List.append_nil] at ft
      simp (maxSteps := 1000000) (disch := first | (simp; done) | (simp only [IHeap.size_push', IHeap.size_set']; omega) | omega) [e0, e3, e4, hn, hd, gW, gp, hlt, gf, ge, bf, es, hz, wrap64]
      exact ⟨k, by omega, i + 1, by omega, r, by rw [ft], by omega, fr, by rw [ft]; exact hr⟩
  | zero =>
    obtain rfl : i = g.now.ps.length := by omega
    rw [List.take_length] at e3 hr
    simp (maxSteps := 1000000) (disch := first | (simp; done) | (simp only [IHeap.size_push', IHeap.size_set']; omega) | omega) [e0, e3, e4, hn, hd, gW, gp]
    clear gW gp xn x1 hi
    refine WPL.by_inv mixed (by kernel_rfl) (fun k e h' => ∃ (i r : Nat), i + k = g.nxT.ps.length ∧ e.n = 83 ∧ e.dfr = [] ∧ e.get 0 = .pointer (some ⟨W, 0, none⟩) ∧ e.get 3 = slcE (fl g.now.ps ++ fl (g.nxT.ps.take i)) r ∧ e.get 5 = .int .i64 i ∧ Fr h h' [] ∧ (fl g.now.ps ++ fl (g.nxT.ps.take i) ≠ [] → h.size ≤ r ∧ h'.get r = some (.row false 2 (ents (fl g.now.ps ++ fl (g.nxT.ps.take i)))))) g.nxT.ps.length ?_ ?_
    · refine ⟨0, r, ?_⟩
      have f0 : fl g.now.ps ++ fl (g.nxT.ps.take 0) = fl g.now.ps := by simp [fl]
      rw [f0]
      simp (maxSteps := 1000000) (disch := first | (simp; done) | (simp only [IHeap.size_push', IHeap.size_set']; omega) | omega) [e0, e3, hn, hd]
      exact ⟨fr, hr⟩
    clear hn hd e0 e3 e4 e fr hr hz1 h1 r
    rintro k e h1 ⟨i, r, hi, hn, hd, e0, e3, e5, fr, hr⟩
    have hz1 := fr.size
    have x1 := x.keep fr
    have gW := x1.gW
    have fin : WAllQ g h (slcE (fl g.allP) r) h1 ∨ i < g.nxT.ps.length := by
      by_cases hlt : i < g.nxT.ps.length
      · exact .inr hlt
      · obtain rfl : i = g.nxT.ps.length := by omega
        rw [List.take_length, ← fl_app] at hr
        exact .inl ⟨fr, r, rfl, fun hc => (hr hc).2⟩
    cases hx : g.nx with
    | none =>
      rw [hx] at gW
      rw [nxT_none hx] at hi fin
      obtain ⟨rfl, rfl⟩ : i = 0 ∧ k = 0 := by simp at hi; omega
      have e3' : slcE (fl g.now.ps ++ fl (g.nxT.ps.take 0)) r = slcE (fl g.allP) r := by
        rw [GT.allP, nxT_none hx]
        simp [fl]
      rw [e3'] at e3
      simp (maxSteps := 1000000) (disch := first | (simp; done) | (simp only [IHeap.size_push', IHeap.size_set']; omega) | omega) [e0, e3, e5, hn, hd, gW, undef]
      exact fin.elim id (fun h => by simp at h)
    | some t =>
      obtain ⟨⟨rf, rm, re, xx⟩, ne⟩ := x1.nx t hx
      obtain ⟨t1, t2, t3⟩ := ok.x t hx
      have tl := t2.le
      have gp := xx.gp
      rw [hx, nxA_some hx] at gW
      rw [nxT_some hx] at hi fin e3 hr
      cases k with
      | zero =>
        obtain rfl : i = t.ps.length := by omega
        rw [List.take_length, ← nxT_some hx, ← fl_app] at e3
        change e.get 3 = slcE (fl g.allP) r at e3
        simp (maxSteps := 1000000) (disch := first | (simp; done) | (simp only [IHeap.size_push', IHeap.size_set']; omega) | omega) [e0, e3, e5, hn, hd, gW, gp]
        exact fin.elim id (fun h => by omega)
      | succ k =>
        have hlt : (i : Int) < t.ps.length := by omega
        have hlt2 : i < t.ps.length := by omega
        obtain ⟨c, hcc⟩ : ∃ c, t.ps[i]? = some c := ⟨_, List.getElem?_eq_getElem hlt2⟩
        have gf := xx.gf
        have ge := xx.ge
        have bf := bools_get (fullL_get hcc)
        have es := ents_slots (entL_get hcc)
        have ft := fl_take hcc
        by_cases hz : c.2.2 = 1
        · rw [if_pos hz] at ft
          simp (maxSteps := 1000000) (disch := first | (simp; done) | (simp only [IHeap.size_push', IHeap.size_set']; omega) | omega) [e0, e3, e5, hn, hd, gW, gp, hlt, gf, ge, bf, es, hz, zeros, one_int]
          obtain ⟨h2, ap, hz2, hg2, ho2⟩ := appE (h := h1.push (.row false 2 [.int .u64 c.1, .int .u32 c.2.1])) (j := h1.size) (r := r) (l := fl g.now.ps ++ fl (t.ps.take i)) (a := c.1) (b := c.2.1) (fun hc => by
            obtain ⟨q1, q2⟩ := hr hc
            have q3 := IHeap.get_lt q2
            simp (maxSteps := 1000000) (disch := first | (simp; done) | (simp only [IHeap.size_push', IHeap.size_set']; omega) | omega) [q2]) (by simp (maxSteps := 1000000) (disch := first | (simp; done) | (simp only [IHeap.size_push', IHeap.size_set']; omega) | omega) []) (by
              have h1 := fl_le (t.ps.take i)
              have h2 : (t.ps.take i).length ≤ t.ps.length := by simp; omega
              have h3 := fl_le g.now.ps
              rw [List.length_append]
              omega)
          simp only [IHeap.size_push'] at ap hz2 hg2 ho2
          rw [ap]
          simp (maxSteps := 1000000) (disch := first | (simp; done) | (simp only [IHeap.size_push', IHeap.size_set']; omega) | omega) [e0, e5, hn, hd, wrap64]
          rw [nxT_some hx]
          rw [List.append_assoc] at hg2
          refine ⟨k, by omega, i + 1, by omega, h1.size + 1, by rw [ft], by omega, ⟨by omega, fun a ha => ?_⟩, fun _ => ⟨by omega, by rw [ft]; exact hg2⟩⟩
          rw [ho2 a (by omega) (fun hc => by
            have := (hr hc).1
            omega), IHeap.get_push_ne _ (by omega)]
          exact fr.get a ha
        · rw [if_neg hz, List.append_nil] at ft
          simp (maxSteps := 1000000) (disch := first | (simp; done) | (simp only [IHeap.size_push', IHeap.size_set']; omega) | omega) [e0, e3, e5, hn, hd, gW, gp, hlt, gf, ge, bf, es, hz, wrap64]
          rw [nxT_some hx]
          exact ⟨k, by omega, i + 1, by omega, r, by rw [ft], by omega, fr, by rw [ft]; simpa using hr⟩
end Go.Proofs.Ytmobpbhbllhdcaa.Ideal
