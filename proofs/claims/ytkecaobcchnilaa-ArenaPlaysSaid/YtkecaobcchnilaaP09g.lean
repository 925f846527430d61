import Derived.Test.YtkecaobcchnilaaP09f
noncomputable section
open Go.Proofs
namespace Go.Proofs.Ytkecaobcchnilaa.Ideal
open Go.RowKit
set_option linter.unusedSimpArgs false
set_option linter.unusedVariables false
set_option linter.unusedSectionVars false
set_option linter.unnecessarySimpa false
set_option maxRecDepth 100000
set_option maxHeartbeats 2000000
attribute [-simp] IHeap.size_set IHeap.size_push
attribute [local simp ↓] Hid.ap_mk
attribute [local simp] scopeQ_normal scopeQ_ret scopeQ_exit WP_skip WP_label WP_exit WP_goto WP_ret WP_region WP_seq WP_cond WP_block WP_scope WP_loop WP_range thenQ_normal thenQ_ret thenQ_exit thenQ_goto loopQ_normal loopQ_ret loopQ_exit invQ_normal invQ_ret invQ_exit outOf_normal outOf_ret outOf_goto outOf_exit ev_tmp ev_const ev_func
  wops_nil wops_cons wantedE_none wantedE_some jgd_some wnx_eq niC_false wdo_move wdo_assign wdo_pick wdo_load wdo_store wdo_alloc wdo_box wdo_fieldAddr wdo_indexAddr wdo_field wdo_extract wdo_build wdo_buildSlice wdo_makeSlice wdo_binOp wdo_unOp wdo_makeFunc wdo_nilCheck wdo_callV wdo_len wdo_append wdo_copy wdo_delete wdo_max wdo_min wdo_convert jcvt_int
  xput_get put_n put_none put_dfr ibin finQ_n finQ_r finD_nil splice_one ires_nil ires_one ires_two ires_three ires1_tmp ires1_cell jcell_ptr rowLoad_row wrap64 wrapU64 wrapU8 wrapU16 wrapU32 callV_fn buildOf Instr.fill Value.cells Value.oneCell' kindOf slots_all splice_all IHeap.size_set' IHeap.size_push' IHeap.get_set_same IHeap.get_set_ne IHeap.get_pushed IHeap.get_push_ne IHeap.set_set IHeap.set_push IHeap.set_pushed IHeap.set_set3 getU_nil getU_same getU_ne jif_true jif_false pushH_eq setH_eq forceL_eq forceV_eq ibuildSlice
attribute [-simp] Value.oneCell'
attribute [local simp] wdo_cutV jopt_some
theorem zeros1 (v : Value) : zeros #[v] 1 = [v] := by simp [zeros]
def RA.lives (w : RA) (i s : Int) : Bool := decide (0 ≤ i) && decide (i < w.has.length) && !(s == 0) && (w.has.getD i.toNat 0 == s)
theorem rlive_c {h : IHeap} {p rh : Nat} {fv : Value} {w : RA} (ok : w.ok) (x : w.at h p rh fv) (i s : Int) : CT Try.prog 24 #[.pointer (some ⟨p, 0, none⟩), .agg #[.int .i64 i, .int .u64 s]] h (.bool (w.lives i s)) [] := by
  refine FN.enter mixed (fn := Try.f24) (by kernel_rfl) rfl (by kernel_rfl) fun e hn hg hd => ?_
  simp [Try.f24] at hn
  have a0 : e.get 0 = .pointer (some ⟨p, 0, none⟩) := hg 0 (by omega)
  have a1 : e.get 1 = .agg #[.int .i64 i, .int .u64 s] := hg 1 (by omega)
  clear hg
  have hp := x.gp
  have hh := x.gh
  have hpz := IHeap.get_lt hp
  have hhz := IHeap.get_lt hh
  have hlen := ok.len
  by_cases h1 : 0 ≤ i
  · obtain ⟨I, rfl⟩ : ∃ I : Nat, i = I := ⟨i.toNat, by omega⟩
    by_cases h2 : (I : Int) < w.has.length
    · have h3 : I < w.has.length := by omega
      have gi := u64s_get (List.getElem?_eq_getElem h3)
      by_cases h4 : s = 0
      · simp (maxSteps := 1000000) (disch := first | (simp; done) | (simp only [IHeap.size_push', IHeap.size_set']; omega) | omega) [a0, a1, hn, hd, hp, hh, h1, h2, h3, h4]
        refine ⟨niC_pend [] (by kernel_rfl) trivial, by simp [RA.lives], ⟨by simp <;> omega, fun i hi => by simp only [IHeap.get_set_if, IHeap.get_push, IHeap.size_set', IHeap.size_push', getU, ]; grind⟩⟩
      · simp (maxSteps := 1000000) (disch := first | (simp; done) | (simp only [IHeap.size_push', IHeap.size_set']; omega) | omega) [a0, a1, hn, hd, hp, hh, h1, h2, h3, h4, gi]
        refine ⟨niC_pend [] (by kernel_rfl) trivial, ?_, ⟨by simp <;> omega, fun i hi => by simp only [IHeap.get_set_if, IHeap.get_push, IHeap.size_set', IHeap.size_push', getU, ]; grind⟩⟩
        simp [RA.lives, h3, h4]
    · have h3 : ¬ I < w.has.length := by omega
      simp (maxSteps := 1000000) (disch := first | (simp; done) | (simp only [IHeap.size_push', IHeap.size_set']; omega) | omega) [a0, a1, hn, hd, hp, hh, h1, h2, h3]
      refine ⟨niC_pend [] (by kernel_rfl) trivial, by simp [RA.lives, h3], ⟨by simp <;> omega, fun i hi => by simp only [IHeap.get_set_if, IHeap.get_push, IHeap.size_set', IHeap.size_push', getU, ]; grind⟩⟩
  · simp (maxSteps := 1000000) (disch := first | (simp; done) | (simp only [IHeap.size_push', IHeap.size_set']; omega) | omega) [a0, a1, hn, hd, h1]
    refine ⟨niC_pend [] (by kernel_rfl) trivial, by simp [RA.lives, h1], ⟨by simp <;> omega, fun i hi => by simp only [IHeap.get_set_if, IHeap.get_push, IHeap.size_set', IHeap.size_push', getU, ]; grind⟩⟩
theorem app63a {h : IHeap} {p i : Nat} {fv : Value} {l : List Int} (hf : FrAt h p fv l) (hi : h.get i = some (.row false 1 [])) (hl : l.length ≤ 1000) :
    ∃ r' h', iappend Try.prog h 63 63 (.slice (some ⟨i, 0, none⟩) 0 0) fv = some (.slice (some ⟨r', 0, none⟩) l.length l.length, h') ∧ h'.get r' = some (.row false 1 (ints l)) ∧ (r' = i ∨ r' = h.size) ∧ h.size ≤ h'.size ∧ ∀ j, j < h.size → j ≠ i → h'.get j = h.get j := by
  have hz := IHeap.get_lt hi
  obtain ⟨A, c, rfl, hc, hA, hA2⟩ := hf
  by_cases hl0 : l = []
  · subst hl0
    refine ⟨i, h, ?_, hi, .inl rfl, Nat.le_refl _, fun j _ _ => rfl⟩
    have hs : srcOf h 1 (.slice A ([] : List Int).length c) = some (0, []) := by
      cases A with
      | none => rw [hA rfl]; rfl
      | some a => exact src_zero a c
    exact iapp_zero (P := Try.prog) (t := 63) (t2 := 63) (q := 0) sl63 ze3 bt3 (by rfl) (by omega) ni63 hs (by omega)
  · obtain ⟨r, rest, rfl, hrp, hr⟩ : ∃ r rest, A = some ⟨r, 0, none⟩ ∧ r ≠ p ∧ h.get r = some (.row false 1 (ints (l ++ rest))) := by
      cases A with
      | none => have := hA rfl; have := List.length_pos_iff.2 hl0; omega
      | some a => obtain ⟨r, rest, rfl, h1, h2⟩ := hA2 a rfl; exact ⟨r, rest, rfl, h1, h2⟩
    have hpos := List.length_pos_iff.2 hl0
    have hs : slots (ints (l ++ rest)) 0 (l.length * 1) = some (ints l) := by
      rw [Nat.mul_one, slots_take (by rw [ints_len]; simp)]
      simp [ints]
    have := iapp_grow (P := Try.prog) (t := 63) (t2 := 63) (c := 0) (n := 0) (q := 0) (olds := []) sl63 ze3 bt3 (by rfl) (by omega) ni63 (src_row (c := c) (m := l.length) hr hs (by omega)) (ints_all l) (by omega) (by omega) hi (.inr rfl) (by simp [slots])
    refine ⟨h.size, (h.set i .dead).push (.row false 1 (ints l)), by simpa using this, by simp (maxSteps := 1000000) (disch := first | (simp; done) | (simp only [IHeap.size_push', IHeap.size_set']; omega) | omega) [], .inr rfl, by simp only [IHeap.size_set', IHeap.size_push']; omega, fun j hj hji => by simp (maxSteps := 1000000) (disch := first | (simp; done) | (simp only [IHeap.size_push', IHeap.size_set']; omega) | omega) [hji, Ne.symm hji]⟩
theorem app63b {h : IHeap} {i j n : Nat} {l : List Int} {x : Int} (hi : h.get i = some (.row false 1 (ints l))) (hj : h.get j = some (.row false 1 [.int .i64 x])) (hn : n = l.length) (hl : l.length ≤ 1000) :
    iappend Try.prog h 63 63 (.slice (some ⟨i, 0, none⟩) n n) (.slice (some ⟨j, 0, none⟩) 1 1) = some (.slice (some ⟨h.size, 0, none⟩) (n + 1) (n + 1), (h.set i .dead).push (.row false 1 (ints (l ++ [x])))) := by
  subst hn
  have := iapp_grow (P := Try.prog) (t := 63) (t2 := 63) (c := l.length) (n := l.length) (q := 0) (olds := ints l) sl63 ze3 bt3 (by rfl) (by omega) ni63 (src_row (c := 1) (m := 1) hj (slots_full _ (by rfl)) (by omega)) (by simp [one_int]) (by omega) (by omega) hi (.inr rfl) (slots_full _ (by rw [ints_len]; omega))
  rw [this]
  simp [ints]
def RA.free (w : RA) (i s : Int) : RA := if w.lives i s then { w with has := w.has.set i.toNat 0, freed := w.freed ++ [i] } else w
theorem rfree_c {h : IHeap} {p rh : Nat} {fv : Value} {w : RA} (ok : w.ok) (x : w.at h p rh fv) (i s : Int) : FN Try.prog 14 #[.pointer (some ⟨p, 0, none⟩), .agg #[.int .i64 i, .int .u64 s]] h (Q := ⟨fun v h' => v = .int .i64 (if w.lives i s then 0 else 14) ∧ (∃ rh' fv', (w.free i s).at h' p rh' fv') ∧ Keep1 h h' p⟩) := by
  refine FN.enter mixed (fn := Try.f14) (by kernel_rfl) rfl (by kernel_rfl) fun e hn hg hd => ?_
  simp [Try.f14] at hn
  have a0 : e.get 0 = .pointer (some ⟨p, 0, none⟩) := hg 0 (by omega)
  have a1 : e.get 1 = .agg #[.int .i64 i, .int .u64 s] := hg 1 (by omega)
  clear hg
  have hp := x.gp
  have hpz := IHeap.get_lt hp
  have hh := x.gh
  have hhz := IHeap.get_lt hh
  have hne := x.ne
  obtain ⟨A, c, rfl, hc, hA, hA2⟩ := x.gf
  have hlen := ok.len
  have hlen2 : 1 ≤ w.has.length ∧ w.has.length ≤ 1000 := by omega
  have hfl := ok.flen
  have x2 : w.at (h.push (.row false 0 [.int .i64 i, .int .u64 s])) p rh (.slice A w.freed.length c) := by
    refine ⟨by simp (maxSteps := 1000000) (disch := first | (simp; done) | (simp only [IHeap.size_push', IHeap.size_set']; omega) | omega) [hp], by simp (maxSteps := 1000000) (disch := first | (simp; done) | (simp only [IHeap.size_push', IHeap.size_set']; omega) | omega) [hh], ⟨A, c, rfl, hc, hA, fun a ha => ?_⟩, hne⟩
    obtain ⟨r, rest, e1, e2, e3⟩ := hA2 a ha
    have := IHeap.get_lt e3
    exact ⟨r, rest, e1, e2, by simp (maxSteps := 1000000) (disch := first | (simp; done) | (simp only [IHeap.size_push', IHeap.size_set']; omega) | omega) [e3]⟩
  simp (maxSteps := 1000000) (disch := first | (simp; done) | (simp only [IHeap.size_push', IHeap.size_set']; omega) | omega) [a0, a1, hn, hd]
  refine FN.ct (rlive_c ok x2 i s) ?_
  intro h2 fr
  have hz2 := fr.size
  simp only [IHeap.size_push'] at hz2
  have g2 : h2.get h.size = some (.row false 0 [.int .i64 i, .int .u64 s]) := by
    rw [fr.get _ (by simp only [IHeap.size_push']; omega)]; simp (maxSteps := 1000000) (disch := first | (simp; done) | (simp only [IHeap.size_push', IHeap.size_set']; omega) | omega) []
  have go : ∀ i, i < h.size → h2.get i = h.get i := fun i hi => by
    rw [fr.get _ (by simp only [IHeap.size_push']; omega)]; simp (maxSteps := 1000000) (disch := first | (simp; done) | (simp only [IHeap.size_push', IHeap.size_set']; omega) | omega) []
  have p2 := (go p hpz).trans hp
  have r2 := (go rh hhz).trans hh
  cases hl : w.lives i s
  · have e1 : w.free i s = w := by simp [RA.free, hl]
    simp (maxSteps := 1000000) (disch := first | (simp; done) | (simp only [IHeap.size_push', IHeap.size_set']; omega) | omega) [a0, a1, hn, hd, e1]
    refine ⟨⟨rh, .slice A w.freed.length c, ⟨p2, r2, ⟨A, c, rfl, hc, hA, fun a ha => ?_⟩, hne⟩⟩, ⟨by omega, fun i hi _ => go i hi⟩⟩
    obtain ⟨r, rest, e1, e2, e3⟩ := hA2 a ha
    have hz := IHeap.get_lt e3
    exact ⟨r, rest, e1, e2, (go r hz).trans e3⟩
  · have hl2 := hl
    simp only [RA.lives, Bool.and_eq_true, decide_eq_true_eq] at hl2
    obtain ⟨I, rfl⟩ : ∃ I : Nat, i = I := ⟨i.toNat, by omega⟩
    have hIl : (I : Int) < w.has.length := hl2.1.1.2
    have hIl2 : I < w.has.length := by omega
    simp (maxSteps := 1000000) (disch := first | (simp; done) | (simp only [IHeap.size_push', IHeap.size_set']; omega) | omega) [a0, a1, hn, hd, p2, zeros0]
    rw [app62 (l := w.has) (by simp (maxSteps := 1000000) (disch := first | (simp; done) | (simp only [IHeap.size_push', IHeap.size_set']; omega) | omega) []) (by simp (maxSteps := 1000000) (disch := first | (simp; done) | (simp only [IHeap.size_push', IHeap.size_set']; omega) | omega) [r2]) rfl hlen2]
    simp (maxSteps := 1000000) (disch := first | (simp; done) | (simp only [IHeap.size_push', IHeap.size_set']; omega) | omega) [a0, a1, hn, hd, p2, zeros0, one_int, one_slc, g2, hIl, hIl2, u64s_len, show I + 1 ≤ w.has.length by omega, u64s_splice]
    refine ⟨niC_pend [] (by kernel_rfl) trivial, ?_⟩
    obtain ⟨H, hH⟩ : ∃ H, H = (((h2.set p (.row false 0 [.slice (some ⟨h2.size + 1, 0, none⟩) w.has.length w.has.length, .slice A w.freed.length c, .int .u64 w.ser])).push .dead).push (.row false 1 (u64s (w.has.set I 0)))).push (.row false 1 []) := ⟨_, rfl⟩
    rw [← hH]
    have Hz : H.size = h2.size + 3 := by rw [hH]; simp only [IHeap.size_set', IHeap.size_push']
    have Hp : H.get p = some (.row false 0 [.slice (some ⟨h2.size + 1, 0, none⟩) w.has.length w.has.length, .slice A w.freed.length c, .int .u64 w.ser]) := by rw [hH]; simp (maxSteps := 1000000) (disch := first | (simp; done) | (simp only [IHeap.size_push', IHeap.size_set']; omega) | omega) []
    have Hh : H.get (h2.size + 1) = some (.row false 1 (u64s (w.has.set I 0))) := by rw [hH]; simp (maxSteps := 1000000) (disch := first | (simp; done) | (simp only [IHeap.size_push', IHeap.size_set']; omega) | omega) []
    have He : H.get (h2.size + 1 + 1) = some (.row false 1 []) := by rw [hH]; simp (maxSteps := 1000000) (disch := first | (simp; done) | (simp only [IHeap.size_push', IHeap.size_set']; omega) | omega) []
    have Hb : H.get h.size = some (.row false 0 [.int .i64 I, .int .u64 s]) := by rw [hH]; simp (maxSteps := 1000000) (disch := first | (simp; done) | (simp only [IHeap.size_push', IHeap.size_set']; omega) | omega) [g2]
    have Ho : ∀ i, i < h.size → i ≠ p → H.get i = h.get i := fun i hi hip => by
      have := go i hi
      rw [hH]; simp (maxSteps := 1000000) (disch := first | (simp; done) | (simp only [IHeap.size_push', IHeap.size_set']; omega) | omega) [this, hip, Ne.symm hip]
    have hF : FrAt H p (.slice A w.freed.length c) w.freed := ⟨A, c, rfl, hc, hA, fun a ha => by
      obtain ⟨r, rest, e1, e2, e3⟩ := hA2 a ha
      exact ⟨r, rest, e1, e2, by rw [Ho r (IHeap.get_lt e3) e2]; exact e3⟩⟩
    clear hH
    obtain ⟨r', h5, ap, k1, k2, k3, k4⟩ := app63a hF He (by omega)
    have g5b : h5.get h.size = some (.row false 0 [.int .i64 I, .int .u64 s]) := by rw [k4 _ (by omega) (by omega)]; exact Hb
    have g5p : h5.get p = some (.row false 0 [.slice (some ⟨h2.size + 1, 0, none⟩) w.has.length w.has.length, .slice A w.freed.length c, .int .u64 w.ser]) := by rw [k4 _ (by omega) (by omega)]; exact Hp
    have g5h : h5.get (h2.size + 1) = some (.row false 1 (u64s (w.has.set I 0))) := by rw [k4 _ (by omega) (by omega)]; exact Hh
    have hr'p : r' ≠ p := by omega
    have hz5 := IHeap.get_lt k1
    simp (maxSteps := 1000000) (disch := first | (simp; done) | (simp only [IHeap.size_push', IHeap.size_set']; omega) | omega) [a0, a1, hn, hd, ap, g5b, zeros1]
    rw [app63b (l := w.freed) (x := I) (by simp (maxSteps := 1000000) (disch := first | (simp; done) | (simp only [IHeap.size_push', IHeap.size_set']; omega) | omega) [k1]) (by simp (maxSteps := 1000000) (disch := first | (simp; done) | (simp only [IHeap.size_push', IHeap.size_set']; omega) | omega) []) rfl (by omega)]
    simp (maxSteps := 1000000) (disch := first | (simp; done) | (simp only [IHeap.size_push', IHeap.size_set']; omega) | omega) [a0, a1, hn, hd, g5p, hr'p, Ne.symm hr'p, one_slc]
    have kb : h5.get h.size = H.get h.size := by rw [g5b, Hb]
    have e1 : w.free I s = { has := w.has.set I 0, freed := w.freed ++ [(I : Int)], ser := w.ser } := by simp [RA.free, hl]
    have hrh : r' ≠ h2.size + 1 := by omega
    rw [e1]
    refine ⟨niC_pend [(6, 8)] (by kernel_rfl) ⟨kb, trivial⟩, ⟨h2.size + 1, _, ⟨by simp (maxSteps := 1000000) (disch := first | (simp; done) | (simp only [IHeap.size_push', IHeap.size_set']; omega) | omega) []; rfl, ?_, ⟨some ⟨h5.size + 1, 0, none⟩, w.freed.length + 1, by simp, by simp, by simp, fun a ha => ?_⟩, by omega⟩⟩, ⟨by simp only [IHeap.size_set', IHeap.size_push']; omega, fun i hi hip => ?_⟩⟩
    · simp (maxSteps := 1000000) (disch := first | (simp; done) | (simp only [IHeap.size_push', IHeap.size_set']; omega) | omega) [hrh, Ne.symm hrh, g5h]
    · cases ha
      exact ⟨_, [], rfl, by omega, by simp (maxSteps := 1000000) (disch := first | (simp; done) | (simp only [IHeap.size_push', IHeap.size_set']; omega) | omega) []⟩
    · have h1 := k4 i (by omega) (by omega)
      have h2 := Ho i hi hip
      have h3 : i ≠ r' := by omega
      simp (maxSteps := 1000000) (disch := first | (simp; done) | (simp only [IHeap.size_push', IHeap.size_set']; omega) | omega) [hip, Ne.symm hip, h3, Ne.symm h3, h1, h2]
end Go.Proofs.Ytkecaobcchnilaa.Ideal
