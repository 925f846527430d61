import Derived.Test.YtkecaobcchnilaaP09g
noncomputable section
open Go.Proofs
namespace Go.Proofs.Ytkecaobcchnilaa.Ideal
open Go.RowKit
set_option linter.unusedSimpArgs false
set_option linter.unusedVariables false
set_option linter.unusedSectionVars false
set_option linter.unnecessarySimpa false
set_option maxRecDepth 100000
set_option maxHeartbeats 2000000
attribute [-simp] IHeap.size_set IHeap.size_push
attribute [local simp ↓] Hid.ap_mk
attribute [local simp] scopeQ_normal scopeQ_ret scopeQ_exit WP_skip WP_label WP_exit WP_goto WP_ret WP_region WP_seq WP_cond WP_block WP_scope WP_loop WP_range thenQ_normal thenQ_ret thenQ_exit thenQ_goto loopQ_normal loopQ_ret loopQ_exit invQ_normal invQ_ret invQ_exit outOf_normal outOf_ret outOf_goto outOf_exit ev_tmp ev_const ev_func
  wops_nil wops_cons wantedE_none wantedE_some jgd_some wnx_eq niC_false wdo_move wdo_assign wdo_pick wdo_load wdo_store wdo_alloc wdo_box wdo_fieldAddr wdo_indexAddr wdo_field wdo_extract wdo_build wdo_buildSlice wdo_makeSlice wdo_binOp wdo_unOp wdo_makeFunc wdo_nilCheck wdo_callV wdo_len wdo_append wdo_copy wdo_delete wdo_max wdo_min wdo_convert jcvt_int
  xput_get put_n put_none put_dfr ibin finQ_n finQ_r finD_nil splice_one ires_nil ires_one ires_two ires_three ires1_tmp ires1_cell jcell_ptr rowLoad_row wrap64 wrapU64 wrapU8 wrapU16 wrapU32 callV_fn buildOf Instr.fill Value.cells Value.oneCell' kindOf slots_all splice_all IHeap.size_set' IHeap.size_push' IHeap.get_set_same IHeap.get_set_ne IHeap.get_pushed IHeap.get_push_ne IHeap.set_set IHeap.set_push IHeap.set_pushed IHeap.set_set3 getU_nil getU_same getU_ne jif_true jif_false pushH_eq setH_eq forceL_eq forceV_eq ibuildSlice
attribute [-simp] Value.oneCell'
attribute [local simp] wdo_cutV jopt_some
theorem mk_u64 {h : IHeap} (n : Nat) (hn : n ≤ 70000) : imakeSlice Try.prog h 62 (.int .i64 n) (.int .i64 n) = some (.slice (some ⟨h.size, 0, none⟩) n n, h.push (.row false 1 (u64s (List.replicate n 0))), .alloc) := by
  have h2 : (0 : Int) ≤ n := by omega
  have h3 : (n : Int) < 9223372036854775808 := by omega
  have h4 : 8 * (n : Int) ≤ 140737488355328 := by omega
  unfold imakeSlice
  simp [h2, h3, h4, zeros, u64s]
def newRA (n : Nat) : RA := { has := List.replicate n 0, freed := [], ser := 0 }
theorem rnew_c {h : IHeap} (n : Nat) (hn1 : 1 ≤ n ∧ n ≤ 100) : FN Try.prog 12 #[.int .i64 n] h (Q := ⟨fun v h' => v = .pointer (some ⟨h.size + 1, 0, none⟩) ∧ (∃ rh fv, (newRA n).at h' (h.size + 1) rh fv) ∧ Fr h h' []⟩) := by
  refine FN.enter mixed (fn := Try.f12) (by kernel_rfl) rfl (by kernel_rfl) fun e hn hg hd => ?_
  simp [Try.f12] at hn
  have a0 : e.get 0 = .int .i64 n := hg 0 (by omega)
  clear hg
  simp (maxSteps := 1000000) (disch := first | (simp; done) | (simp only [IHeap.size_push', IHeap.size_set']; omega) | omega) [a0, hn, hd, mk_u64 n (by omega)]
  refine ⟨⟨h.size, .slice none 0 0, ⟨by simp (maxSteps := 1000000) (disch := first | (simp; done) | (simp only [IHeap.size_push', IHeap.size_set']; omega) | omega) [newRA], by simp (maxSteps := 1000000) (disch := first | (simp; done) | (simp only [IHeap.size_push', IHeap.size_set']; omega) | omega) [newRA], ⟨none, 0, by simp [newRA], by simp [newRA], by simp, by simp⟩, by omega⟩⟩, ⟨by simp <;> omega, fun i hi => by simp only [IHeap.get_set_if, IHeap.get_push, IHeap.size_set', IHeap.size_push', getU, ]; grind⟩⟩
theorem rcopy_c {h : IHeap} {p rh : Nat} {fv : Value} {w : RA} (ok : w.ok) (x : w.at h p rh fv) : FN Try.prog 17 #[.pointer (some ⟨p, 0, none⟩)] h (Q := ⟨fun v h' => v = .pointer (some ⟨h.size, 0, none⟩) ∧ (∃ rh fv, w.at h' h.size rh fv) ∧ Fr h h' []⟩) := by
  refine FN.enter mixed (fn := Try.f17) (by kernel_rfl) rfl (by kernel_rfl) fun e hn hg hd => ?_
  simp [Try.f17] at hn
  have a0 : e.get 0 = .pointer (some ⟨p, 0, none⟩) := hg 0 (by omega)
  clear hg
  have hp := x.gp
  have hpz := IHeap.get_lt hp
  have hh := x.gh
  have hhz := IHeap.get_lt hh
  obtain ⟨A, c, rfl, hc, hA, hA2⟩ := x.gf
  simp (maxSteps := 1000000) (disch := first | (simp; done) | (simp only [IHeap.size_push', IHeap.size_set']; omega) | omega) [a0, hn, hd, hp, one_slc]
  refine ⟨niC_pend [] (by kernel_rfl) trivial, ⟨rh, .slice A w.freed.length c, ⟨by simp (maxSteps := 1000000) (disch := first | (simp; done) | (simp only [IHeap.size_push', IHeap.size_set']; omega) | omega) [], by simp (maxSteps := 1000000) (disch := first | (simp; done) | (simp only [IHeap.size_push', IHeap.size_set']; omega) | omega) [hh], ⟨A, c, rfl, hc, hA, fun a ha => ?_⟩, by omega⟩⟩, ⟨by simp <;> omega, fun i hi => by simp only [IHeap.get_set_if, IHeap.get_push, IHeap.size_set', IHeap.size_push', getU, ]; grind⟩⟩
  obtain ⟨r, rest, e1, e2, e3⟩ := hA2 a ha
  have := IHeap.get_lt e3
  exact ⟨r, rest, e1, by omega, by simp (maxSteps := 1000000) (disch := first | (simp; done) | (simp only [IHeap.size_push', IHeap.size_set']; omega) | omega) [e3]⟩
/-- The handles of the cells that are had, from a number on. -/
def allI : List Int → Nat → List (Int × Int)
  | [], _ => []
  | x :: l, k => if 0 < x then ((k : Int), x) :: allI l (k + 1) else allI l (k + 1)
theorem allI_app : ∀ (l m : List Int) (k : Nat), allI (l ++ m) k = allI l k ++ allI m (k + l.length)
  | [], m, k => rfl
  | x :: l, m, k => by
    have := allI_app l m (k + 1)
    simp only [List.cons_append, allI, this]
    split <;> simp [Nat.add_assoc, Nat.add_comm 1]
theorem allI_take {l : List Int} {i : Nat} (h : i < l.length) : allI (l.take (i + 1)) 0 = allI (l.take i) 0 ++ (if 0 < l[i] then [((i : Int), l[i])] else []) := by
  rw [List.take_add_one, List.getElem?_eq_getElem h, allI_app]
  simp [allI, Nat.min_eq_left (Nat.le_of_lt h)]
theorem allI_len (l : List Int) (k : Nat) : (allI l k).length ≤ l.length := by
  induction l generalizing k with
  | nil => simp [allI]
  | cons x l ih =>
    have := ih (k + 1)
    simp only [allI]
    split <;> simp <;> omega
theorem rall_c {h : IHeap} {p rh : Nat} {fv : Value} {w : RA} (ok : w.ok) (x : w.at h p rh fv) : FN Try.prog 26 #[.pointer (some ⟨p, 0, none⟩)] h (Q := ⟨fun v h' => Fr h h' [] ∧ ∃ r, v = slcH (allI w.has 0) r ∧ (allI w.has 0 ≠ [] → h.size ≤ r ∧ h'.get r = some (.row false 2 (hflat (allI w.has 0))))⟩) := by
  refine FN.enter mixed (fn := Try.f26) (by kernel_rfl) rfl (by kernel_rfl) fun e hn hg hd => ?_
  simp [Try.f26] at hn
  have a0 : e.get 0 = .pointer (some ⟨p, 0, none⟩) := hg 0 (by omega)
  clear hg
  have hp := x.gp
  have hpz := IHeap.get_lt hp
  have hh := x.gh
  have hhz := IHeap.get_lt hh
  have hlen := ok.len
  simp (maxSteps := 1000000) (disch := first | (simp; done) | (simp only [IHeap.size_push', IHeap.size_set']; omega) | omega) [a0, hn, hd]
  refine WPL.by_inv mixed (by kernel_rfl) (fun k e h' => ∃ i r : Nat, i + k = w.has.length ∧ e.n = 35 ∧ e.dfr = [] ∧ e.get 0 = .pointer (some ⟨p, 0, none⟩) ∧ e.get 4 = .int .i64 i ∧ e.get 3 = slcH (allI (w.has.take i) 0) r ∧ Fr h h' [] ∧ (allI (w.has.take i) 0 ≠ [] → h.size ≤ r ∧ h'.get r = some (.row false 2 (hflat (allI (w.has.take i) 0))))) w.has.length ?_ ?_
  · refine ⟨0, 0, ?_⟩
    simp (maxSteps := 1000000) (disch := first | (simp; done) | (simp only [IHeap.size_push', IHeap.size_set']; omega) | omega) [a0, hn, hd, slcH, allI]
    exact Fr.refl _
  clear hn hd a0 e
  rintro k e h1 ⟨i, r, hi, hn, hd, e0, e4, e3, fr, hr⟩
  have hz1 := fr.size
  have g1 : h1.get p = some (.row false 0 [.slice (some ⟨rh, 0, none⟩) w.has.length w.has.length, fv, .int .u64 w.ser]) := by rw [fr.get _ hpz]; exact hp
  have g2 : h1.get rh = some (.row false 1 (u64s w.has)) := by rw [fr.get _ hhz]; exact hh
  cases k with
  | zero =>
    obtain rfl : i = w.has.length := by omega
    rw [List.take_length] at e3 hr
    simp (maxSteps := 1000000) (disch := first | (simp; done) | (simp only [IHeap.size_push', IHeap.size_set']; omega) | omega) [e0, e3, e4, hn, hd, g1]
    exact ⟨fr, r, rfl, hr⟩
  | succ k =>
    have hlt : (i : Int) < w.has.length := by omega
    have hlt2 : i < w.has.length := by omega
    have gi := u64s_get (List.getElem?_eq_getElem hlt2)
    have at1 := allI_take hlt2
    by_cases h0 : 0 < w.has[i]
    · rw [if_pos h0] at at1
      have hll := allI_len (w.has.take i) 0
      have htl : (w.has.take i).length = i := by simp; omega
      generalize hL : allI (w.has.take i) 0 = l at e3 hr at1 hll
      by_cases hl : l = []
      · simp (maxSteps := 1000000) (disch := first | (simp; done) | (simp only [IHeap.size_push', IHeap.size_set']; omega) | omega) [e0, e3, e4, hn, hd, g1, g2, hlt, hlt2, gi, h0, one_int, zerosC, slcH, hl]
        rw [app28n (x := (i, w.has[i])) (ro := false) (esz := 2) (by simp (maxSteps := 1000000) (disch := first | (simp; done) | (simp only [IHeap.size_push', IHeap.size_set']; omega) | omega) [hflat])]
        simp (maxSteps := 1000000) (disch := first | (simp; done) | (simp only [IHeap.size_push', IHeap.size_set']; omega) | omega) [e0, e3, e4, hn, hd, wrap64]
        refine ⟨k, by omega, i + 1, by omega, by omega, h1.size + 1, ?_⟩
        subst hl
        rw [at1]
        simp (maxSteps := 1000000) (disch := first | (simp; done) | (simp only [IHeap.size_push', IHeap.size_set']; omega) | omega) [e0, hn, hd, slcH]
        exact ⟨(fr.push _).push _, by omega⟩
      · obtain ⟨hr1, hr2⟩ := hr hl
        have hrz := IHeap.get_lt hr2
        simp (maxSteps := 1000000) (disch := first | (simp; done) | (simp only [IHeap.size_push', IHeap.size_set']; omega) | omega) [e0, e3, e4, hn, hd, g1, g2, hlt, hlt2, gi, h0, one_int, zerosC, slcH, hl]
        rw [app28 (l := l) (x := (i, w.has[i])) (ro := false) (esz := 2) (by simp (maxSteps := 1000000) (disch := first | (simp; done) | (simp only [IHeap.size_push', IHeap.size_set']; omega) | omega) [hr2]) rfl rfl (by simp (maxSteps := 1000000) (disch := first | (simp; done) | (simp only [IHeap.size_push', IHeap.size_set']; omega) | omega) [hflat]) (by omega)]
        simp (maxSteps := 1000000) (disch := first | (simp; done) | (simp only [IHeap.size_push', IHeap.size_set']; omega) | omega) [e0, e3, e4, hn, hd, wrap64]
        refine ⟨k, by omega, i + 1, by omega, by omega, h1.size + 1, ?_⟩
        rw [at1]
        simp (maxSteps := 1000000) (disch := first | (simp; done) | (simp only [IHeap.size_push', IHeap.size_set']; omega) | omega) [e0, hn, hd, slcH]
        exact ⟨((fr.set_new _ hr1).push _).push _, by omega⟩
    · rw [if_neg h0, List.append_nil] at at1
      simp (maxSteps := 1000000) (disch := first | (simp; done) | (simp only [IHeap.size_push', IHeap.size_set']; omega) | omega) [e0, e3, e4, hn, hd, g1, g2, hlt, hlt2, gi, h0, wrap64]
      refine ⟨k, by omega, i + 1, by omega, by omega, r, ?_⟩
      rw [at1]
      simp (maxSteps := 1000000) (disch := first | (simp; done) | (simp only [IHeap.size_push', IHeap.size_set']; omega) | omega) [e0, e3, hn, hd]
      exact ⟨fr, hr⟩
/-! The program's arena. -/
def AR.get (a : AR) (i : Int) : Int := if 0 ≤ i then (a.cs.getD i.toNat (0, 0)).1 else 0
def AR.atV (a : AR) (i : Int) : Value := if a.get i ≠ 0 then .tuple #[.agg #[.int .i64 i, .int .u64 (a.get i)], .bool true] else .tuple #[.agg #[.int .i64 0, .int .u64 0], .bool false]
theorem at_c {h : IHeap} {p q : Nat} {a : AR} (ok : a.ok) (x : a.at h p q) (i : Int) : CT Try.prog 15 #[.pointer (some ⟨p, 0, none⟩), .int .i64 i] h (a.atV i) [] := by
  refine FN.enter mixed (fn := Try.f15) (by kernel_rfl) rfl (by kernel_rfl) fun e hn hg hd => ?_
  simp [Try.f15] at hn
  have a0 : e.get 0 = .pointer (some ⟨p, 0, none⟩) := hg 0 (by omega)
  have a1 : e.get 1 = .int .i64 i := hg 1 (by omega)
  clear hg
  have hp := x.gp
  have hpz := IHeap.get_lt hp
  have x2 : a.at (h.push (.row false 0 [.int .i64 0, .int .u64 0])) p q := by
    refine ⟨by simp (maxSteps := 1000000) (disch := first | (simp; done) | (simp only [IHeap.size_push', IHeap.size_set']; omega) | omega) [hp], fun hc => ?_⟩
    obtain ⟨g1, g2⟩ := x.gq hc
    have := IHeap.get_lt g1
    exact ⟨by simp (maxSteps := 1000000) (disch := first | (simp; done) | (simp only [IHeap.size_push', IHeap.size_set']; omega) | omega) [g1], g2⟩
  simp (maxSteps := 1000000) (disch := first | (simp; done) | (simp only [IHeap.size_push', IHeap.size_set']; omega) | omega) [a0, a1, hn, hd]
  refine FN.of (none_c ok x2) ?_
  by_cases h1 : i < 0
  · have : a.get i = 0 := by unfold AR.get; rw [if_neg (by omega)]
    simp (maxSteps := 1000000) (disch := first | (simp; done) | (simp only [IHeap.size_push', IHeap.size_set']; omega) | omega) [a0, a1, hn, hd, h1, one_int, AR.atV, this]
    exact (Fr.refl _).push _
  · obtain ⟨I, rfl⟩ : ∃ I : Nat, i = I := ⟨i.toNat, by omega⟩
    have h0 : (0 : Int) ≤ I := by omega
    by_cases hc : a.cs = []
    · have : a.get I = 0 := by simp [AR.get, hc]
      simp (maxSteps := 1000000) (disch := first | (simp; done) | (simp only [IHeap.size_push', IHeap.size_set']; omega) | omega) [a0, a1, hn, hd, h1, one_int, AR.atV, this, hp, AR.row, AR.slc, hc]
      exact (Fr.refl _).push _
    · obtain ⟨hq, hqp⟩ := x.gq hc
      have hqz := IHeap.get_lt hq
      by_cases h2 : (I : Int) < a.cs.length
      · have h3 : I < a.cs.length := by omega
        have h4 : ¬ (a.cs.length : Int) ≤ I := by omega
        have g0 := flat_get0 (List.getElem?_eq_getElem h3)
        have hg : a.get I = a.cs[I].1 := by simp [AR.get, List.getD, h3]
        by_cases hz : a.cs[I].1 = 0
        · simp (maxSteps := 1000000) (disch := first | (simp; done) | (simp only [IHeap.size_push', IHeap.size_set']; omega) | omega) [a0, a1, hn, hd, h1, h2, h3, h4, one_int, AR.atV, hg, hp, AR.row, AR.slc, hc, hq, g0, hz]
          exact (Fr.refl _).push _
        · simp (maxSteps := 1000000) (disch := first | (simp; done) | (simp only [IHeap.size_push', IHeap.size_set']; omega) | omega) [a0, a1, hn, hd, h1, h2, h3, h4, one_int, AR.atV, hg, hp, AR.row, AR.slc, hc, hq, g0, hz]
          exact (Fr.refl _).push _
      · have h4 : (a.cs.length : Int) ≤ I := by omega
        have : a.get I = 0 := by simp [AR.get, List.getD, List.getElem?_eq_none (show a.cs.length ≤ I by omega)]
        simp (maxSteps := 1000000) (disch := first | (simp; done) | (simp only [IHeap.size_push', IHeap.size_set']; omega) | omega) [a0, a1, hn, hd, h1, h2, h4, one_int, AR.atV, this, hp, AR.row, AR.slc, hc]
        exact (Fr.refl _).push _
theorem size_c {h : IHeap} {p q : Nat} {a : AR} (x : a.at h p q) : ICall Try.prog 19 #[.pointer (some ⟨p, 0, none⟩)] h (.int .i64 a.size) h := by
  refine ICall.of_FN ?_
  refine FN.enter mixed (fn := Try.f19) (by kernel_rfl) rfl (by kernel_rfl) fun e hn hg hd => ?_
  simp [Try.f19] at hn
  have a0 : e.get 0 = .pointer (some ⟨p, 0, none⟩) := hg 0 (by omega)
  clear hg
  have hp := x.gp
  simp (maxSteps := 1000000) (disch := first | (simp; done) | (simp only [IHeap.size_push', IHeap.size_set']; omega) | omega) [a0, hn, hd, hp, AR.row]
theorem clone_c {h : IHeap} {q : Nat} {a : AR} (hlen : a.cs.length ≤ 1000) (hq : a.cs ≠ [] → h.get q = some (.row false 2 (flat a.cs))) : FN Try.prog 25 #[a.slc q] h (Q := ⟨fun v h' => Fr h h' [] ∧ ∃ r, v = a.slc r ∧ (a.cs ≠ [] → h.size ≤ r ∧ h'.get r = some (.row false 2 (flat a.cs)))⟩) := by
  refine FN.enter mixed (fn := Try.f25) (by kernel_rfl) rfl (by kernel_rfl) fun e hn hg hd => ?_
  simp [Try.f25] at hn
  have a0 : e.get 0 = a.slc q := hg 0 (by omega)
  clear hg
  by_cases hc : a.cs = []
  · simp (maxSteps := 1000000) (disch := first | (simp; done) | (simp only [IHeap.size_push', IHeap.size_set']; omega) | omega) [a0, hn, hd, AR.slc, hc]
    exact Fr.refl _
  · have hq := hq hc
    have hqz := IHeap.get_lt hq
    have hpos := List.length_pos_iff.2 hc
    have ap : iappend Try.prog (h.push (.row false 2 [])) 51 51 (.slice (some ⟨h.size, 0, none⟩) 0 0) (.slice (some ⟨q, 0, none⟩) a.cs.length a.cs.length) = some (.slice (some ⟨h.size + 1, 0, none⟩) a.cs.length a.cs.length, ((h.push (.row false 2 [])).set h.size .dead).push (.row false 2 (flat a.cs))) := by
      have hq2 : (h.push (.row false 2 [])).get q = some (.row false 2 (flat a.cs)) := by simp (maxSteps := 1000000) (disch := first | (simp; done) | (simp only [IHeap.size_push', IHeap.size_set']; omega) | omega) [hq]
      have he2 : (h.push (.row false 2 [])).get h.size = some (.row false 2 []) := by simp (maxSteps := 1000000) (disch := first | (simp; done) | (simp only [IHeap.size_push', IHeap.size_set']; omega) | omega) []
      have := iapp_grow (P := Try.prog) (h := h.push (.row false 2 [])) (t := 51) (t2 := 51) (c := 0) (n := 0) (q := 0) (olds := []) sl51 ze61 bt61 (by rfl) (by omega) ni51 (src_row (c := a.cs.length) (m := a.cs.length) hq2 (slots_full _ (by rw [flat_len])) (by omega)) (flat_all a.cs) (by omega) (by omega) he2 (.inr rfl) (by simp [slots])
      simpa using this
    simp (maxSteps := 1000000) (disch := first | (simp; done) | (simp only [IHeap.size_push', IHeap.size_set']; omega) | omega) [a0, hn, hd, AR.slc, hc, zeros, ap]
    exact ((Fr.refl _).push _).push _
theorem copy_c {h : IHeap} {p q : Nat} {a : AR} (ok : a.ok) (hlen : a.cs.length ≤ 1000) (x : a.at h p q) : FN Try.prog 16 #[.pointer (some ⟨p, 0, none⟩)] h (Q := ⟨fun v h' => v = .pointer (some ⟨h.size, 0, none⟩) ∧ (∃ q', a.at h' h.size q' ∧ h.size ≤ q') ∧ Fr h h' []⟩) := by
  refine FN.enter mixed (fn := Try.f16) (by kernel_rfl) rfl (by kernel_rfl) fun e hn hg hd => ?_
  simp [Try.f16] at hn
  have a0 : e.get 0 = .pointer (some ⟨p, 0, none⟩) := hg 0 (by omega)
  clear hg
  have hp := x.gp
  have hpz := IHeap.get_lt hp
  simp (maxSteps := 1000000) (disch := first | (simp; done) | (simp only [IHeap.size_push', IHeap.size_set']; omega) | omega) [a0, hn, hd]
  refine FN.of (none_c ok x) ?_
  simp (maxSteps := 1000000) (disch := first | (simp; done) | (simp only [IHeap.size_push', IHeap.size_set']; omega) | omega) [a0, hn, hd, hp, AR.row, one_int, one_slc]
  have os : (a.slc q).oneCell' = true := by unfold AR.slc; split <;> rfl
  simp (maxSteps := 1000000) (disch := first | (simp; done) | (simp only [IHeap.size_push', IHeap.size_set']; omega) | omega) [a0, hn, hd, hp, AR.row, one_int, one_slc, os]
  refine FN.mono (clone_c (q := q) hlen (fun hc => by
    obtain ⟨g1, _⟩ := x.gq hc
    have := IHeap.get_lt g1
    simp (maxSteps := 1000000) (disch := first | (simp; done) | (simp only [IHeap.size_push', IHeap.size_set']; omega) | omega) [g1])) ?_
  rintro v h2 ⟨fr, r, rfl, hr⟩
  have os2 : (a.slc r).oneCell' = true := by unfold AR.slc; split <;> rfl
  have hz := fr.size
  simp only [IHeap.size_push'] at hz
  have g2 : h2.get h.size = some (.row false 0 [a.slc q, .int .i64 a.free, .int .i64 a.size, .int .u64 a.ser, .int .i64 a.live]) := by
    rw [fr.get _ (by (try simp only [IHeap.size_push', IHeap.size_set']); omega)]
    simp (maxSteps := 1000000) (disch := first | (simp; done) | (simp only [IHeap.size_push', IHeap.size_set']; omega) | omega) []
  have go : ∀ i, i < h.size → h2.get i = h.get i := fun i hi => by
    rw [fr.get _ (by simp only [IHeap.size_push']; omega)]; simp (maxSteps := 1000000) (disch := first | (simp; done) | (simp only [IHeap.size_push', IHeap.size_set']; omega) | omega) []
  obtain ⟨A, n', c', hs⟩ : ∃ A n c, a.slc r = .slice A n c := by unfold AR.slc; split <;> exact ⟨_, _, _, rfl⟩
  rw [hs]
  simp (maxSteps := 1000000) (disch := first | (simp; done) | (simp only [IHeap.size_push', IHeap.size_set']; omega) | omega) [a0, hn, hd, g2, one_slc]
  rw [← hs]
  refine ⟨?_, ⟨by simp only [IHeap.size_set']; omega, fun i hi => ?_⟩⟩
  · by_cases hc : a.cs = []
    · exact ⟨h.size, ⟨by simp (maxSteps := 1000000) (disch := first | (simp; done) | (simp only [IHeap.size_push', IHeap.size_set']; omega) | omega) [AR.row, AR.slc, hc], fun h => absurd hc h⟩, Nat.le_refl _⟩
    · obtain ⟨r1, r2⟩ := hr hc
      simp only [IHeap.size_push'] at r1
      have h3 : r ≠ h.size := by omega
      exact ⟨r, ⟨by simp (maxSteps := 1000000) (disch := first | (simp; done) | (simp only [IHeap.size_push', IHeap.size_set']; omega) | omega) [AR.row], fun _ => ⟨by simp (maxSteps := 1000000) (disch := first | (simp; done) | (simp only [IHeap.size_push', IHeap.size_set']; omega) | omega) [h3, Ne.symm h3, r2], h3⟩⟩, by omega⟩
  · have := go i hi
    simp (maxSteps := 1000000) (disch := first | (simp; done) | (simp only [IHeap.size_push', IHeap.size_set']; omega) | omega) [this]
end Go.Proofs.Ytkecaobcchnilaa.Ideal
