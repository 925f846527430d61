import Derived.Test.YtkecaobcchnilaaP09e
import Derived.Test.YtkecaobcchnilaaI36
noncomputable section
open Go.Proofs
namespace Go.Proofs.Ytkecaobcchnilaa.Ideal
open Go.RowKit
set_option linter.unusedSimpArgs false
set_option linter.unusedVariables false
set_option linter.unusedSectionVars false
set_option linter.unnecessarySimpa false
set_option maxRecDepth 100000
set_option maxHeartbeats 2000000
attribute [-simp] IHeap.size_set IHeap.size_push
attribute [local simp ↓] Hid.ap_mk
attribute [local simp] scopeQ_normal scopeQ_ret scopeQ_exit WP_skip WP_label WP_exit WP_goto WP_ret WP_region WP_seq WP_cond WP_block WP_scope WP_loop WP_range thenQ_normal thenQ_ret thenQ_exit thenQ_goto loopQ_normal loopQ_ret loopQ_exit invQ_normal invQ_ret invQ_exit outOf_normal outOf_ret outOf_goto outOf_exit ev_tmp ev_const ev_func
  wops_nil wops_cons wantedE_none wantedE_some jgd_some wnx_eq niC_false wdo_move wdo_assign wdo_pick wdo_load wdo_store wdo_alloc wdo_box wdo_fieldAddr wdo_indexAddr wdo_field wdo_extract wdo_build wdo_buildSlice wdo_makeSlice wdo_binOp wdo_unOp wdo_makeFunc wdo_nilCheck wdo_callV wdo_len wdo_append wdo_copy wdo_delete wdo_max wdo_min wdo_convert jcvt_int
  xput_get put_n put_none put_dfr ibin finQ_n finQ_r finD_nil splice_one ires_nil ires_one ires_two ires_three ires1_tmp ires1_cell jcell_ptr rowLoad_row wrap64 wrapU64 wrapU8 wrapU16 wrapU32 callV_fn buildOf Instr.fill Value.cells Value.oneCell' kindOf slots_all splice_all IHeap.size_set' IHeap.size_push' IHeap.get_set_same IHeap.get_set_ne IHeap.get_pushed IHeap.get_push_ne IHeap.set_set IHeap.set_push IHeap.set_pushed IHeap.set_set3 getU_nil getU_same getU_ne jif_true jif_false pushH_eq setH_eq forceL_eq forceV_eq ibuildSlice
attribute [-simp] Value.oneCell'
attribute [local simp] wdo_cutV jopt_some
def u64s (l : List Int) : List Value := l.map (.int .u64 ·)
def ints (l : List Int) : List Value := l.map (.int .i64 ·)
theorem u64s_len (l : List Int) : (u64s l).length = l.length := by simp [u64s]
theorem ints_len (l : List Int) : (ints l).length = l.length := by simp [ints]
theorem u64s_all (l : List Int) : (u64s l).all (·.oneCell') = true := by simp [u64s, one_int]
theorem ints_all (l : List Int) : (ints l).all (·.oneCell') = true := by simp [ints, one_int]
theorem ints_app (l m : List Int) : ints l ++ ints m = ints (l ++ m) := by simp [ints]
theorem u64s_get {l : List Int} {j : Nat} {x : Int} (h : l[j]? = some x) : (u64s l)[j]? = some (.int .u64 x) := by simp [u64s, h]
theorem ints_get {l : List Int} {j : Nat} {x : Int} (h : l[j]? = some x) : (ints l)[j]? = some (.int .i64 x) := by simp [ints, h]
theorem u64s_splice {l : List Int} {j : Nat} {x : Int} (h : j < l.length) : splice (u64s l) j [.int .u64 x] = u64s (l.set j x) := by
  rw [splice_one _ (by rw [u64s_len]; exact h)]; simp [u64s, List.map_set]
theorem ni62 : notInt Try.prog 62 = true := by kernel_rfl
theorem ni63 : notInt Try.prog 63 = true := by kernel_rfl
/-- The document's arena. -/
structure RA where
  has : List Int
  freed : List Int
  ser : Int
def FrAt (h : IHeap) (p : Nat) (v : Value) (l : List Int) : Prop := ∃ A c, v = .slice A l.length c ∧ l.length ≤ c ∧ (A = none → c = 0) ∧ ∀ a, A = some a → ∃ r rest, a = ⟨r, 0, none⟩ ∧ r ≠ p ∧ h.get r = some (.row false 1 (ints (l ++ rest)))
structure RA.at (w : RA) (h : IHeap) (p rh : Nat) (fv : Value) : Prop where
  gp : h.get p = some (.row false 0 [.slice (some ⟨rh, 0, none⟩) w.has.length w.has.length, fv, .int .u64 w.ser])
  gh : h.get rh = some (.row false 1 (u64s w.has))
  gf : FrAt h p fv w.freed
  ne : rh ≠ p
structure RA.ok (w : RA) : Prop where
  len : 1 ≤ w.has.length ∧ w.has.length ≤ 100
  rng : ∀ x ∈ w.freed, 0 ≤ x ∧ x < w.has.length
  flen : w.freed.length ≤ 100
  ser : 0 ≤ w.ser ∧ w.ser < 1000000000
def RA.which (w : RA) : Int := match w.freed.getLast? with
  | some i => i
  | none => match w.has.findIdx? (fun x => decide (x = 0)) with
    | some i => (i : Nat)
    | none => -1
theorem which_c {h : IHeap} {p rh : Nat} {fv : Value} {w : RA} (ok : w.ok) (x : w.at h p rh fv) : CT Try.prog 23 #[.pointer (some ⟨p, 0, none⟩)] h (.int .i64 w.which) [] := by
  refine FN.enter mixed (fn := Try.f23) (by kernel_rfl) rfl (by kernel_rfl) fun e hn hg hd => ?_
  simp [Try.f23] at hn
  have a0 : e.get 0 = .pointer (some ⟨p, 0, none⟩) := hg 0 (by omega)
  clear hg
  have hp := x.gp
  have hh := x.gh
  obtain ⟨A, c, rfl, hc, hA, hA2⟩ := x.gf
  have hlen := ok.len
  have hfl := ok.flen
  by_cases hf : w.freed = []
  · simp (maxSteps := 1000000) (disch := first | (simp; done) | (simp only [IHeap.size_push', IHeap.size_set']; omega) | omega) [a0, hn, hd, hp, hf]
    refine WPL.by_inv mixed (by kernel_rfl) (fun k e h' => ∃ i : Nat, i + k = w.has.length ∧ e.n = 40 ∧ e.dfr = [] ∧ e.get 0 = .pointer (some ⟨p, 0, none⟩) ∧ e.get 3 = .int .i64 i ∧ h' = h ∧ ∀ j, j < i → w.has.getD j 0 ≠ 0) w.has.length ?_ ?_
    · refine ⟨0, ?_⟩
      simp (maxSteps := 1000000) (disch := first | (simp; done) | (simp only [IHeap.size_push', IHeap.size_set']; omega) | omega) [a0, hn, hd]
    clear hn hd a0 e
    rintro k e h1 ⟨i, hi, hn, hd, e0, e3, rfl, hz⟩
    cases k with
    | zero =>
      obtain rfl : i = w.has.length := by omega
      have hw : w.which = -1 := by
        have : w.has.findIdx? (fun x => decide (x = 0)) = none := by
          rw [List.findIdx?_eq_none_iff]
          intro y hy
          obtain ⟨j, hj, rfl⟩ := List.getElem_of_mem hy
          have := hz j hj
          simpa [List.getD, hj] using this
        simp [RA.which, hf, this]
      simp (maxSteps := 1000000) (disch := first | (simp; done) | (simp only [IHeap.size_push', IHeap.size_set']; omega) | omega) [e0, e3, hn, hd, hp, hw]
      exact Fr.refl _
    | succ k =>
      have hlt : (i : Int) < w.has.length := by omega
      have hlt2 : i < w.has.length := by omega
      have gi := u64s_get (List.getElem?_eq_getElem hlt2)
      by_cases h0 : w.has[i] = 0
      · have hw : w.which = i := by
          have : w.has.findIdx? (fun x => decide (x = 0)) = some i := by
            rw [List.findIdx?_eq_some_iff_getElem]
            refine ⟨hlt2, by simpa using h0, fun j hj => ?_⟩
            have := hz j hj
            simpa [List.getD, show j < w.has.length by omega] using this
          simp [RA.which, hf, this]
        simp (maxSteps := 1000000) (disch := first | (simp; done) | (simp only [IHeap.size_push', IHeap.size_set']; omega) | omega) [e0, e3, hn, hd, hp, hh, hlt, hlt2, gi, h0, hw]
        exact Fr.refl _
      · simp (maxSteps := 1000000) (disch := first | (simp; done) | (simp only [IHeap.size_push', IHeap.size_set']; omega) | omega) [e0, e3, hn, hd, hp, hh, hlt, hlt2, gi, h0, wrap64]
        refine ⟨k, by omega, i + 1, by omega, by omega, fun j hj => ?_⟩
        by_cases e : j = i
        · subst e; simpa [hlt2] using h0
        · exact hz j (by omega)
  · obtain ⟨r, rest, rfl, hrp, hr⟩ : ∃ r rest, A = some ⟨r, 0, none⟩ ∧ r ≠ p ∧ h.get r = some (.row false 1 (ints (w.freed ++ rest))) := by
      cases A with
      | none => have := hA rfl; have := List.length_pos_iff.2 hf; omega
      | some a => obtain ⟨r, rest, rfl, h1, h2⟩ := hA2 a rfl; exact ⟨r, rest, rfl, h1, h2⟩
    have hpos := List.length_pos_iff.2 hf
    obtain ⟨K, hK⟩ : ∃ K, w.freed.length = K + 1 := ⟨w.freed.length - 1, by omega⟩
    obtain ⟨y, hy⟩ : ∃ y, w.freed[K]? = some y := ⟨w.freed[K], by simp [hK]⟩
    have gl : (ints (w.freed ++ rest))[K]? = some (.int .i64 y) := ints_get (by rw [List.getElem?_append_left (by omega)]; exact hy)
    have hw : w.which = y := by
      have : w.freed.getLast? = some y := by rw [List.getLast?_eq_getElem?, hK]; exact hy
      simp [RA.which, this]
    have hk1 : (1 : Int) ≤ (K : Int) + 1 := by omega
    have hk2 : (K : Int) < (K : Int) + 1 := by omega
    simp (maxSteps := 1000000) (disch := first | (simp; done) | (simp only [IHeap.size_push', IHeap.size_set']; omega) | omega) [a0, hn, hd, hp, hf, hK, hr, gl, wrap64, hk1, hk2, hw]
    exact ⟨niC_pend [] (by kernel_rfl) trivial, Fr.refl _⟩
def RA.take (w : RA) : RA × Option Int := if w.which < 0 then (w, none) else ({ has := w.has.set w.which.toNat (w.ser + 1), freed := w.freed.dropLast, ser := w.ser + 1 }, some w.which)
def RA.takeV (w : RA) : Value := match w.take.2 with
  | some i => .tuple #[.agg #[.int .i64 i, .int .u64 (w.ser + 1)], .int .i64 0]
  | none => .tuple #[.agg #[.int .i64 0, .int .u64 0], .int .i64 9]
/-- Memory but for one row stays. -/
structure Keep1 (h h' : IHeap) (p : Nat) : Prop where
  size : h.size ≤ h'.size
  get : ∀ i, i < h.size → i ≠ p → h'.get i = h.get i
theorem which_rng {w : RA} (ok : w.ok) : -1 ≤ w.which ∧ w.which < w.has.length := by
  unfold RA.which
  split
  · rename_i i hi
    have := ok.rng i (List.mem_of_getLast? hi)
    omega
  · split
    · rename_i i hi
      rw [List.findIdx?_eq_some_iff_getElem] at hi
      obtain ⟨h1, _⟩ := hi
      omega
    · omega
theorem app62 {h : IHeap} {i j n c : Nat} {l : List Int} (hi : h.get i = some (.row false 1 [])) (hj : h.get j = some (.row false 1 (u64s l))) (hn : n = l.length) (hl : 1 ≤ l.length ∧ l.length ≤ 1000) :
    iappend Try.prog h 62 62 (.slice (some ⟨i, 0, none⟩) 0 0) (.slice (some ⟨j, 0, none⟩) n c) = some (.slice (some ⟨h.size, 0, none⟩) n n, (h.set i .dead).push (.row false 1 (u64s l))) := by
  subst hn
  have := iapp_grow (P := Try.prog) (t := 62) (t2 := 62) (c := 0) (n := 0) (q := 0) (olds := []) sl62 ze30 bt30 (by rfl) (by omega) ni62 (src_row (c := c) (m := l.length) hj (slots_full _ (by rw [u64s_len]; omega)) (by omega)) (u64s_all l) (by omega) (by omega) hi (.inr rfl) (by simp [slots])
  simpa using this
theorem zeros0 (z : Array Value) : zeros z 0 = [] := by simp [zeros]
theorem cut63 {h : IHeap} {r n c u : Nat} {ro : Bool} {cs : List Value} (hg : h.get r = some (.row ro 1 cs)) (hu : u ≤ c) : cutV Try.prog h 63 (.slice (some ⟨r, 0, none⟩) n c) none (some (.int .i64 u)) = some (.slice (some ⟨r, 0, none⟩) u c, .read r) := by
  simp [cutV, islice_eq sl63 hg (.inr rfl) (bounds_hi hu), kindOf]
theorem dropLast_take {l : List Int} {K : Nat} (h : l.length = K + 1) : l.dropLast = l.take K := by rw [List.dropLast_eq_take, h]; rfl
theorem rtake_c {h : IHeap} {p rh : Nat} {fv : Value} {w : RA} (ok : w.ok) (x : w.at h p rh fv) : FN Try.prog 13 #[.pointer (some ⟨p, 0, none⟩)] h (Q := ⟨fun v h' => v = w.takeV ∧ (∃ rh' fv', w.take.1.at h' p rh' fv') ∧ Keep1 h h' p⟩) := by
  refine FN.enter mixed (fn := Try.f13) (by kernel_rfl) rfl (by kernel_rfl) fun e hn hg hd => ?_
  simp [Try.f13] at hn
  have a0 : e.get 0 = .pointer (some ⟨p, 0, none⟩) := hg 0 (by omega)
  clear hg
  have hp := x.gp
  have hpz := IHeap.get_lt hp
  have hh := x.gh
  have hhz := IHeap.get_lt hh
  have hne := x.ne
  obtain ⟨A, c, rfl, hc, hA, hA2⟩ := x.gf
  have hlen := ok.len
  have hlen2 : 1 ≤ w.has.length ∧ w.has.length ≤ 1000 := by omega
  have hfl := ok.flen
  have hser := ok.ser
  have hwr := which_rng ok
  simp (maxSteps := 1000000) (disch := first | (simp; done) | (simp only [IHeap.size_push', IHeap.size_set']; omega) | omega) [a0, hn, hd]
  have x2 : w.at (h.push (.row false 0 [.int .i64 0, .int .u64 0])) p rh (.slice A w.freed.length c) := by
    refine ⟨by simp (maxSteps := 1000000) (disch := first | (simp; done) | (simp only [IHeap.size_push', IHeap.size_set']; omega) | omega) [hp], by simp (maxSteps := 1000000) (disch := first | (simp; done) | (simp only [IHeap.size_push', IHeap.size_set']; omega) | omega) [hh], ⟨A, c, rfl, hc, hA, fun a ha => ?_⟩, hne⟩
    obtain ⟨r, rest, e1, e2, e3⟩ := hA2 a ha
    have := IHeap.get_lt e3
    exact ⟨r, rest, e1, e2, by simp (maxSteps := 1000000) (disch := first | (simp; done) | (simp only [IHeap.size_push', IHeap.size_set']; omega) | omega) [e3]⟩
  refine FN.ct (which_c ok x2) ?_
  intro h2 fr
  have hz2 := fr.size
  simp only [IHeap.size_push'] at hz2
  have g2 : h2.get h.size = some (.row false 0 [.int .i64 0, .int .u64 0]) := by
    rw [fr.get _ (by simp only [IHeap.size_push']; omega)]; simp (maxSteps := 1000000) (disch := first | (simp; done) | (simp only [IHeap.size_push', IHeap.size_set']; omega) | omega) []
  have go : ∀ i, i < h.size → h2.get i = h.get i := fun i hi => by
    rw [fr.get _ (by simp only [IHeap.size_push']; omega)]; simp (maxSteps := 1000000) (disch := first | (simp; done) | (simp only [IHeap.size_push', IHeap.size_set']; omega) | omega) []
  have p2 := (go p hpz).trans hp
  have r2 := (go rh hhz).trans hh
  by_cases hw : w.which < 0
  · have e1 : w.take = (w, none) := by simp [RA.take, hw]
    simp (maxSteps := 1000000) (disch := first | (simp; done) | (simp only [IHeap.size_push', IHeap.size_set']; omega) | omega) [a0, hn, hd, hw, g2, one_int, RA.takeV, e1]
    refine ⟨⟨rh, .slice A w.freed.length c, ⟨by simp (maxSteps := 1000000) (disch := first | (simp; done) | (simp only [IHeap.size_push', IHeap.size_set']; omega) | omega) [p2], by simp (maxSteps := 1000000) (disch := first | (simp; done) | (simp only [IHeap.size_push', IHeap.size_set']; omega) | omega) [r2], ⟨A, c, rfl, hc, hA, fun a ha => ?_⟩, hne⟩⟩, ⟨by simp only [IHeap.size_set']; omega, fun i hi _ => ?_⟩⟩
    · obtain ⟨r, rest, e1, e2, e3⟩ := hA2 a ha
      have hz := IHeap.get_lt e3
      have e4 := (go r hz).trans e3
      exact ⟨r, rest, e1, e2, by simp (maxSteps := 1000000) (disch := first | (simp; done) | (simp only [IHeap.size_push', IHeap.size_set']; omega) | omega) [e4]⟩
    · have := go i hi
      simp (maxSteps := 1000000) (disch := first | (simp; done) | (simp only [IHeap.size_push', IHeap.size_set']; omega) | omega) [this]
  · obtain ⟨I, hI⟩ : ∃ I : Nat, w.which = I := ⟨w.which.toNat, by omega⟩
    have hIl : (I : Int) < w.has.length := by omega
    have hIl2 : I < w.has.length := by omega
    have hwn : ¬ (I : Int) < 0 := by omega
    by_cases hf : w.freed = []
    · simp (maxSteps := 1000000) (disch := first | (simp; done) | (simp only [IHeap.size_push', IHeap.size_set']; omega) | omega) [a0, hn, hd, hI, hwn, g2, one_int, one_slc, p2, hf, wrapU64, zeros0]
      have e1 : w.take = ({ has := w.has.set I (w.ser + 1), freed := w.freed.dropLast, ser := w.ser + 1 }, some (I : Int)) := by simp [RA.take, hI, hwn]
      have ns : (w.has.set I (w.ser + 1)).length = w.has.length := by simp
      rw [app62 (l := w.has) (by simp (maxSteps := 1000000) (disch := first | (simp; done) | (simp only [IHeap.size_push', IHeap.size_set']; omega) | omega) []) (by simp (maxSteps := 1000000) (disch := first | (simp; done) | (simp only [IHeap.size_push', IHeap.size_set']; omega) | omega) [r2]) rfl hlen2]
      simp (maxSteps := 1000000) (disch := first | (simp; done) | (simp only [IHeap.size_push', IHeap.size_set']; omega) | omega) [a0, hn, hd, hI, hwn, g2, one_int, one_slc, p2, hIl, hIl2, u64s_len, show I + 1 ≤ w.has.length by omega, RA.takeV, e1]
      refine ⟨niC_pend [] (by kernel_rfl) trivial, ⟨h2.size + 1, .slice A 0 c, ⟨by simp (maxSteps := 1000000) (disch := first | (simp; done) | (simp only [IHeap.size_push', IHeap.size_set']; omega) | omega) [ns], by simp (maxSteps := 1000000) (disch := first | (simp; done) | (simp only [IHeap.size_push', IHeap.size_set']; omega) | omega) [u64s_splice], ⟨A, c, by simp [hf], by simp [hf], hA, fun a ha => ?_⟩, by omega⟩⟩, ⟨by simp only [IHeap.size_set', IHeap.size_push']; omega, fun i hi hip => ?_⟩⟩
      · obtain ⟨r, rest, e1, e2, e3⟩ := hA2 a ha
        have hz := IHeap.get_lt e3
        have e4 := (go r hz).trans e3
        rw [hf] at e4
        exact ⟨r, rest, e1, e2, by simp (maxSteps := 1000000) (disch := first | (simp; done) | (simp only [IHeap.size_push', IHeap.size_set']; omega) | omega) [e4, hf, e2, Ne.symm e2]⟩
      · have := go i hi
        simp (maxSteps := 1000000) (disch := first | (simp; done) | (simp only [IHeap.size_push', IHeap.size_set']; omega) | omega) [this, hip, Ne.symm hip]
    · have hpos := List.length_pos_iff.2 hf
      obtain ⟨r, rest, rfl, hrp, hr⟩ : ∃ r rest, A = some ⟨r, 0, none⟩ ∧ r ≠ p ∧ h.get r = some (.row false 1 (ints (w.freed ++ rest))) := by
        cases A with
        | none => have := hA rfl; omega
        | some a => obtain ⟨r, rest, rfl, h1, h2⟩ := hA2 a rfl; exact ⟨r, rest, rfl, h1, h2⟩
      obtain ⟨K, hK⟩ : ∃ K, w.freed.length = K + 1 := ⟨w.freed.length - 1, by omega⟩
      have hrz := IHeap.get_lt hr
      have r3 := (go r hrz).trans hr
      have ct := cut63 (n := K + 1) (c := c) (u := K) r3 (by omega)
      rw [hK] at p2
      simp (maxSteps := 1000000) (disch := first | (simp; done) | (simp only [IHeap.size_push', IHeap.size_set']; omega) | omega) [a0, hn, hd, hI, hwn, g2, one_int, one_slc, p2, hK, wrapU64, wrap64, ct, zeros0]
      have e1 : w.take = ({ has := w.has.set I (w.ser + 1), freed := w.freed.dropLast, ser := w.ser + 1 }, some (I : Int)) := by simp [RA.take, hI, hwn]
      have ns : (w.has.set I (w.ser + 1)).length = w.has.length := by simp
      rw [app62 (l := w.has) (by simp (maxSteps := 1000000) (disch := first | (simp; done) | (simp only [IHeap.size_push', IHeap.size_set']; omega) | omega) []) (by simp (maxSteps := 1000000) (disch := first | (simp; done) | (simp only [IHeap.size_push', IHeap.size_set']; omega) | omega) [r2]) rfl hlen2]
      simp (maxSteps := 1000000) (disch := first | (simp; done) | (simp only [IHeap.size_push', IHeap.size_set']; omega) | omega) [a0, hn, hd, hI, hwn, g2, one_int, one_slc, p2, hIl, hIl2, u64s_len, show I + 1 ≤ w.has.length by omega, RA.takeV, e1]
      refine ⟨niC_pend [] (by kernel_rfl) trivial, niC_pend [] (by kernel_rfl) trivial, ⟨h2.size + 1, .slice (some ⟨r, 0, none⟩) K c, ⟨by simp (maxSteps := 1000000) (disch := first | (simp; done) | (simp only [IHeap.size_push', IHeap.size_set']; omega) | omega) [ns], by simp (maxSteps := 1000000) (disch := first | (simp; done) | (simp only [IHeap.size_push', IHeap.size_set']; omega) | omega) [u64s_splice], ⟨some ⟨r, 0, none⟩, c, by simp [hK], by simp [hK]; omega, by simp, fun a ha => ?_⟩, by omega⟩⟩, ⟨by simp only [IHeap.size_set', IHeap.size_push']; omega, fun i hi hip => ?_⟩⟩
      · cases ha
        refine ⟨r, w.freed.drop K ++ rest, rfl, hrp, ?_⟩
        rw [dropLast_take hK, ← List.append_assoc, List.take_append_drop]
        simp (maxSteps := 1000000) (disch := first | (simp; done) | (simp only [IHeap.size_push', IHeap.size_set']; omega) | omega) [r3, hrp, Ne.symm hrp]
      · have := go i hi
        simp (maxSteps := 1000000) (disch := first | (simp; done) | (simp only [IHeap.size_push', IHeap.size_set']; omega) | omega) [this, hip, Ne.symm hip]
end Go.Proofs.Ytkecaobcchnilaa.Ideal
