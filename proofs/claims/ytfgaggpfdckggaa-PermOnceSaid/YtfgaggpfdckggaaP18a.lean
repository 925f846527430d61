import Derived.Test.YtfgaggpfdckggaaI35
import Derived.Test.YtfgaggpfdckggaaF18
import Derived.Below
import Derived.Test.YtfgaggpfdckggaaPrimRs
import Derived.Test.YtfgaggpfdckggaaHashR
noncomputable section
open Go.Proofs
namespace Go.Proofs.Ytfgaggpfdckggaa.Ideal
open Go.RowKit
set_option linter.unusedSimpArgs false
set_option linter.unusedVariables false
set_option linter.unusedSectionVars false
set_option linter.unnecessarySimpa false
set_option maxRecDepth 100000
set_option maxHeartbeats 2000000
attribute [-simp] IHeap.size_set IHeap.size_push
attribute [local simp ↓] Hid.ap_mk
attribute [local simp] scopeQ_normal scopeQ_ret scopeQ_exit WP_skip WP_label WP_exit WP_goto WP_ret WP_region WP_seq WP_cond WP_block WP_scope WP_loop WP_range thenQ_normal thenQ_ret thenQ_exit thenQ_goto loopQ_normal loopQ_ret loopQ_exit invQ_normal invQ_ret invQ_exit outOf_normal outOf_ret outOf_goto outOf_exit ev_tmp ev_const ev_func
  wops_nil wops_cons wantedE_none wantedE_some jgd_some wnx_eq niC_false wdo_move wdo_assign wdo_pick wdo_load wdo_store wdo_alloc wdo_box wdo_fieldAddr wdo_indexAddr wdo_field wdo_extract wdo_build wdo_buildSlice wdo_makeSlice wdo_binOp wdo_unOp wdo_makeFunc wdo_nilCheck wdo_callV wdo_len wdo_append wdo_copy wdo_delete wdo_max wdo_min wdo_convert jcvt_int
  xput_get put_n put_none put_dfr ibin finQ_n finQ_r finD_nil splice_one ires_nil ires_one ires_two ires_three ires1_tmp ires1_cell jcell_ptr rowLoad_row wrap64 wrapU64 wrapU8 wrapU16 wrapU32 callV_fn buildOf Instr.fill Value.cells Value.oneCell' kindOf slots_all splice_all IHeap.size_set' IHeap.size_push' IHeap.get_set_same IHeap.get_set_ne IHeap.get_pushed IHeap.get_push_ne IHeap.set_set IHeap.set_push IHeap.set_pushed IHeap.set_set3 getU_nil getU_same getU_ne jif_true jif_false pushH_eq setH_eq forceL_eq forceV_eq ibuildSlice
attribute [-simp] Value.oneCell'
theorem mixed : Try.prog.follows .mixedOrders = true := by kernel_rfl
theorem one_int (k : IntKind) (n : Int) : (Value.int k n).oneCell' = true := byEq rfl
theorem int_arg {ρ : Rho} {k : IntKind} {n : Int} {args' : Array Value} (ha : ARel ρ #[.int k n] args') : args' = #[.int k n] := by
  obtain ⟨a, ga, ra⟩ := ha.get (i := 0) (v := .int k n) rfl
  have hs : args'.size = 1 := ha.1.symm
  have e1 := ra.int_inv
  rcases args' with ⟨l0⟩
  match l0, hs, ga with
  | [x], _, ga => simp at ga; rw [ga, e1]
def sizeB (n : Int) : Bool := Ytfgaggpfdckggaa.Prim.sizeZ n
theorem size_c {h : IHeap} (n : Int) : ICall Try.prog 14 #[.int .i64 n] h (.bool (sizeB n)) h := by
  refine ICall.of_below rfl fun ρ w args' ha hm => ?_
  rw [int_arg ha]
  exact (Ytfgaggpfdckggaa.Prim.size_calls n w).mono fun e w' ⟨h1, h2⟩ => ⟨h1, by subst h2; exact Below.refl _ _⟩
theorem rsize_c {h : IHeap} (n : Int) : ICall Try.prog 16 #[.int .i64 n] h (.bool (sizeB n)) h := by
  refine ICall.of_below rfl fun ρ w args' ha hm => ?_
  rw [int_arg ha]
  exact (Ytfgaggpfdckggaa.Prim.rissize_calls n w).mono fun e w' ⟨h1, h2⟩ => ⟨h1, by subst h2; exact Below.refl _ _⟩
def nameH (seed : Nat) (s : ByteArray) : Nat := Ytfgaggpfdckggaa.Hash.seededN seed s.data.toList
theorem name_args {ρ : Rho} {n : Int} {s : ByteArray} {args' : Array Value} (ha : ARel ρ #[.int .u64 n, .string s] args') : args' = #[.int .u64 n, .string s] := by
  obtain ⟨a, ga, ra⟩ := ha.get (i := 0) (v := .int .u64 n) rfl
  obtain ⟨b, gb, rb⟩ := ha.get (i := 1) (v := .string s) rfl
  have hs : args'.size = 2 := ha.1.symm
  have e1 := ra.int_inv
  have e2 : b = .string s := by cases rb with | base h => simpa using h
  rcases args' with ⟨l0⟩
  match l0, hs, ga, gb with
  | [x, y], _, ga, gb => simp at ga gb; rw [ga, gb, e1, e2]
theorem name_c {h : IHeap} (seed : Nat) (s : ByteArray) (hs : seed < 100) (hx : s.size ≤ 1000) : ICall Try.prog 15 #[.int .u64 (seed : Int), .string s] h (.int .u64 (nameH seed s : Int)) h := by
  refine ICall.of_below rfl fun ρ w args' ha hm => ?_
  rw [name_args ha]
  exact Ytfgaggpfdckggaa.Hash.name_calls seed s w (by omega) (by omega)
theorem rname_c {h : IHeap} (seed : Nat) (s : ByteArray) (hs : seed < 100) (hx : s.size ≤ 1000) : ICall Try.prog 17 #[.int .u64 (seed : Int), .string s] h (.int .u64 (nameH seed s : Int)) h := by
  refine ICall.of_below rfl fun ρ w args' ha hm => ?_
  rw [name_args ha]
  exact Ytfgaggpfdckggaa.Hash.rname_calls seed s w (by omega) (by omega)
def mayB (o s m : Int) : Bool := sizeB m && decide (0 ≤ o) && decide (o < m) && decide (1 ≤ s) && decide (s < m)
def pmV (o s m : Int) : Value := .agg #[.int .i64 o, .int .i64 s, .int .i64 m]
theorem may_c {h : IHeap} (o s m : Int) : CT Try.prog 8 #[pmV o s m] h (.bool (mayB o s m)) [] := by
  refine FN.enter mixed (fn := Try.f8) (by kernel_rfl) rfl (by kernel_rfl) fun e hn hg hd => ?_
  simp [Try.f8] at hn
  have a0 : e.get 0 = pmV o s m := hg 0 (by omega)
  clear hg
  simp (maxSteps := 1000000) (disch := first | (simp; done) | (simp only [IHeap.size_push', IHeap.size_set']; omega) | omega) [a0, hn, hd, pmV]
  refine FN.of (size_c m) ?_
  cases hs : sizeB m
  · simp (maxSteps := 1000000) (disch := first | (simp; done) | (simp only [IHeap.size_push', IHeap.size_set']; omega) | omega) [hn, hd, mayB, hs]
    exact (Fr.refl _).push _
  · (simp (maxSteps := 1000000) (disch := first | (simp; done) | (simp only [IHeap.size_push', IHeap.size_set']; omega) | omega) [hn, hd, mayB, hs]) <;> repeat' (refine jif_split (fun hc => ?_) (fun hc => ?_) <;> (try simp only [Classical.not_not] at hc) <;> (try simp (maxSteps := 1000000) (disch := first | (simp; done) | (simp only [IHeap.size_push', IHeap.size_set']; omega) | omega) [*, Hid.ap_mk, hn, hd, mayB, hs]))
    all_goals exact (Fr.refl _).push _
theorem pos_iff (s : Int) : (0 < s) = (1 ≤ s) := by rw [eq_iff_iff]; omega
theorem rmay_c {h : IHeap} (o s m : Int) : CT Try.prog 9 #[pmV o s m] h (.bool (mayB o s m)) [] := by
  refine FN.enter mixed (fn := Try.f9) (by kernel_rfl) rfl (by kernel_rfl) fun e hn hg hd => ?_
  simp [Try.f9] at hn
  have a0 : e.get 0 = pmV o s m := hg 0 (by omega)
  clear hg
  simp (maxSteps := 1000000) (disch := first | (simp; done) | (simp only [IHeap.size_push', IHeap.size_set']; omega) | omega) [a0, hn, hd, pmV]
  refine FN.of (rsize_c m) ?_
  cases hs : sizeB m
  · simp (maxSteps := 1000000) (disch := first | (simp; done) | (simp only [IHeap.size_push', IHeap.size_set']; omega) | omega) [hn, hd, mayB, hs]
    exact (Fr.refl _).push _
  · (simp (maxSteps := 1000000) (disch := first | (simp; done) | (simp only [IHeap.size_push', IHeap.size_set']; omega) | omega) [hn, hd, mayB, hs, pos_iff]) <;> repeat' (refine jif_split (fun hc => ?_) (fun hc => ?_) <;> (try simp only [Classical.not_not] at hc) <;> (try simp (maxSteps := 1000000) (disch := first | (simp; done) | (simp only [IHeap.size_push', IHeap.size_set']; omega) | omega) [*, Hid.ap_mk, hn, hd, mayB, hs, pos_iff]))
    all_goals exact (Fr.refl _).push _
theorem size_ge {m : Int} (h : sizeB m = true) : 7 ≤ m ∧ m ≤ 65537 := Ytfgaggpfdckggaa.Prim.sizeZ_ge m h
/-- A name's permutation. -/
def ofO (m : Int) (s : ByteArray) : Int := (nameH 1 s : Int) % m
def ofS (m : Int) (s : ByteArray) : Int := (nameH 2 s : Int) % (m - 1) + 1
theorem nameH_lt (k : Nat) (s : ByteArray) : nameH k s < 18446744073709551616 := Ytfgaggpfdckggaa.Hash.seededN_lt _ _
def ofV (m : Int) (s : ByteArray) : Value := if sizeB m then .tuple #[pmV (ofO m s) (ofS m s) m, .int .i64 0] else .tuple #[pmV 0 0 0, .int .i64 2]
theorem of_c {h : IHeap} (s : ByteArray) (m : Int) (hs : s.size ≤ 1000) : CT Try.prog 6 #[.string s, .int .i64 m] h (ofV m s) [] := by
  refine FN.enter mixed (fn := Try.f6) (by kernel_rfl) rfl (by kernel_rfl) fun e hn hg hd => ?_
  simp [Try.f6] at hn
  have a0 : e.get 0 = .string s := hg 0 (by omega)
  have a1 : e.get 1 = .int .i64 m := hg 1 (by omega)
  clear hg
  simp (maxSteps := 1000000) (disch := first | (simp; done) | (simp only [IHeap.size_push', IHeap.size_set']; omega) | omega) [a0, a1, hn, hd]
  refine FN.of (size_c m) ?_
  cases hz : sizeB m
  · simp (maxSteps := 1000000) (disch := first | (simp; done) | (simp only [IHeap.size_push', IHeap.size_set']; omega) | omega) [hn, hd, ofV, hz, pmV, one_int]
    exact (Fr.refl _).push _
  · obtain ⟨m7, mm⟩ := size_ge hz
    simp (maxSteps := 1000000) (disch := first | (simp; done) | (simp only [IHeap.size_push', IHeap.size_set']; omega) | omega) [hn, hd, ofV, hz, a0, a1]
    refine FN.of (name_c 1 s (by omega) hs) ?_
    have n1 := nameH_lt 1 s
    have n2 := nameH_lt 2 s
    have t1 : ((nameH 1 s : Nat) : Int).tmod m = ofO m s := Int.tmod_eq_emod_of_nonneg (by omega)
    have t2 : ((nameH 2 s : Nat) : Int).tmod (m - 1) = ofS m s - 1 := by rw [Int.tmod_eq_emod_of_nonneg (by omega)]; unfold ofS; omega
    have b1 := Int.emod_nonneg (nameH 1 s : Int) (show m ≠ 0 by omega)
    have b2 := Int.emod_lt_of_pos (nameH 1 s : Int) (show 0 < m by omega)
    have b3 := Int.emod_nonneg (nameH 2 s : Int) (show m - 1 ≠ 0 by omega)
    have b4 := Int.emod_lt_of_pos (nameH 2 s : Int) (show 0 < m - 1 by omega)
    have o1 : 0 ≤ ofO m s ∧ ofO m s < m := ⟨b1, b2⟩
    have o2 : 1 ≤ ofS m s ∧ ofS m s < m := by unfold ofS; omega
    have m0 : m ≠ 0 := by omega
    have m1 : m - 1 ≠ 0 := by omega
    simp (maxSteps := 1000000) (disch := first | (simp; done) | (simp only [IHeap.size_push', IHeap.size_set']; omega) | omega) [hn, hd, ofV, hz, a0, a1, t1, m0, wrapU64, wrap64]
    refine FN.of (name_c 2 s (by omega) hs) ?_
    simp (maxSteps := 1000000) (disch := first | (simp; done) | (simp only [IHeap.size_push', IHeap.size_set']; omega) | omega) [hn, hd, ofV, hz, a0, a1, t1, t2, m0, m1, wrapU64, wrap64, one_int, pmV]
    refine ⟨niC_pend [] (by kernel_rfl) trivial, ⟨by simp <;> omega, fun i hi => by simp only [IHeap.get_set_if, IHeap.get_push, IHeap.size_set', IHeap.size_push', getU, ]; grind⟩⟩
theorem rof_c {h : IHeap} (s : ByteArray) (m : Int) (hs : s.size ≤ 1000) : CT Try.prog 7 #[.string s, .int .i64 m] h (ofV m s) [] := by
  refine FN.enter mixed (fn := Try.f7) (by kernel_rfl) rfl (by kernel_rfl) fun e hn hg hd => ?_
  simp [Try.f7] at hn
  have a0 : e.get 0 = .string s := hg 0 (by omega)
  have a1 : e.get 1 = .int .i64 m := hg 1 (by omega)
  clear hg
  simp (maxSteps := 1000000) (disch := first | (simp; done) | (simp only [IHeap.size_push', IHeap.size_set']; omega) | omega) [a0, a1, hn, hd]
  refine FN.of (rsize_c m) ?_
  cases hz : sizeB m
  · simp (maxSteps := 1000000) (disch := first | (simp; done) | (simp only [IHeap.size_push', IHeap.size_set']; omega) | omega) [hn, hd, ofV, hz, pmV, one_int]
    exact (Fr.refl _).push _
  · obtain ⟨m7, mm⟩ := size_ge hz
    simp (maxSteps := 1000000) (disch := first | (simp; done) | (simp only [IHeap.size_push', IHeap.size_set']; omega) | omega) [hn, hd, ofV, hz, a0, a1, one_int]
    refine FN.of (rname_c 1 s (by omega) hs) ?_
    have n1 := nameH_lt 1 s
    have n2 := nameH_lt 2 s
    have t1 : ((nameH 1 s : Nat) : Int).tmod m = ofO m s := Int.tmod_eq_emod_of_nonneg (by omega)
    have t2 : ((nameH 2 s : Nat) : Int).tmod (m - 1) = ofS m s - 1 := by rw [Int.tmod_eq_emod_of_nonneg (by omega)]; unfold ofS; omega
    have b1 := Int.emod_nonneg (nameH 1 s : Int) (show m ≠ 0 by omega)
    have b2 := Int.emod_lt_of_pos (nameH 1 s : Int) (show 0 < m by omega)
    have b3 := Int.emod_nonneg (nameH 2 s : Int) (show m - 1 ≠ 0 by omega)
    have b4 := Int.emod_lt_of_pos (nameH 2 s : Int) (show 0 < m - 1 by omega)
    have o1 : 0 ≤ ofO m s ∧ ofO m s < m := ⟨b1, b2⟩
    have o2 : 1 ≤ ofS m s ∧ ofS m s < m := by unfold ofS; omega
    have m0 : m ≠ 0 := by omega
    have m1 : m - 1 ≠ 0 := by omega
    have e1 : 1 + (ofS m s - 1) = ofS m s := by omega
    simp (maxSteps := 1000000) (disch := first | (simp; done) | (simp only [IHeap.size_push', IHeap.size_set']; omega) | omega) [hn, hd, ofV, hz, a0, a1, t1, m0, wrapU64, wrap64, one_int]
    refine FN.of (rname_c 2 s (by omega) hs) ?_
    simp (maxSteps := 1000000) (disch := first | (simp; done) | (simp only [IHeap.size_push', IHeap.size_set']; omega) | omega) [hn, hd, ofV, hz, a0, a1, t1, t2, m0, m1, wrapU64, wrap64, one_int, pmV, e1]
    exact ⟨by simp <;> omega, fun i hi => by simp only [IHeap.get_set_if, IHeap.get_push, IHeap.size_set', IHeap.size_push', getU, ]; grind⟩
def sq (o s m : Int) (k : Nat) : Int := (o + k * s) % m
theorem may_ge {o s m : Int} (h : mayB o s m = true) : 7 ≤ m ∧ m ≤ 65537 ∧ 0 ≤ o ∧ o < m ∧ 1 ≤ s ∧ s < m := by
  unfold mayB at h
  simp only [Bool.and_eq_true, decide_eq_true_eq] at h
  obtain ⟨⟨⟨⟨h1, h2⟩, h3⟩, h4⟩, h5⟩ := h
  have := size_ge h1
  omega
theorem sq_rng {o s m : Int} (h : 7 ≤ m) (k : Nat) : 0 ≤ sq o s m k ∧ sq o s m k < m := ⟨Int.emod_nonneg _ (by omega), Int.emod_lt_of_pos _ (by omega)⟩
def atV (o s m i : Int) : Int := if 0 ≤ i ∧ mayB o s m = true then sq o s m (i % m).toNat else -1
theorem at_c {h : IHeap} (o s m i : Int) : CT Try.prog 12 #[pmV o s m, .int .i64 i] h (.int .i64 (atV o s m i)) [] := by
  refine FN.enter mixed (fn := Try.f12) (by kernel_rfl) rfl (by kernel_rfl) fun e hn hg hd => ?_
  simp [Try.f12] at hn
  have a0 : e.get 0 = pmV o s m := hg 0 (by omega)
  have a1 : e.get 1 = .int .i64 i := hg 1 (by omega)
  clear hg
  by_cases hi : i < 0
  · have : ¬ 0 ≤ i := by omega
    simp (maxSteps := 1000000) (disch := first | (simp; done) | (simp only [IHeap.size_push', IHeap.size_set']; omega) | omega) [a0, a1, hn, hd, pmV, hi, atV, this]
    exact (Fr.refl _).push _
  · simp (maxSteps := 1000000) (disch := first | (simp; done) | (simp only [IHeap.size_push', IHeap.size_set']; omega) | omega) [a0, a1, hn, hd, pmV, hi, one_int]
    have hi0 : 0 ≤ i := by omega
    refine FN.ct (may_c o s m) ?_
    intro h2 fr
    have g2 : h2.get h.size = some (.row false 0 [.int .i64 o, .int .i64 s, .int .i64 m]) := by
      rw [fr.get _ (by (try simp only [IHeap.size_push', IHeap.size_set']); omega)]
      simp (maxSteps := 1000000) (disch := first | (simp; done) | (simp only [IHeap.size_push', IHeap.size_set']; omega) | omega) []
    cases hm : mayB o s m
    · simp (maxSteps := 1000000) (disch := first | (simp; done) | (simp only [IHeap.size_push', IHeap.size_set']; omega) | omega) [a0, a1, hn, hd, pmV, hi, atV, hm]
      exact ⟨by have sz0 := (fr).size; (try simp only [IHeap.size_push', IHeap.size_set'] at sz0); (try simp only [IHeap.size_push', IHeap.size_set']); omega, fun i hi => by have sz0 := (fr).size; (try simp only [IHeap.size_push', IHeap.size_set'] at sz0); have ge0 := (fr).get i (by (try simp only [IHeap.size_push', IHeap.size_set']); omega); (try simp only [IHeap.get_set_if, IHeap.get_push, IHeap.size_set', IHeap.size_push', getU,  getU] at ge0 ⊢); grind⟩
    · obtain ⟨m7, mm, o0, o1, s1, s2⟩ := may_ge hm
      have q0 := Int.emod_nonneg i (show m ≠ 0 by omega)
      have q1 := Int.emod_lt_of_pos i (show 0 < m by omega)
      have e1 : i.tmod m = i % m := Int.tmod_eq_emod_of_nonneg hi0
      have p0 := Int.mul_nonneg q0 (show 0 ≤ s by omega)
      have p1 : i % m * s ≤ 65537 * 65537 := Int.mul_le_mul (by omega) (by omega) (by omega) (by omega)
      have e2 : (o + i % m * s).tmod m = sq o s m (i % m).toNat := by
        rw [Int.tmod_eq_emod_of_nonneg (by omega)]
        unfold sq
        rw [show (((i % m).toNat : Nat) : Int) = i % m by omega]
      have r := sq_rng (o := o) (s := s) m7 (i % m).toNat
      have m0 : m ≠ 0 := by omega
      simp (maxSteps := 1000000) (disch := first | (simp; done) | (simp only [IHeap.size_push', IHeap.size_set']; omega) | omega) [a0, a1, hn, hd, pmV, hi, hi0, atV, hm, g2, e1, e2, m0, wrap64]
      refine ⟨niC_pend [] (by kernel_rfl) trivial, ⟨by have sz0 := (fr).size; (try simp only [IHeap.size_push', IHeap.size_set'] at sz0); (try simp only [IHeap.size_push', IHeap.size_set']); omega, fun i hi => by have sz0 := (fr).size; (try simp only [IHeap.size_push', IHeap.size_set'] at sz0); have ge0 := (fr).get i (by (try simp only [IHeap.size_push', IHeap.size_set']); omega); (try simp only [IHeap.get_set_if, IHeap.get_push, IHeap.size_set', IHeap.size_push', getU,  getU] at ge0 ⊢); grind⟩⟩
end Go.Proofs.Ytfgaggpfdckggaa.Ideal
