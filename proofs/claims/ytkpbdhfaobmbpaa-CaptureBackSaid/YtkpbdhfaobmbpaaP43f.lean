import Derived.Test.YtkpbdhfaobmbpaaP43b
import Derived.Test.YtkpbdhfaobmbpaaI40
noncomputable section
open Go.Proofs
namespace Go.Proofs.Ytkpbdhfaobmbpaa.Ideal
open Go.RowKit
set_option linter.unusedSimpArgs false
set_option linter.unusedVariables false
set_option linter.unusedSectionVars false
set_option maxRecDepth 100000
set_option maxHeartbeats 4000000
attribute [-simp] IHeap.size_set IHeap.size_push
attribute [local simp ↓] Hid.ap_mk
attribute [local simp] scopeQ_normal scopeQ_ret scopeQ_exit WP_skip WP_label WP_exit WP_goto WP_ret WP_region WP_seq WP_cond WP_block WP_scope WP_loop WP_range thenQ_normal thenQ_ret thenQ_exit thenQ_goto loopQ_normal loopQ_ret loopQ_exit invQ_normal invQ_ret invQ_exit outOf_normal outOf_ret outOf_goto outOf_exit ev_tmp ev_const ev_func
  wops_nil wops_cons wantedE_none wantedE_some jgd_some wnx_eq niC_false wdo_move wdo_assign wdo_pick wdo_load wdo_store wdo_alloc wdo_box wdo_fieldAddr wdo_indexAddr wdo_field wdo_extract wdo_build wdo_buildSlice wdo_makeSlice wdo_binOp wdo_unOp wdo_makeFunc wdo_nilCheck wdo_callV wdo_len wdo_append wdo_copy wdo_delete wdo_max wdo_min wdo_convert jcvt_int
  xput_get put_n put_none put_dfr ibin finQ_n finQ_r finD_nil splice_one ires_nil ires_one ires_two ires_three ires1_tmp ires1_cell jcell_ptr rowLoad_row wrap64 wrapU64 wrapU8 wrapU16 wrapU32 callV_fn buildOf Instr.fill Value.cells Value.oneCell' kindOf slots_all splice_all IHeap.size_set' IHeap.size_push' IHeap.get_set_same IHeap.get_set_ne IHeap.get_pushed IHeap.get_push_ne IHeap.set_set IHeap.set_push IHeap.set_pushed IHeap.set_set3 getU_nil getU_same getU_ne jif_true jif_false pushH_eq setH_eq forceL_eq forceV_eq ibuildSlice
attribute [local simp] wdo_index jopt_some wdo_cutV
attribute [-simp] Value.oneCell'
attribute [local simp] one_int' one_slc'
/-- What lay there up to lo stays, and all rows but those of one's own bytes. -/
structure Wk (lo : Nat) (h h' : IHeap) : Prop where
  eq : ∀ i, i < lo → h'.get i = h.get i
  row : ∀ i z cs, z ≠ 1 → h.get i = some (.row false z cs) → h'.get i = some (.row false z cs)
  le : h.size ≤ h'.size
theorem Wk.refl (lo : Nat) (h : IHeap) : Wk lo h h := ⟨fun _ _ => rfl, fun _ _ _ _ e => e, Nat.le_refl _⟩
theorem Wk.trans {lo : Nat} {a b c : IHeap} (x : Wk lo a b) (y : Wk lo b c) : Wk lo a c := ⟨fun i hi => (y.eq i hi).trans (x.eq i hi), fun i z cs hz e => y.row i z cs hz (x.row i z cs hz e), Nat.le_trans x.le y.le⟩
theorem Keep.wk {lo : Nat} {h h' : IHeap} (k : Keep h h') (hl : lo ≤ h.size) : Wk lo h h' := ⟨fun i hi => k.eq i (by omega), fun i z cs _ e => k.get e, k.le⟩
theorem Wk.push {lo : Nat} {a h : IHeap} (x : Wk lo a h) (o : IObj) (hl : lo ≤ h.size) : Wk lo a (h.push o) := x.trans ((Keep.push h o).wk hl)
/-- Bytes behind one's own. -/
theorem app_bys {lo m : Nat} {h : IHeap} {v x : Value} {xs ys : List Nat} (o : OwnB lo h v xs) (hm : m = ys.length) (sr : srcOf h 1 x = some (m, bys ys)) (hl : lo ≤ h.size) (hx : xs.length + ys.length ≤ 1000000) :
    ∃ v' h', iappend Try.prog h 26 26 v x = some (v', h') ∧ OwnB lo h' v' (xs ++ ys) ∧ Wk lo h h' := by
  subst hm
  rcases o with ⟨rfl, rfl⟩ | ⟨j, hj, rfl, hg⟩
  · by_cases hy : ys = []
    · subst hy
      have : iappend Try.prog h 26 26 (.slice none 0 0) x = some (.slice none 0 0, h) := by
        rw [show ([] : List Nat).length = 0 from rfl, show bys [] = [] from rfl] at sr
        simp only [iappend, sl26, ze5, bt5, asrcOf, ni26, if_true, sr]
        simp
      exact ⟨_, _, this, .inl ⟨rfl, rfl⟩, Wk.refl _ _⟩
    · refine ⟨_, _, iapp_nil sl26 ze5 bt5 rfl (by omega) ni26 sr (bys_all ys) (fun h => hy (List.eq_nil_of_length_eq_zero h)) (by simp only [List.length_nil] at hx; omega), .inr ⟨h.size, hl, rfl, IHeap.get_pushed _ rfl⟩, (Keep.push _ _).wk hl⟩
  · have hjs := IHeap.get_lt hg
    obtain ⟨h2, k, ap, r2, k2, z2, f2⟩ := iapp_any (P := Try.prog) (h := h) (t := 26) (t2 := 26) (i := j) (n := xs.length) (m := ys.length) (cs := bys xs) (news := bys ys) sl26 ze5 bt5 (by rfl) (by omega) ni26 sr (bys_all ys) (by rw [bys_len]; omega) (by omega) hg (by rw [bys_len]; omega)
    refine ⟨_, h2, ap, .inr ⟨k, by omega, by rw [List.length_append], by rw [r2, bys_app]⟩, fun i hi => k2 i (by omega) (by omega), fun i z cs hz e => ?_, z2⟩
    rw [k2 i (IHeap.get_lt e) (fun hh => by
      subst hh
      rw [hg] at e
      cases e
      exact hz rfl)]
    exact e
/-- A number's bytes. -/
def layL (high : Bool) (n many : Nat) : List Nat := (List.range many).map fun i => n / 2 ^ (8 * (if high then many - 1 - i else i)) % 256
theorem layL_len (high : Bool) (n many : Nat) : (layL high n many).length = many := by simp [layL]
theorem u8_src (h : IHeap) (x : Nat) : srcOf (h.push (.row false 1 [.int .u8 (x : Nat)])) 1 (.slice (some ⟨h.size, 0, none⟩) 1 1) = some ([x].length, bys [x]) := src_row (IHeap.get_pushed _ rfl) (by exact slots_full _ rfl) (by omega)
theorem layL_take {high : Bool} {n many j : Nat} (hj : j < many) : (layL high n many).take (j + 1) = (layL high n many).take j ++ [n / 2 ^ (8 * (if high then many - 1 - j else j)) % 256] := by
  rw [List.take_succ_eq_append_getElem (by rw [layL_len]; exact hj)]
  simp [layL]
theorem shr_div (n k : Nat) : (n : Int).fdiv (2 ^ k) = ((n / 2 ^ k : Nat) : Int) := by
  have : ((2 : Int) ^ k) = ((2 ^ k : Nat) : Int) := by push_cast; rfl
  rw [this, Int.fdiv_eq_ediv_of_nonneg _ (Int.natCast_nonneg _)]
  rfl
theorem lay_c {lo : Nat} {h : IHeap} {v : Value} {xs : List Nat} {high : Bool} {n many : Nat} (o : OwnB lo h v xs) (hl : lo ≤ h.size) (hn : n < 4294967296) (hm : many ≤ 4) (hx : xs.length ≤ 999000) :
    FN Try.prog 23 #[.agg #[.bool high], v, .int .u32 n, .int .i64 many] h (Q := ⟨fun v' h' => OwnB lo h' v' (xs ++ layL high n many) ∧ Wk lo h h'⟩) := by
  have hn4 := hn
  clear hn
  refine FN.enter mixed (fn := Try.f23) (by kernel_rfl) rfl (by kernel_rfl) fun e hn hg hd => ?_
  simp [Try.f23] at hn
  have a0 : e.get 0 = .agg #[.bool high] := hg 0 (by omega)
  have a1 : e.get 1 = v := hg 1 (by omega)
  have a2 : e.get 2 = .int .u32 n := hg 2 (by omega)
  have a3 : e.get 3 = .int .i64 many := hg 3 (by omega)
  clear hg
  simp (maxSteps := 1000000) (disch := first | (simp; done) | (simp only [IHeap.size_push', IHeap.size_set']; omega) | omega) [a0, a1, a2, a3, hn, hd]
  refine WPL.by_inv mixed (by kernel_rfl) (fun k e h' => ∃ (j : Nat) (w : Value), j + k = many ∧ e.n = 32 ∧ e.dfr = [] ∧ e.get 1 = w ∧ e.get 2 = .int .u32 n ∧ e.get 3 = .int .i64 many ∧ e.get 4 = .pointer (some ⟨h.size, 0, none⟩) ∧ e.get 11 = .int .i64 many ∧ e.get 12 = .int .i64 j ∧ OwnB lo h' w (xs ++ (layL high n many).take j) ∧ Wk lo h h' ∧ h'.get h.size = some (.row false 0 [.bool high]) ∧ h.size < h'.size) many ?_ ?_
  · refine ⟨0, v, ?_⟩
    simp (maxSteps := 1000000) (disch := first | (simp; done) | (simp only [IHeap.size_push', IHeap.size_set']; omega) | omega) [a0, a1, a2, a3, hn, hd]
    exact ⟨o.keep (Keep.push _ _), (Keep.push _ _).wk hl⟩
  clear hn hd a0 a1 a2 a3 e
  rintro k e h1 ⟨j, w, hj, hn, hd, a1, a2, a3, a4, a11, a12, ow, wk, bx, bz⟩
  cases k with
  | zero =>
    obtain rfl : j = many := by omega
    simp (maxSteps := 1000000) (disch := first | (simp; done) | (simp only [IHeap.size_push', IHeap.size_set']; omega) | omega) [a1, a2, a3, a4, a11, a12, hn, hd]
    rw [List.take_of_length_le (by rw [layL_len]; exact Nat.le_refl _)] at ow
    exact ⟨ow, wk⟩
  | succ k =>
    have j1 : (j : Int) < many := by omega
    cases high with
    | true =>
      obtain ⟨p, hp⟩ : ∃ p : Nat, p = many - 1 - j := ⟨_, rfl⟩
      have p4 : p ≤ 3 := by omega
      have ei : (many : Int) - 1 - j = p := by omega
      have c1 : ¬ (8 * (p : Int) < 0) := by omega
      have c3 : min (8 * (p : Int)).toNat IntKind.u32.bits = 8 * p := by
        have : IntKind.u32.bits = 32 := rfl
        omega
      obtain ⟨d, hd2⟩ : ∃ d : Nat, d = n / 2 ^ (8 * p) := ⟨_, rfl⟩
      have c4 : (n : Int).fdiv (2 ^ (8 * p)) = (d : Int) := by
        rw [shr_div, hd2]
      have c5 : IntKind.u8.wrap (d : Int) = ((d % 256 : Nat) : Int) := by
        simp [IntKind.wrap, IntKind.signed, IntKind.bits]
      obtain ⟨x, hx2⟩ : ∃ x : Nat, x = d % 256 := ⟨_, rfl⟩
      rw [← hx2] at c5
      have z1 : zeros #[Value.int .u8 0] 1 = [Value.int .u8 0] := rfl
      obtain ⟨v', h', ap, ow2, wk2⟩ := app_bys (ow.keep (Keep.push h1 (.row false 1 [.int .u8 (x : Nat)]))) rfl (u8_src h1 x) (by have := wk.le; rw [IHeap.size_push']; omega) (by rw [List.length_append, List.length_take, layL_len, List.length_singleton]; omega)
      have wk3 := (wk.push (.row false 1 [.int .u8 (x : Nat)]) (by have := wk.le; omega)).trans wk2
      have bx2 := wk2.row h.size 0 _ (by omega) ((Keep.push h1 _).get bx)
      have le2 := wk2.le
      rw [IHeap.size_push'] at le2
      simp (maxSteps := 1000000) (disch := first | (simp; done) | (simp only [IHeap.size_push', IHeap.size_set']; omega) | omega) [a1, a2, a3, a4, a11, a12, hn, hd, j1, bx, ei, c1, c3, c4, c5, z1, ap]
      refine ⟨k, by omega, j + 1, by omega, by omega, ?_, wk3, bx2, by omega⟩
      rw [layL_take (by omega), ← List.append_assoc]
      have : n / 2 ^ (8 * if true = true then many - 1 - j else j) % 256 = x := by
        rw [hx2, hd2, hp]
        rfl
      rw [this]
      exact ow2
    | false =>
      obtain ⟨p, hp⟩ : ∃ p : Nat, p = j := ⟨_, rfl⟩
      have p4 : p ≤ 3 := by omega
      obtain rfl : p = j := hp
      have c1 : ¬ (8 * (p : Int) < 0) := by omega
      have c3 : min (8 * (p : Int)).toNat IntKind.u32.bits = 8 * p := by
        have : IntKind.u32.bits = 32 := rfl
        omega
      obtain ⟨d, hd2⟩ : ∃ d : Nat, d = n / 2 ^ (8 * p) := ⟨_, rfl⟩
      have c4 : (n : Int).fdiv (2 ^ (8 * p)) = (d : Int) := by
        rw [shr_div, hd2]
      have c5 : IntKind.u8.wrap (d : Int) = ((d % 256 : Nat) : Int) := by
        simp [IntKind.wrap, IntKind.signed, IntKind.bits]
      obtain ⟨x, hx2⟩ : ∃ x : Nat, x = d % 256 := ⟨_, rfl⟩
      rw [← hx2] at c5
      have z1 : zeros #[Value.int .u8 0] 1 = [Value.int .u8 0] := rfl
      obtain ⟨v', h', ap, ow2, wk2⟩ := app_bys (ow.keep (Keep.push h1 (.row false 1 [.int .u8 (x : Nat)]))) rfl (u8_src h1 x) (by have := wk.le; rw [IHeap.size_push']; omega) (by rw [List.length_append, List.length_take, layL_len, List.length_singleton]; omega)
      have wk3 := (wk.push (.row false 1 [.int .u8 (x : Nat)]) (by have := wk.le; omega)).trans wk2
      have bx2 := wk2.row h.size 0 _ (by omega) ((Keep.push h1 _).get bx)
      have le2 := wk2.le
      rw [IHeap.size_push'] at le2
      simp (maxSteps := 1000000) (disch := first | (simp; done) | (simp only [IHeap.size_push', IHeap.size_set']; omega) | omega) [a1, a2, a3, a4, a11, a12, hn, hd, j1, bx, c1, c3, c4, c5, z1, ap]
      refine ⟨k, by omega, p + 1, by omega, by omega, ?_, wk3, bx2, by omega⟩
      rw [layL_take (by omega), ← List.append_assoc]
      have : n / 2 ^ (8 * if false = true then many - 1 - p else p) % 256 = x := by
        rw [hx2, hd2]
        rfl
      rw [this]
      exact ow2
theorem ni3 : notInt Try.prog 3 = false := by kernel_rfl
theorem app_zeros {h : IHeap} {j : Nat} {xs : List Nat} (hg : h.get j = some (.row false 1 (bys xs))) (hx : xs.length ≤ 1000) :
    iappend Try.prog h 26 3 (.slice (some ⟨j, 0, none⟩) xs.length xs.length) (.int .i64 8) = some (.slice (some ⟨h.size, 0, none⟩) (xs.length + 8) (xs.length + 8), (h.set j .dead).push (.row false 1 (bys (xs ++ [0, 0, 0, 0, 0, 0, 0, 0])))) := by
  have e0 : asrcOf Try.prog h 3 #[.int .u8 0] 1 1 (.int .i64 8) = some (8, bys [0, 0, 0, 0, 0, 0, 0, 0]) := by
    unfold asrcOf
    rw [ni3, un3]
    rfl
  have hi := IHeap.get_lt hg
  have h3 : (bys [0, 0, 0, 0, 0, 0, 0, 0]).all (·.oneCell') = true := bys_all _
  have h5 : slots (bys xs) 0 (xs.length * 1) = some (bys xs) := slots_full _ (by rw [bys_len, Nat.mul_one])
  have h6 : ¬ xs.length + 8 ≤ xs.length := by omega
  have h7 : (xs.length + 8) * 1 ≤ 140737488355328 ∧ xs.length + 8 ≤ 4611686018427387904 := by omega
  simp only [iappend, sl26, ze5, bt5, e0]
  have h1 : (#[Value.int .u8 0].size == 1 && (1 : Nat) != 0 && (bys [0, 0, 0, 0, 0, 0, 0, 0]).all (·.oneCell')) = true := by rw [h3]; rfl
  simp only [h1, h6, h7, and_self, if_true, if_false, hg, h5, Option.map_some, or_true, bys_app]
/-- A file's head, without the most that it keeps. -/
def headL (high : Bool) : List Nat := layL high 2712847316 4 ++ layL high 2 2 ++ layL high 4 2 ++ [0, 0, 0, 0, 0, 0, 0, 0]
theorem head_c {h : IHeap} {high : Bool} : FN Try.prog 24 #[.agg #[.bool high]] h (Q := ⟨fun v h' => OwnB h.size h' v (headL high) ∧ Wk h.size h h'⟩) := by
  refine FN.enter mixed (fn := Try.f24) (by kernel_rfl) rfl (by kernel_rfl) fun e hn hg hd => ?_
  simp [Try.f24] at hn
  have a0 : e.get 0 = .agg #[.bool high] := hg 0 (by omega)
  clear hg
  simp (maxSteps := 1000000) (disch := first | (simp; done) | (simp only [IHeap.size_push', IHeap.size_set']; omega) | omega) [a0, hn, hd]
  have l1 := lay_c (lo := h.size) (h := h.push (.row false 0 [.bool high])) (high := high) (n := 2712847316) (many := 4) (.inl ⟨rfl, rfl⟩) (by rw [IHeap.size_push']; omega) (by omega) (by omega) (by simp)
  refine FN.mono l1 ?_
  rintro v1 h1 ⟨o1, w1⟩
  have b1 := w1.row h.size 0 _ (by omega) (IHeap.get_pushed _ rfl)
  have z1 := w1.le
  rw [IHeap.size_push'] at z1
  simp (maxSteps := 1000000) (disch := first | (simp; done) | (simp only [IHeap.size_push', IHeap.size_set']; omega) | omega) [a0, hn, hd, b1]
  have l2 := lay_c (n := 2) (many := 2) (high := high) o1 (by omega) (by omega) (by omega) (by rw [List.length_append, layL_len]; simp)
  refine FN.mono l2 ?_
  rintro v2 h2 ⟨o2, w2⟩
  have b2 := w2.row h.size 0 _ (by omega) b1
  have z2 := w2.le
  simp (maxSteps := 1000000) (disch := first | (simp; done) | (simp only [IHeap.size_push', IHeap.size_set']; omega) | omega) [a0, hn, hd, b1, b2]
  have l3 := lay_c (n := 4) (many := 2) (high := high) o2 (by omega) (by omega) (by omega) (by simp [layL_len])
  refine FN.mono l3 ?_
  rintro v3 h3 ⟨o3, w3⟩
  have z3 := w3.le
  rw [List.nil_append] at o3
  unfold headL
  have ln : (layL high 2712847316 4 ++ layL high 2 2 ++ layL high 4 2).length = 8 := by simp [layL_len]
  obtain ⟨L, hL⟩ : ∃ L, layL high 2712847316 4 ++ layL high 2 2 ++ layL high 4 2 = L := ⟨_, rfl⟩
  rw [hL] at o3 ln ⊢
  rcases o3 with ⟨_, hx⟩ | ⟨j, hj, rfl, hg⟩
  · rw [hx] at ln
    simp at ln
  have az := app_zeros hg (by omega)
  have hjl := IHeap.get_lt hg
  simp (maxSteps := 1000000) (disch := first | (simp; done) | (simp only [IHeap.size_push', IHeap.size_set']; omega) | omega) [a0, hn, hd, b1, b2, az]
  have wk := ((((Keep.push h (.row false 0 [.bool high])).wk (Nat.le_refl _)).trans w1).trans w2).trans w3
  refine ⟨niC_pend [(0, 3)] (by kernel_rfl) ⟨b2.trans b1.symm, trivial⟩, .inr ⟨h3.size, wk.le, by rw [List.length_append]; rfl, IHeap.get_pushed _ (by rw [IHeap.size_set'])⟩, fun i hi => ?_, fun i z cs hz e => ?_, by rw [IHeap.size_push', IHeap.size_set']; omega⟩
  · rw [IHeap.get_push_ne _ (by rw [IHeap.size_set']; omega), IHeap.get_set_ne _ (by omega)]
    exact wk.eq i hi
  · have e2 := wk.row i z cs hz e
    have := IHeap.get_lt e2
    rw [IHeap.get_push_ne _ (by rw [IHeap.size_set']; omega), IHeap.get_set_ne _ (fun hh => by
      subst hh
      rw [hg] at e2
      cases e2
      exact hz rfl)]
    exact e2
/-- The reference's: a row of the number's bytes, of which j are laid. -/
def fillL (high : Bool) (n many j : Nat) : List Nat := (List.range many).map fun i => if (if high then many - 1 - i else i) < j then n / 2 ^ (8 * (if high then many - 1 - i else i)) % 256 else 0
theorem fillL_len (high : Bool) (n many j : Nat) : (fillL high n many j).length = many := by simp [fillL]
theorem fillL_zero (high : Bool) (n many : Nat) : fillL high n many 0 = List.replicate many 0 := by
  simp only [fillL, Nat.not_lt_zero, if_false]
  exact List.map_const' .. |>.trans (by rw [List.length_range])
theorem fillL_all (high : Bool) (n many : Nat) : fillL high n many many = layL high n many := by
  unfold fillL layL
  refine List.map_congr_left fun i hi => ?_
  rw [List.mem_range] at hi
  rw [if_pos]
  split <;> omega
theorem fillL_set {high : Bool} {n many j : Nat} (hj : j < many) : (fillL high n many j).set (if high then many - 1 - j else j) (n / 2 ^ (8 * j) % 256) = fillL high n many (j + 1) := by
  refine List.ext_getElem (by simp [fillL_len]) fun i h1 h2 => ?_
  rw [List.getElem_set]
  rw [fillL_len] at h2
  simp only [fillL, List.getElem_map, List.getElem_range]
  cases high
  · simp only [Bool.false_eq_true, if_false]
    by_cases c : j = i
    · subst c
      rw [if_pos rfl, if_pos (by omega)]
    · rw [if_neg c]
      by_cases c2 : i < j
      · rw [if_pos c2, if_pos (by omega)]
      · rw [if_neg c2, if_neg (by omega)]
  · simp only [if_true]
    by_cases c : many - 1 - j = i
    · subst c
      rw [if_pos rfl, show many - 1 - (many - 1 - j) = j by omega, if_pos (by omega)]
    · rw [if_neg c]
      by_cases c2 : many - 1 - i < j
      · rw [if_pos c2, if_pos (by omega)]
      · rw [if_neg c2, if_neg (by omega)]
theorem bys_set (l : List Nat) (i x : Nat) : (bys l).set i (.int .u8 (x : Nat)) = bys (l.set i x) := by simp [bys, List.map_set]
theorem mk_bys {h : IHeap} (n : Nat) (hn : n ≤ 70000) : imakeSlice Try.prog h 26 (.int .i64 n) (.int .i64 n) = some (.slice (some ⟨h.size, 0, none⟩) n n, h.push (.row false 1 (bys (List.replicate n 0))), .alloc) := by
  have h2 : (0 : Int) ≤ n := by omega
  have h3 : (n : Int) < 9223372036854775808 := by omega
  have h4 : (1 : Int) * (n : Int) ≤ 140737488355328 := by omega
  unfold imakeSlice
  simp [h2, h3, h4, zeros, bys]
  omega
theorem rlay_c {lo : Nat} {h : IHeap} {v : Value} {xs : List Nat} {high : Bool} {n many : Nat} (o : OwnB lo h v xs) (hl : lo ≤ h.size) (hn : n < 4294967296) (hm : many ≤ 4) (hx : xs.length ≤ 999000) :
    FN Try.prog 30 #[v, .int .u32 n, .int .i64 many, .bool high] h (Q := ⟨fun v' h' => OwnB lo h' v' (xs ++ layL high n many) ∧ Wk lo h h'⟩) := by
  have hn4 := hn
  clear hn
  refine FN.enter mixed (fn := Try.f30) (by kernel_rfl) rfl (by kernel_rfl) fun e hn hg hd => ?_
  simp [Try.f30] at hn
  have a0 : e.get 0 = v := hg 0 (by omega)
  have a1 : e.get 1 = .int .u32 n := hg 1 (by omega)
  have a2 : e.get 2 = .int .i64 many := hg 2 (by omega)
  have a3 : e.get 3 = .bool high := hg 3 (by omega)
  clear hg
  have m1 : ¬ ((many : Int) < 0) := by omega
  have m2 : (many : Int) ≤ 140737488355328 := by omega
  simp (maxSteps := 1000000) (disch := first | (simp; done) | (simp only [IHeap.size_push', IHeap.size_set']; omega) | omega) [a0, a1, a2, a3, hn, hd, mk_bys many (by omega)]
  refine WPL.by_inv mixed (by kernel_rfl) (fun k e h' => ∃ (j : Nat), j + k = many ∧ e.n = 39 ∧ e.dfr = [] ∧ e.get 0 = v ∧ e.get 1 = .int .u32 (n / 2 ^ (8 * j) : Nat) ∧ e.get 2 = .int .i64 many ∧ e.get 3 = .bool high ∧ e.get 9 = .slice (some ⟨h.size, 0, none⟩) many many ∧ e.get 10 = .int .i64 j ∧ h' = h.push (.row false 1 (bys (fillL high n many j)))) many ?_ ?_
  · refine ⟨0, ?_⟩
    simp (maxSteps := 1000000) (disch := first | (simp; done) | (simp only [IHeap.size_push', IHeap.size_set']; omega) | omega) [a0, a1, a2, a3, hn, hd, fillL_zero]
  clear hn hd a0 a1 a2 a3 e
  rintro k e h1 ⟨j, hj, hn, hd, a0, a1, a2, a3, a9, a10, rfl⟩
  cases k with
  | zero =>
    obtain rfl : j = many := by omega
    rw [fillL_all]
    have sr : srcOf (h.push (.row false 1 (bys (layL high n j)))) 1 (.slice (some ⟨h.size, 0, none⟩) j j) = some (j, bys (layL high n j)) := by
      by_cases j0 : j = 0
      · subst j0
        exact src_zero _ _
      · exact src_row (IHeap.get_pushed _ rfl) (by exact slots_full _ (by rw [bys_len, layL_len, Nat.mul_one])) j0
    obtain ⟨v', h', ap, ow2, wk2⟩ := app_bys (o.keep (Keep.push h (.row false 1 (bys (layL high n j))))) (layL_len high n j).symm sr (by rw [IHeap.size_push']; omega) (by rw [layL_len]; omega)
    have wk3 := ((Keep.push h (.row false 1 (bys (layL high n j)))).wk hl).trans wk2
    simp (maxSteps := 1000000) (disch := first | (simp; done) | (simp only [IHeap.size_push', IHeap.size_set']; omega) | omega) [a0, a1, a2, a3, a9, a10, hn, hd, ap]
    exact ⟨ow2, wk3⟩
  | succ k =>
    have j1 : (j : Int) < many := by omega
    have j2 : j < many := by omega
    obtain ⟨m, em⟩ : ∃ m : Nat, m = n / 2 ^ (8 * j) := ⟨_, rfl⟩
    rw [← em] at a1
    have t1 : (m : Int).tmod 256 = ((m % 256 : Nat) : Int) := by rw [Int.tmod_eq_emod_of_nonneg (by omega)]; omega
    have t2 : (m : Int).tdiv 256 = ((m / 256 : Nat) : Int) := by rw [Int.tdiv_eq_ediv_of_nonneg (by omega)]; omega
    obtain ⟨x, ex⟩ : ∃ x : Nat, x = m % 256 := ⟨_, rfl⟩
    obtain ⟨m', em'⟩ : ∃ m' : Nat, m' = m / 256 := ⟨_, rfl⟩
    rw [← ex] at t1
    rw [← em'] at t2
    cases high with
    | true =>
      obtain ⟨p, hp⟩ : ∃ p : Nat, p = many - 1 - j := ⟨_, rfl⟩
      have p1 : p + 1 ≤ many := by omega
      have p2 : (p : Int) < many := by omega
      have p3 : p < many := by omega
      have x1 : x < 256 := by omega
      have sp : splice (bys (fillL true n many j)) p [.int .u8 (x : Nat)] = bys (fillL true n many (j + 1)) := by
        rw [splice_one _ (by rw [bys_len, fillL_len]; exact p3), bys_set, ← fillL_set j2]
        rw [ex, em, hp]
        rfl
      have ei : (many : Int) - 1 - j = p := by omega
      have ej : (j : Int) ≤ many - 1 := by omega
      simp (maxSteps := 1000000) (disch := first | (simp; done) | (simp only [IHeap.size_push', IHeap.size_set']; omega) | omega) [a0, a1, a2, a3, a9, a10, hn, hd, j1, j2, t1, t2, fillL_len, bys_len, p1, p2, p3, sp, ei, ej, -splice_one]
      have mm : m' = n / 2 ^ (8 * (j + 1)) := by rw [em', em, Nat.div_div_eq_div_mul, show 8 * (j + 1) = 8 * j + 8 by omega, Nat.pow_add]
      have ml : m' < 4294967296 := by rw [mm]; exact Nat.lt_of_le_of_lt (Nat.div_le_self _ _) hn4
      refine ⟨k, by omega, j + 1, by omega, ?_, by omega, rfl⟩
      rw [wrapU32 (by omega) (by omega), mm]
      push_cast
      rfl
    | false =>
      obtain ⟨p, hp⟩ : ∃ p : Nat, p = j := ⟨_, rfl⟩
      have p1 : p + 1 ≤ many := by omega
      have p2 : (p : Int) < many := by omega
      have p3 : p < many := by omega
      have x1 : x < 256 := by omega
      have sp : splice (bys (fillL false n many j)) p [.int .u8 (x : Nat)] = bys (fillL false n many (j + 1)) := by
        rw [splice_one _ (by rw [bys_len, fillL_len]; exact p3), bys_set, ← fillL_set j2]
        rw [ex, em, hp]
        rfl
      subst hp
      simp (maxSteps := 1000000) (disch := first | (simp; done) | (simp only [IHeap.size_push', IHeap.size_set']; omega) | omega) [a0, a1, a2, a3, a9, a10, hn, hd, j1, j2, t1, t2, fillL_len, bys_len, p1, p2, p3, sp, -splice_one]
      have mm : m' = n / 2 ^ (8 * (p + 1)) := by rw [em', em, Nat.div_div_eq_div_mul, show 8 * (p + 1) = 8 * p + 8 by omega, Nat.pow_add]
      have ml : m' < 4294967296 := by rw [mm]; exact Nat.lt_of_le_of_lt (Nat.div_le_self _ _) hn4
      refine ⟨k, by omega, p + 1, by omega, ?_, by omega, rfl⟩
      rw [wrapU32 (by omega) (by omega), mm]
      push_cast
      rfl
end Go.Proofs.Ytkpbdhfaobmbpaa.Ideal
