import Derived.Test.YtmobpbhbllhdcaaP14d
noncomputable section
open Go.Proofs
namespace Go.Proofs.Ytmobpbhbllhdcaa.Ideal
open Go.RowKit
set_option linter.unusedSimpArgs false
set_option linter.unusedVariables false
set_option linter.unusedSectionVars false
set_option linter.unnecessarySimpa false
set_option maxRecDepth 100000
set_option maxHeartbeats 2000000
attribute [-simp] IHeap.size_set IHeap.size_push
attribute [local simp ↓] Hid.ap_mk
attribute [local simp] scopeQ_normal scopeQ_ret scopeQ_exit WP_skip WP_label WP_exit WP_goto WP_ret WP_region WP_seq WP_cond WP_block WP_scope WP_loop WP_range thenQ_normal thenQ_ret thenQ_exit thenQ_goto loopQ_normal loopQ_ret loopQ_exit invQ_normal invQ_ret invQ_exit outOf_normal outOf_ret outOf_goto outOf_exit ev_tmp ev_const ev_func
  wops_nil wops_cons wantedE_none wantedE_some jgd_some wnx_eq niC_false wdo_move wdo_assign wdo_pick wdo_load wdo_store wdo_alloc wdo_box wdo_fieldAddr wdo_indexAddr wdo_field wdo_extract wdo_build wdo_buildSlice wdo_makeSlice wdo_binOp wdo_unOp wdo_makeFunc wdo_nilCheck wdo_callV wdo_len wdo_append wdo_copy wdo_delete wdo_max wdo_min wdo_convert jcvt_int
  xput_get put_n put_none put_dfr ibin finQ_n finQ_r finD_nil splice_one ires_nil ires_one ires_two ires_three ires1_tmp ires1_cell jcell_ptr rowLoad_row wrap64 wrapU64 wrapU8 wrapU16 wrapU32 callV_fn buildOf Instr.fill Value.cells Value.oneCell' kindOf slots_all splice_all IHeap.size_set' IHeap.size_push' IHeap.get_set_same IHeap.get_set_ne IHeap.get_pushed IHeap.get_push_ne IHeap.set_set IHeap.set_push IHeap.set_pushed IHeap.set_set3 getU_nil getU_same getU_ne jif_true jif_false pushH_eq setH_eq forceL_eq forceV_eq ibuildSlice
attribute [-simp] Value.oneCell'
def bools (l : List Bool) : List Value := l.map .bool
def ints (l : List Int) : List Value := l.map (.int .i64 ·)
theorem bools_len (l : List Bool) : (bools l).length = l.length := by simp [bools]
theorem bools_all (l : List Bool) : (bools l).all (·.oneCell') = true := by simp [bools, one_bool]
theorem bools_get {l : List Bool} {j : Nat} {x : Bool} (h : l[j]? = some x) : (bools l)[j]? = some (.bool x) := by simp [bools, h]
theorem bools_at {l : List Bool} {j : Nat} {x : Bool} (h : l[j]? = some x) (hh : j < (bools l).length) : (bools l)[j]'hh = .bool x := by
  have := bools_get h
  rw [List.getElem?_eq_getElem hh] at this
  exact Option.some.inj this
theorem bools_splice {l : List Bool} {j : Nat} {x : Bool} (h : j < l.length) : splice (bools l) j [.bool x] = bools (l.set j x) := by
  rw [splice_one _ (by rw [bools_len]; exact h)]; simp [bools, List.map_set]
theorem ints_len (l : List Int) : (ints l).length = l.length := by simp [ints]
/-- Entries in a row. -/
def ents : List (Int × Int) → List Value
  | [] => []
  | c :: l => .int .u64 c.1 :: .int .u32 c.2 :: ents l
theorem ents_len : ∀ l : List (Int × Int), (ents l).length = l.length * 2
  | [] => rfl
  | c :: l => by simp [ents, ents_len l]; omega
theorem ents_all : ∀ l : List (Int × Int), (ents l).all (·.oneCell') = true
  | [] => rfl
  | c :: l => by simp [ents, ents_all l, one_int]
theorem ents_slots : ∀ {l : List (Int × Int)} {i : Nat} {c : Int × Int}, l[i]? = some c → slots (ents l) (i * 2) 2 = some [.int .u64 c.1, .int .u32 c.2]
  | [], i, c, h => by simp at h
  | d :: l, 0, c, h => by
    simp at h; subst h
    simp [slots, ents]
  | d :: l, i + 1, c, h => by
    have := ents_slots (l := l) (i := i) (c := c) (by simpa using h)
    unfold slots at this ⊢
    rw [show (i + 1) * 2 = i * 2 + 1 + 1 by omega]
    simp only [ents, List.length_cons, List.drop_succ_cons] at this ⊢
    split at this
    · rw [if_pos (by omega)]; exact this
    · cases this
theorem ents_get0 {l : List (Int × Int)} {i : Nat} {c : Int × Int} (h : l[i]? = some c) : (ents l)[i * 2]? = some (.int .u64 c.1) := slots_at (ents_slots h) (j := 0) (by omega)
theorem ents_get1 {l : List (Int × Int)} {i : Nat} {c : Int × Int} (h : l[i]? = some c) : (ents l)[i * 2 + 1]? = some (.int .u32 c.2) := slots_at (ents_slots h) (j := 1) (by omega)
theorem ents_set : ∀ {l : List (Int × Int)} {i : Nat} {a b : Int}, i < l.length → splice (ents l) (i * 2) [.int .u64 a, .int .u32 b] = ents (l.set i (a, b))
  | d :: l, 0, a, b, h => by simp [ents, splice]
  | d :: l, i + 1, a, b, h => by
    have := ents_set (l := l) (i := i) (a := a) (b := b) (by simpa using h)
    rw [show (i + 1) * 2 = i * 2 + 1 + 1 by omega]
    simp only [ents, List.set_cons_succ]
    rw [splice_cons, splice_cons, this]
def fullL (l : List PL) : List Bool := l.map fun c => decide (c.2.2 = 1)
def markL (l : List PL) : List Bool := l.map fun c => decide (c.2.2 = 2)
def entL (l : List PL) : List (Int × Int) := l.map fun c => (c.1, c.2.1)
/-- The document's table. -/
structure RAt (l : List PL) (h : IHeap) (pw rf rm re : Nat) : Prop where
  gp : h.get pw = some (.row false 0 [.slice (some ⟨rf, 0, none⟩) l.length l.length, .slice (some ⟨rm, 0, none⟩) l.length l.length, .slice (some ⟨re, 0, none⟩) l.length l.length])
  gf : h.get rf = some (.row false 1 (bools (fullL l)))
  gm : h.get rm = some (.row false 1 (bools (markL l)))
  ge : h.get re = some (.row false 2 (ents (entL l)))
  ne : rf ≠ pw ∧ rm ≠ pw ∧ re ≠ pw ∧ rf ≠ rm ∧ rf ≠ re ∧ rm ≠ re
  len : 8 ≤ l.length ∧ l.length ≤ 256
theorem rat_inv {l : List PL} {h h' : IHeap} {pw rf rm re : Nat} (x : RAt l h pw rf rm re) (k : ∀ i, i < h.size → h'.get i = h.get i) : RAt l h' pw rf rm re :=
  ⟨(k _ (IHeap.get_lt x.gp)).trans x.gp, (k _ (IHeap.get_lt x.gf)).trans x.gf, (k _ (IHeap.get_lt x.gm)).trans x.gm, (k _ (IHeap.get_lt x.ge)).trans x.ge, x.ne, x.len⟩
theorem mk_bools {h : IHeap} (n : Nat) (hn : n ≤ 300000) : imakeSlice Try.prog h 75 (.int .i64 n) (.int .i64 n) = some (.slice (some ⟨h.size, 0, none⟩) n n, h.push (.row false 1 (bools (List.replicate n false))), .alloc) := by
  have h2 : (0 : Int) ≤ n := by omega
  have h3 : (n : Int) < 9223372036854775808 := by omega
  have h4 : (n : Int) ≤ 140737488355328 := by omega
  unfold imakeSlice
  simp [h2, h3, h4, zeros, bools]
theorem ents_rep (n : Nat) : zeros #[.int .u64 0, .int .u32 0] n = ents (List.replicate n (0, 0)) := by
  induction n with
  | zero => rfl
  | succ n ih =>
    unfold zeros at ih ⊢
    rw [List.replicate_succ, List.flatten_cons, ih, List.replicate_succ]
    rfl
theorem mk_ents {h : IHeap} (n : Nat) (hn : n ≤ 300000) : imakeSlice Try.prog h 76 (.int .i64 n) (.int .i64 n) = some (.slice (some ⟨h.size, 0, none⟩) n n, h.push (.row false 2 (ents (List.replicate n (0, 0)))), .alloc) := by
  have h2 : (0 : Int) ≤ n := by omega
  have h3 : (n : Int) < 9223372036854775808 := by omega
  have h4 : 16 * (n : Int) ≤ 140737488355328 := by omega
  unfold imakeSlice
  simp [h2, h3, h4, ents_rep]
theorem rnew_c {h : IHeap} (n : Nat) (hn1 : 8 ≤ n ∧ n ≤ 256) : FN Try.prog 39 #[.int .i64 n] h (Q := ⟨fun v h' => ∃ pw rf rm re, v = .pointer (some ⟨pw, 0, none⟩) ∧ h.size ≤ pw ∧ RAt (List.replicate n (0, 0, 0)) h' pw rf rm re ∧ Fr h h' []⟩) := by
  refine FN.enter mixed (fn := Try.f39) (by kernel_rfl) rfl (by kernel_rfl) fun e hn hg hd => ?_
  simp [Try.f39] at hn
  have a0 : e.get 0 = .int .i64 n := hg 0 (by omega)
  clear hg
  simp (maxSteps := 1000000) (disch := first | (simp; done) | (simp only [IHeap.size_push', IHeap.size_set']; omega) | omega) [a0, hn, hd, mk_bools n (by omega), mk_ents n (by omega), one_slc]
  refine ⟨niC_pend [] (by kernel_rfl) trivial, by omega, ⟨h.size, h.size + 1, h.size + 1 + 1, ⟨?_, ?_, ?_, ?_, by omega, by simp; omega⟩⟩, ⟨by simp <;> omega, fun i hi => by simp only [IHeap.get_set_if, IHeap.get_push, IHeap.size_set', IHeap.size_push', getU, ]; grind⟩⟩
  · rw [List.length_replicate]; simp (maxSteps := 1000000) (disch := first | (simp; done) | (simp only [IHeap.size_push', IHeap.size_set']; omega) | omega) []
  · rw [show fullL (List.replicate n (0, 0, 0)) = List.replicate n false by simp [fullL]]; simp (maxSteps := 1000000) (disch := first | (simp; done) | (simp only [IHeap.size_push', IHeap.size_set']; omega) | omega) []
  · rw [show markL (List.replicate n (0, 0, 0)) = List.replicate n false by simp [markL]]; simp (maxSteps := 1000000) (disch := first | (simp; done) | (simp only [IHeap.size_push', IHeap.size_set']; omega) | omega) []
  · rw [show entL (List.replicate n (0, 0, 0)) = List.replicate n (0, 0) by simp [entL]]; simp (maxSteps := 1000000) (disch := first | (simp; done) | (simp only [IHeap.size_push', IHeap.size_set']; omega) | omega) []
theorem from_c {l : List PL} {h : IHeap} {pw rf rm re : Nat} (x : RAt l h pw rf rm re) (hash : Int) (hh : 0 ≤ hash ∧ hash < 18446744073709551616) : ICall Try.prog 60 #[.pointer (some ⟨pw, 0, none⟩), .int .u64 hash] h (.int .i64 (hash % l.length)) h := by
  refine ICall.of_FN ?_
  refine FN.enter mixed (fn := Try.f60) (by kernel_rfl) rfl (by kernel_rfl) fun e hn hg hd => ?_
  simp [Try.f60] at hn
  have a0 : e.get 0 = .pointer (some ⟨pw, 0, none⟩) := hg 0 (by omega)
  have a1 : e.get 1 = .int .u64 hash := hg 1 (by omega)
  clear hg
  have hp := x.gp
  have hl := x.len
  have n0 : (l.length : Int) ≠ 0 := by omega
  have n0' : l.length ≠ 0 := by omega
  have e1 : hash.tmod (l.length : Int) = hash % l.length := Int.tmod_eq_emod_of_nonneg hh.1
  have r1 := Int.emod_nonneg hash n0
  have r2 := Int.emod_lt_of_pos hash (show (0 : Int) < l.length by omega)
  simp (maxSteps := 1000000) (disch := first | (simp; done) | (simp only [IHeap.size_push', IHeap.size_set']; omega) | omega) [a0, a1, hn, hd, hp, wrapU64, n0, n0', e1, wrap64]
theorem ni73 : notInt Try.prog 75 = true := by kernel_rfl
theorem ni74 : notInt Try.prog 76 = true := by kernel_rfl
theorem zeros0 (z : Array Value) : zeros z 0 = [] := by simp [zeros]
theorem app73 {h : IHeap} {i j n c : Nat} {l : List Bool} (hi : h.get i = some (.row false 1 [])) (hj : h.get j = some (.row false 1 (bools l))) (hn : n = l.length) (hl : 1 ≤ l.length ∧ l.length ≤ 1000) :
    iappend Try.prog h 75 75 (.slice (some ⟨i, 0, none⟩) 0 0) (.slice (some ⟨j, 0, none⟩) n c) = some (.slice (some ⟨h.size, 0, none⟩) n n, (h.set i .dead).push (.row false 1 (bools l))) := by
  subst hn
  have := iapp_grow (P := Try.prog) (t := 75) (t2 := 75) (c := 0) (n := 0) (q := 0) (olds := []) sl75 ze4 bt4 (by rfl) (by omega) ni73 (src_row (c := c) (m := l.length) hj (slots_full _ (by rw [bools_len]; omega)) (by omega)) (bools_all l) (by omega) (by omega) hi (.inr rfl) (by simp [slots])
  simpa using this
theorem app74 {h : IHeap} {i j n c : Nat} {l : List (Int × Int)} (hi : h.get i = some (.row false 2 [])) (hj : h.get j = some (.row false 2 (ents l))) (hn : n = l.length) (hl : 1 ≤ l.length ∧ l.length ≤ 1000) :
    iappend Try.prog h 76 76 (.slice (some ⟨i, 0, none⟩) 0 0) (.slice (some ⟨j, 0, none⟩) n c) = some (.slice (some ⟨h.size, 0, none⟩) n n, (h.set i .dead).push (.row false 2 (ents l))) := by
  subst hn
  have := iapp_grow (P := Try.prog) (t := 76) (t2 := 76) (c := 0) (n := 0) (q := 0) (olds := []) sl76 ze32 bt32 (by rfl) (by omega) ni74 (src_row (c := c) (m := l.length) hj (slots_full _ (by rw [ents_len])) (by omega)) (ents_all l) (by omega) (by omega) hi (.inr rfl) (by simp [slots])
  simpa using this
structure Keep1 (h h' : IHeap) (p : Nat) : Prop where
  size : h.size ≤ h'.size
  get : ∀ i, i < h.size → i ≠ p → h'.get i = h.get i
theorem own_c {l : List PL} {h : IHeap} {pw rf rm re : Nat} (x : RAt l h pw rf rm re) : FN Try.prog 61 #[.pointer (some ⟨pw, 0, none⟩)] h (Q := ⟨fun v h' => ∃ rf rm re, h.size ≤ rf ∧ h.size ≤ rm ∧ h.size ≤ re ∧ RAt l h' pw rf rm re ∧ Keep1 h h' pw⟩) := by
  refine FN.enter mixed (fn := Try.f61) (by kernel_rfl) rfl (by kernel_rfl) fun e hn hg hd => ?_
  simp [Try.f61] at hn
  have a0 : e.get 0 = .pointer (some ⟨pw, 0, none⟩) := hg 0 (by omega)
  clear hg
  have hp := x.gp
  have hf := x.gf
  have hm := x.gm
  have he := x.ge
  obtain ⟨n1, n2, n3, n4, n5, n6⟩ := x.ne
  have hl := x.len
  have hpz := IHeap.get_lt hp
  have hfz := IHeap.get_lt hf
  have hmz := IHeap.get_lt hm
  have hez := IHeap.get_lt he
  have lf : l.length = (fullL l).length := by simp [fullL]
  have lm : l.length = (markL l).length := by simp [markL]
  have le : l.length = (entL l).length := by simp [entL]
  simp (maxSteps := 1000000) (disch := first | (simp; done) | (simp only [IHeap.size_push', IHeap.size_set']; omega) | omega) [a0, hn, hd, hp, zeros0]
  rw [app73 (l := fullL l) (by simp (maxSteps := 1000000) (disch := first | (simp; done) | (simp only [IHeap.size_push', IHeap.size_set']; omega) | omega) []) (by simp (maxSteps := 1000000) (disch := first | (simp; done) | (simp only [IHeap.size_push', IHeap.size_set']; omega) | omega) [hf]) lf (by omega)]
  simp (maxSteps := 1000000) (disch := first | (simp; done) | (simp only [IHeap.size_push', IHeap.size_set']; omega) | omega) [a0, hn, hd, hp, zeros0, one_slc, n1, n2, n3, Ne.symm n1, Ne.symm n2, Ne.symm n3]
  rw [app73 (l := markL l) (by simp (maxSteps := 1000000) (disch := first | (simp; done) | (simp only [IHeap.size_push', IHeap.size_set']; omega) | omega) []) (by simp (maxSteps := 1000000) (disch := first | (simp; done) | (simp only [IHeap.size_push', IHeap.size_set']; omega) | omega) [hm, n2, Ne.symm n2]) lm (by omega)]
  simp (maxSteps := 1000000) (disch := first | (simp; done) | (simp only [IHeap.size_push', IHeap.size_set']; omega) | omega) [a0, hn, hd, hp, zeros0, one_slc, n1, n2, n3, Ne.symm n1, Ne.symm n2, Ne.symm n3]
  rw [app74 (l := entL l) (by simp (maxSteps := 1000000) (disch := first | (simp; done) | (simp only [IHeap.size_push', IHeap.size_set']; omega) | omega) []) (by simp (maxSteps := 1000000) (disch := first | (simp; done) | (simp only [IHeap.size_push', IHeap.size_set']; omega) | omega) [he, n3, Ne.symm n3]) le (by omega)]
  simp (maxSteps := 1000000) (disch := first | (simp; done) | (simp only [IHeap.size_push', IHeap.size_set']; omega) | omega) [a0, hn, hd, hp, zeros0, one_slc, n1, n2, n3, Ne.symm n1, Ne.symm n2, Ne.symm n3]
  refine ⟨h.size + 1, by omega, h.size + 1 + 1 + 1, by omega, h.size + 1 + 1 + 1 + 1 + 1, by omega, ⟨by simp (maxSteps := 1000000) (disch := first | (simp; done) | (simp only [IHeap.size_push', IHeap.size_set']; omega) | omega) [], by simp (maxSteps := 1000000) (disch := first | (simp; done) | (simp only [IHeap.size_push', IHeap.size_set']; omega) | omega) [], by simp (maxSteps := 1000000) (disch := first | (simp; done) | (simp only [IHeap.size_push', IHeap.size_set']; omega) | omega) [], by simp (maxSteps := 1000000) (disch := first | (simp; done) | (simp only [IHeap.size_push', IHeap.size_set']; omega) | omega) [], by omega, hl⟩, ⟨by simp only [IHeap.size_set', IHeap.size_push']; omega, fun i hi hip => by simp (maxSteps := 1000000) (disch := first | (simp; done) | (simp only [IHeap.size_push', IHeap.size_set']; omega) | omega) [hip, Ne.symm hip]⟩⟩
theorem fullL_get {l : List PL} {i : Nat} {c : PL} (h : l[i]? = some c) : (fullL l)[i]? = some (decide (c.2.2 = 1)) := by simp [fullL, h]
theorem markL_get {l : List PL} {i : Nat} {c : PL} (h : l[i]? = some c) : (markL l)[i]? = some (decide (c.2.2 = 2)) := by simp [markL, h]
theorem entL_get {l : List PL} {i : Nat} {c : PL} (h : l[i]? = some c) : (entL l)[i]? = some (c.1, c.2.1) := by simp [entL, h]
theorem wayR {n : Nat} (hash : Int) (i : Nat) (hd : (n : Int) ∣ 18446744073709551616) (hn : 0 < n) : (hash % n + i) % n = (wayI n hash i : Nat) := by
  unfold wayI
  have h1 := Int.emod_nonneg ((hash + i) % 18446744073709551616) (show (n : Int) ≠ 0 by omega)
  rw [Int.toNat_of_nonneg h1, Int.emod_emod_of_dvd _ hd, Int.emod_add_emod]
/-- Entries are put where the program puts them. -/
theorem rput_c {t : TB} {h : IHeap} {pw rf rm re : Nat} (hd : (t.ps.length : Int) ∣ 18446744073709551616) (x : RAt t.ps h pw rf rm re) (hash what : Int) (hh : 0 ≤ hash ∧ hash < 18446744073709551616) :
    FN Try.prog 44 #[.pointer (some ⟨pw, 0, none⟩), .agg #[.int .u64 hash, .int .u32 what]] h (Q := ⟨fun v h' => v = t.putV hash ∧ (∃ rf rm re, RAt (t.put hash what).ps h' pw rf rm re) ∧ Keep1 h h' pw⟩) := by
  refine FN.enter mixed (fn := Try.f44) (by kernel_rfl) rfl (by kernel_rfl) fun e hn hg hd => ?_
  simp [Try.f44] at hn
  have a0 : e.get 0 = .pointer (some ⟨pw, 0, none⟩) := hg 0 (by omega)
  have a1 : e.get 1 = .agg #[.int .u64 hash, .int .u32 what] := hg 1 (by omega)
  clear hg
  have hp := x.gp
  have hl := x.len
  have hpz := IHeap.get_lt hp
  have hc : t.ps ≠ [] := fun h => by rw [h] at hl; simp at hl
  simp (maxSteps := 1000000) (disch := first | (simp; done) | (simp only [IHeap.size_push', IHeap.size_set']; omega) | omega) [a0, a1, hn, hd]
  refine WPL.by_inv mixed (by kernel_rfl) (fun k e h' => ∃ i : Nat, i + k = t.ps.length ∧ e.n = 59 ∧ e.dfr = [] ∧ e.get 0 = .pointer (some ⟨pw, 0, none⟩) ∧ e.get 3 = .pointer (some ⟨h.size, 0, none⟩) ∧ e.get 6 = .int .i64 i ∧ h' = h.push (.row false 0 [.int .u64 hash, .int .u32 what]) ∧ ∀ j, j < i → ∀ c, t.ps[wayI t.ps.length hash j]? = some c → c.2.2 = 1) t.ps.length ?_ ?_
  · refine ⟨0, ?_⟩
    simp (maxSteps := 1000000) (disch := first | (simp; done) | (simp only [IHeap.size_push', IHeap.size_set']; omega) | omega) [a0, a1, hn, hd]
  clear hn hd a0 a1 e
  rintro k e h1 ⟨i, hi, hn, hd', e0, e3, e6, rfl, ha⟩
  have x1 : RAt t.ps (h.push (.row false 0 [.int .u64 hash, .int .u32 what])) pw rf rm re := rat_inv x (fun i hi => by simp (maxSteps := 1000000) (disch := first | (simp; done) | (simp only [IHeap.size_push', IHeap.size_set']; omega) | omega) [])
  have hp1 := x1.gp
  cases k with
  | zero =>
    obtain rfl : i = t.ps.length := by omega
    have e1 := free_none ha
    simp (maxSteps := 1000000) (disch := first | (simp; done) | (simp only [IHeap.size_push', IHeap.size_set']; omega) | omega) [e0, e3, e6, hn, hd', hp]
    refine ⟨by simp [TB.putV, hc, e1], ⟨rf, rm, re, by simp only [TB.put, e1]; exact x1⟩, ⟨by simp only [IHeap.size_push']; omega, fun i hi _ => by simp (maxSteps := 1000000) (disch := first | (simp; done) | (simp only [IHeap.size_push', IHeap.size_set']; omega) | omega) []⟩⟩
  | succ k =>
    have hlt : (i : Int) < t.ps.length := by omega
    simp (maxSteps := 1000000) (disch := first | (simp; done) | (simp only [IHeap.size_push', IHeap.size_set']; omega) | omega) [e0, e3, e6, hn, hd', hp, hlt]
    refine FN.of (from_c x1 hash hh) ?_
    obtain ⟨W, hW⟩ : ∃ W : Nat, W = wayI t.ps.length hash i := ⟨_, rfl⟩
    have hw := wayI_lt hash i (show 0 < t.ps.length by omega)
    have wr := wayR hash i hd (show 0 < t.ps.length by omega)
    rw [← hW] at hw wr
    have n0 : (t.ps.length : Int) ≠ 0 := by omega
    have n0' : t.ps.length ≠ 0 := by omega
    have r1 := Int.emod_nonneg hash n0
    have r2 := Int.emod_lt_of_pos hash (show (0 : Int) < t.ps.length by omega)
    have wr2 : (hash % (t.ps.length : Int) + i).tmod (t.ps.length : Int) = W := by rw [Int.tmod_eq_emod_of_nonneg (by omega)]; exact wr
    obtain ⟨c, hcc⟩ : ∃ c, t.ps[W]? = some c := ⟨t.ps[W], by simp [hw]⟩
    have hw2 : (W : Int) < t.ps.length := by omega
    have gf := x1.gf
    have bg := bools_get (fullL_get hcc)
    simp (maxSteps := 1000000) (disch := first | (simp; done) | (simp only [IHeap.size_push', IHeap.size_set']; omega) | omega) [e0, e3, e6, hn, hd', hp, n0, n0', wr2, wrap64, gf, hw, hw2, bg]
    refine ⟨niC_pend [(3, 9)] (by kernel_rfl) ⟨rfl, trivial⟩, ?_⟩
    by_cases hz : c.2.2 = 1
    · simp (maxSteps := 1000000) (disch := first | (simp; done) | (simp only [IHeap.size_push', IHeap.size_set']; omega) | omega) [e0, e3, e6, hn, hd', hz, wrap64]
      refine ⟨k, by omega, i + 1, by omega, by omega, fun a ha' b1 b2 b3 hd => ?_⟩
      by_cases e : a = i
      · subst e; rw [← hW, hcc] at hd; cases hd; exact hz
      · exact ha a (by omega) _ hd
    · simp (maxSteps := 1000000) (disch := first | (simp; done) | (simp only [IHeap.size_push', IHeap.size_set']; omega) | omega) [e0, e3, e6, hn, hd', hz]
      refine FN.mono (own_c x1) ?_
      rintro v h2 ⟨rf', rm', re', f1, f2, f3, x2, kp⟩
      simp only [IHeap.size_push'] at f1 f2 f3
      obtain ⟨m1, m2, m3, m4, m5, m6⟩ := x2.ne
      have hp2 := x2.gp
      have gf2 := x2.gf
      have gm2 := x2.gm
      have ge2 := x2.ge
      have y1 := IHeap.get_lt gf2
      have y2 := IHeap.get_lt gm2
      have y3 := IHeap.get_lt ge2
      have hz2 := kp.size
      simp only [IHeap.size_push'] at hz2
      have hb2 : h2.get h.size = some (.row false 0 [.int .u64 hash, .int .u32 what]) := by rw [kp.get _ (by simp only [IHeap.size_push']; omega) (by omega)]; simp (maxSteps := 1000000) (disch := first | (simp; done) | (simp only [IHeap.size_push', IHeap.size_set']; omega) | omega) []
      have q1 : h.size ≠ rf' := by rintro e; rw [e, gf2] at hb2; simp at hb2
      have q2 : h.size ≠ rm' := by rintro e; rw [e, gm2] at hb2; simp at hb2
      have q3 : h.size ≠ re' := by rintro e; rw [e, ge2] at hb2; simp at hb2
      have lf : (fullL t.ps).length = t.ps.length := by simp [fullL]
      have lm : (markL t.ps).length = t.ps.length := by simp [markL]
      have le : (entL t.ps).length = t.ps.length := by simp [entL]
      simp (maxSteps := 1000000) (disch := first | (simp; done) | (simp only [IHeap.size_push', IHeap.size_set']; omega) | omega) [e0, e3, e6, hn, hd', hp2, gf2, gm2, ge2, hb2, hw, hw2, one_bool, one_int, bools_len, lf, lm, le, ents_len, show W + 1 ≤ t.ps.length by omega, show W * 2 + 2 ≤ t.ps.length * 2 by omega, bools_splice, ents_set, m1, m2, m3, m4, m5, m6, Ne.symm m1, Ne.symm m2, Ne.symm m3, Ne.symm m4, Ne.symm m5, Ne.symm m6, q1, q2, q3, Ne.symm q1, Ne.symm q2, Ne.symm q3]
      have e1 := free_some (hash := hash) (k := i) (by omega) (by rw [← hW]; exact hcc) hz ha
      rw [← hW] at e1
      have e2 : (t.put hash what).ps = t.ps.set W (hash, what, 1) := by simp only [TB.put, e1, TB.putAt]
      refine ⟨niC_pend [] (by kernel_rfl) trivial, by simp [TB.putV, hc, e1], ⟨rf', rm', re', ?_⟩, ⟨by simp only [IHeap.size_set']; omega, fun i hi hip => ?_⟩⟩
      · rw [e2]
        refine ⟨?_, ?_, ?_, ?_, x2.ne, by simpa using hl⟩
        · rw [List.length_set]; simp (maxSteps := 1000000) (disch := first | (simp; done) | (simp only [IHeap.size_push', IHeap.size_set']; omega) | omega) [hp2, m1, m2, m3, Ne.symm m1, Ne.symm m2, Ne.symm m3]
        · rw [show fullL (t.ps.set W (hash, what, 1)) = (fullL t.ps).set W true by simp [fullL, List.map_set]]
          simp (maxSteps := 1000000) (disch := first | (simp; done) | (simp only [IHeap.size_push', IHeap.size_set']; omega) | omega) [m4, m5, m6, Ne.symm m4, Ne.symm m5, Ne.symm m6]
        · rw [show markL (t.ps.set W (hash, what, 1)) = (markL t.ps).set W false by simp [markL, List.map_set]]
          simp (maxSteps := 1000000) (disch := first | (simp; done) | (simp only [IHeap.size_push', IHeap.size_set']; omega) | omega) [m4, m5, m6, Ne.symm m4, Ne.symm m5, Ne.symm m6]
        · rw [show entL (t.ps.set W (hash, what, 1)) = (entL t.ps).set W (hash, what) by simp [entL, List.map_set]]
          simp (maxSteps := 1000000) (disch := first | (simp; done) | (simp only [IHeap.size_push', IHeap.size_set']; omega) | omega) [m4, m5, m6, Ne.symm m4, Ne.symm m5, Ne.symm m6]
      · have := kp.get i (by simp only [IHeap.size_push']; omega) hip
        rw [IHeap.get_set_ne _ (by omega), IHeap.get_set_ne _ (by omega), IHeap.get_set_ne _ (by omega), this]
        exact IHeap.get_push_ne _ (by omega)
/-! Drop, Get, Entries, Marks, Copy. -/
theorem rdrop_c {t : TB} {h : IHeap} {pw rf rm re : Nat} (x : RAt t.ps h pw rf rm re) (i : Int) :
    FN Try.prog 46 #[.pointer (some ⟨pw, 0, none⟩), .int .i64 i] h (Q := ⟨fun v h' => v = .int .i64 (t.dropV i) ∧ (∃ rf rm re, RAt (t.drop i).ps h' pw rf rm re) ∧ Keep1 h h' pw⟩) := by
  refine FN.enter mixed (fn := Try.f46) (by kernel_rfl) rfl (by kernel_rfl) fun e hn hg hd => ?_
  simp [Try.f46] at hn
  have a0 : e.get 0 = .pointer (some ⟨pw, 0, none⟩) := hg 0 (by omega)
  have a1 : e.get 1 = .int .i64 i := hg 1 (by omega)
  clear hg
  have hp := x.gp
  have hl := x.len
  have hpz := IHeap.get_lt hp
  have gf := x.gf
  have hc : t.ps ≠ [] := fun h => by rw [h] at hl; simp at hl
  by_cases h1 : i < 0
  · have h0 : ¬ 0 ≤ i := by omega
    simp (maxSteps := 1000000) (disch := first | (simp; done) | (simp only [IHeap.size_push', IHeap.size_set']; omega) | omega) [a0, a1, hn, hd, h1]
    exact ⟨by simp [TB.dropV, hc, h0], ⟨rf, rm, re, by simpa [TB.drop, TB.isAt, h0] using x⟩, ⟨Nat.le_refl _, fun _ _ _ => rfl⟩⟩
  · obtain ⟨I, rfl⟩ : ∃ I : Nat, i = I := ⟨i.toNat, by omega⟩
    have h0 : (0 : Int) ≤ I := by omega
    by_cases h2 : (I : Int) < t.ps.length
    · have h3 : I < t.ps.length := by omega
      have h4 : ¬ (t.ps.length : Int) ≤ I := by omega
      obtain ⟨c, hcc⟩ : ∃ c, t.ps[I]? = some c := ⟨t.ps[I], by simp [h3]⟩
      have bg := bools_get (fullL_get hcc)
      by_cases hz : c.2.2 = 1
      · have e1 : t.isAt I = true := by simp only [TB.isAt, Int.toNat_natCast, hcc, hz, decide_true, Bool.and_true]; simp
        have e2 : t.dropV I = 0 := by simp [TB.dropV, hc, h2, e1, h3]
        have e3 : (t.drop I).ps = t.ps.set I (0, 0, 2) := by simp [TB.drop, e1]
        simp (maxSteps := 1000000) (disch := first | (simp; done) | (simp only [IHeap.size_push', IHeap.size_set']; omega) | omega) [a0, a1, hn, hd, h1, h2, h3, h4, hp, gf, bg, hz]
        refine FN.mono (own_c x) ?_
        rintro v h2 ⟨rf', rm', re', f1, f2, f3, x2, kp⟩
        obtain ⟨m1, m2, m3, m4, m5, m6⟩ := x2.ne
        have hp2 := x2.gp
        have gf2 := x2.gf
        have gm2 := x2.gm
        have ge2 := x2.ge
        have y1 := IHeap.get_lt gf2
        have y2 := IHeap.get_lt gm2
        have y3 := IHeap.get_lt ge2
        have hz2 := kp.size
        have lf : (fullL t.ps).length = t.ps.length := by simp [fullL]
        have lm : (markL t.ps).length = t.ps.length := by simp [markL]
        have le : (entL t.ps).length = t.ps.length := by simp [entL]
        simp (maxSteps := 1000000) (disch := first | (simp; done) | (simp only [IHeap.size_push', IHeap.size_set']; omega) | omega) [a0, a1, hn, hd, hp2, gf2, gm2, ge2, h3, show (I : Int) < t.ps.length by omega, one_bool, one_int, bools_len, lf, lm, le, ents_len, show I + 1 ≤ t.ps.length by omega, show I * 2 + 2 ≤ t.ps.length * 2 by omega, bools_splice, ents_set, m1, m2, m3, m4, m5, m6, Ne.symm m1, Ne.symm m2, Ne.symm m3, Ne.symm m4, Ne.symm m5, Ne.symm m6]
        refine ⟨e2.symm, ⟨rf', rm', re', ?_⟩, ⟨by simp only [IHeap.size_set']; omega, fun i hi hip => ?_⟩⟩
        · rw [e3]
          refine ⟨?_, ?_, ?_, ?_, x2.ne, by simpa using hl⟩
          · rw [List.length_set]; simp (maxSteps := 1000000) (disch := first | (simp; done) | (simp only [IHeap.size_push', IHeap.size_set']; omega) | omega) [hp2, m1, m2, m3, Ne.symm m1, Ne.symm m2, Ne.symm m3]
          · rw [show fullL (t.ps.set I (0, 0, 2)) = (fullL t.ps).set I false by simp [fullL, List.map_set]]
            simp (maxSteps := 1000000) (disch := first | (simp; done) | (simp only [IHeap.size_push', IHeap.size_set']; omega) | omega) [m4, m5, m6, Ne.symm m4, Ne.symm m5, Ne.symm m6]
          · rw [show markL (t.ps.set I (0, 0, 2)) = (markL t.ps).set I true by simp [markL, List.map_set]]
            simp (maxSteps := 1000000) (disch := first | (simp; done) | (simp only [IHeap.size_push', IHeap.size_set']; omega) | omega) [m4, m5, m6, Ne.symm m4, Ne.symm m5, Ne.symm m6]
          · rw [show entL (t.ps.set I (0, 0, 2)) = (entL t.ps).set I (0, 0) by simp [entL, List.map_set]]
            simp (maxSteps := 1000000) (disch := first | (simp; done) | (simp only [IHeap.size_push', IHeap.size_set']; omega) | omega) [m4, m5, m6, Ne.symm m4, Ne.symm m5, Ne.symm m6]
        · have := kp.get i hi hip
          rw [IHeap.get_set_ne _ (by omega), IHeap.get_set_ne _ (by omega), IHeap.get_set_ne _ (by omega), this]
      · have e1 : t.isAt I = false := by simp only [TB.isAt, Int.toNat_natCast, hcc, hz, decide_false, Bool.and_false]
        have e2 : t.dropV I = 7 := by simp [TB.dropV, hc, h2, e1, h3]
        simp (maxSteps := 1000000) (disch := first | (simp; done) | (simp only [IHeap.size_push', IHeap.size_set']; omega) | omega) [a0, a1, hn, hd, h1, h2, h3, h4, hp, gf, bg, hz]
        exact ⟨e2.symm, ⟨rf, rm, re, by simpa [TB.drop, e1] using x⟩, ⟨Nat.le_refl _, fun _ _ _ => rfl⟩⟩
    · have h4 : (t.ps.length : Int) ≤ I := by omega
      have hcc : t.ps[I]? = none := List.getElem?_eq_none (by omega)
      have e1 : t.isAt I = false := by simp only [TB.isAt, Int.toNat_natCast, hcc, Bool.and_false]
      have e2 : t.dropV I = 2 := by
        have : ¬ I < t.ps.length := by omega
        simp [TB.dropV, hc, this]
      simp (maxSteps := 1000000) (disch := first | (simp; done) | (simp only [IHeap.size_push', IHeap.size_set']; omega) | omega) [a0, a1, hn, hd, h1, h2, h4, hp]
      exact ⟨e2.symm, ⟨rf, rm, re, by simpa [TB.drop, e1] using x⟩, ⟨Nat.le_refl _, fun _ _ _ => rfl⟩⟩
theorem rget_c {t : TB} {h : IHeap} {pw rf rm re : Nat} (x : RAt t.ps h pw rf rm re) (i : Int) : CT Try.prog 47 #[.pointer (some ⟨pw, 0, none⟩), .int .i64 i] h (t.get i) [] := by
  refine FN.enter mixed (fn := Try.f47) (by kernel_rfl) rfl (by kernel_rfl) fun e hn hg hd => ?_
  simp [Try.f47] at hn
  have a0 : e.get 0 = .pointer (some ⟨pw, 0, none⟩) := hg 0 (by omega)
  have a1 : e.get 1 = .int .i64 i := hg 1 (by omega)
  clear hg
  have hp := x.gp
  have hpz := IHeap.get_lt hp
  have gf := x.gf
  have hfz := IHeap.get_lt gf
  have ge := x.ge
  have hez := IHeap.get_lt ge
  by_cases h1 : 0 ≤ i
  · obtain ⟨I, rfl⟩ : ∃ I : Nat, i = I := ⟨i.toNat, by omega⟩
    by_cases h2 : (I : Int) < t.ps.length
    · have h3 : I < t.ps.length := by omega
      obtain ⟨c, hcc⟩ : ∃ c, t.ps[I]? = some c := ⟨t.ps[I], by simp [h3]⟩
      have bg := bools_get (fullL_get hcc)
      have es := ents_slots (entL_get hcc)
      by_cases hz : c.2.2 = 1
      · have hv : t.get I = .tuple #[.agg #[.int .u64 c.1, .int .u32 c.2.1], .bool true] := by
          unfold TB.get; rw [if_pos h1, Int.toNat_natCast, hcc]; simp only [hz, if_true]
        simp (maxSteps := 1000000) (disch := first | (simp; done) | (simp only [IHeap.size_push', IHeap.size_set']; omega) | omega) [a0, a1, hn, hd, h1, h2, h3, one_int, hv, hp, gf, ge, bg, es, hz]
        exact (Fr.refl _).push _
      · have hv : t.get I = .tuple #[.agg #[.int .u64 0, .int .u32 0], .bool false] := by
          unfold TB.get; rw [if_pos h1, Int.toNat_natCast, hcc]; simp only [hz, if_false]
        simp (maxSteps := 1000000) (disch := first | (simp; done) | (simp only [IHeap.size_push', IHeap.size_set']; omega) | omega) [a0, a1, hn, hd, h1, h2, h3, one_int, hv, hp, gf, ge, bg, es, hz]
        exact (Fr.refl _).push _
    · have hcc : t.ps[I]? = none := List.getElem?_eq_none (by omega)
      have hv : t.get I = .tuple #[.agg #[.int .u64 0, .int .u32 0], .bool false] := by
        unfold TB.get; rw [if_pos h1, Int.toNat_natCast, hcc]
      have h3 : ¬ I < t.ps.length := by omega
      simp (maxSteps := 1000000) (disch := first | (simp; done) | (simp only [IHeap.size_push', IHeap.size_set']; omega) | omega) [a0, a1, hn, hd, h1, h2, h3, one_int, hv, hp, undef]
      exact (Fr.refl _).push _
  · have hv : t.get i = .tuple #[.agg #[.int .u64 0, .int .u32 0], .bool false] := by unfold TB.get; rw [if_neg h1]
    simp (maxSteps := 1000000) (disch := first | (simp; done) | (simp only [IHeap.size_push', IHeap.size_set']; omega) | omega) [a0, a1, hn, hd, h1, one_int, hv, undef]
    exact (Fr.refl _).push _
theorem many_c {h : IHeap} {r : Nat} {l : List Bool} (hr : h.get r = some (.row false 1 (bools l))) (hl : l.length ≤ 1000) : ICall Try.prog 59 #[.slice (some ⟨r, 0, none⟩) l.length l.length] h (.int .i64 (l.countP id : Nat)) h := by
  refine ICall.of_FN ?_
  refine FN.enter mixed (fn := Try.f59) (by kernel_rfl) rfl (by kernel_rfl) fun e hn hg hd => ?_
  simp [Try.f59] at hn
  have a0 : e.get 0 = .slice (some ⟨r, 0, none⟩) l.length l.length := hg 0 (by omega)
  clear hg
  simp (maxSteps := 1000000) (disch := first | (simp; done) | (simp only [IHeap.size_push', IHeap.size_set']; omega) | omega) [a0, hn, hd]
  refine WPL.by_inv mixed (by kernel_rfl) (fun k e h' => ∃ i : Nat, i + k = l.length ∧ e.n = 18 ∧ e.dfr = [] ∧ e.get 0 = .slice (some ⟨r, 0, none⟩) l.length l.length ∧ e.get 3 = .int .i64 ((l.take i).countP id : Nat) ∧ e.get 4 = .int .i64 i ∧ h' = h) l.length ?_ ?_
  · refine ⟨0, ?_⟩
    simp (maxSteps := 1000000) (disch := first | (simp; done) | (simp only [IHeap.size_push', IHeap.size_set']; omega) | omega) [a0, hn, hd]
  clear hn hd a0 e
  rintro k e h1 ⟨i, hi, hn, hd, e0, e3, e4, rfl⟩
  cases k with
  | zero =>
    obtain rfl : i = l.length := by omega
    rw [List.take_length] at e3
    simp (maxSteps := 1000000) (disch := first | (simp; done) | (simp only [IHeap.size_push', IHeap.size_set']; omega) | omega) [e0, e3, e4, hn, hd]
  | succ k =>
    have hlt : (i : Int) < l.length := by omega
    have hlt2 : i < l.length := by omega
    have bg := bools_get (List.getElem?_eq_getElem hlt2)
    have hcl := List.countP_le_length (l := l.take i) (p := id)
    have htl : (l.take i).length = i := by simp; omega
    have ht : (l.take (i + 1)).countP id = (l.take i).countP id + (if l[i] then 1 else 0) := by
      rw [List.take_add_one, List.getElem?_eq_getElem hlt2, List.countP_append]
      cases l[i] <;> simp
    cases hb : l[i]
    · rw [hb] at bg ht
      simp (maxSteps := 1000000) (disch := first | (simp; done) | (simp only [IHeap.size_push', IHeap.size_set']; omega) | omega) [e0, e3, e4, hn, hd, hr, hlt, hlt2, bg, wrap64]
      exact ⟨k, by omega, i + 1, by omega, by rw [ht]; simp, by omega⟩
    · rw [hb] at bg ht
      simp (maxSteps := 1000000) (disch := first | (simp; done) | (simp only [IHeap.size_push', IHeap.size_set']; omega) | omega) [e0, e3, e4, hn, hd, hr, hlt, hlt2, bg, wrap64]
      exact ⟨k, by omega, i + 1, by omega, by rw [ht]; simp, by omega⟩
theorem rentries_c {t : TB} {h : IHeap} {pw rf rm re : Nat} (x : RAt t.ps h pw rf rm re) : ICall Try.prog 42 #[.pointer (some ⟨pw, 0, none⟩)] h (.int .i64 ((fullL t.ps).countP id : Nat)) h := by
  refine ICall.of_FN ?_
  refine FN.enter mixed (fn := Try.f42) (by kernel_rfl) rfl (by kernel_rfl) fun e hn hg hd => ?_
  simp [Try.f42] at hn
  have a0 : e.get 0 = .pointer (some ⟨pw, 0, none⟩) := hg 0 (by omega)
  clear hg
  have hp := x.gp
  have hl := x.len
  have lf : (fullL t.ps).length = t.ps.length := by simp [fullL]
  have m := many_c x.gf (by omega)
  rw [lf] at m
  simp (maxSteps := 1000000) (disch := first | (simp; done) | (simp only [IHeap.size_push', IHeap.size_set']; omega) | omega) [a0, hn, hd, hp]
  refine FN.of m ?_
  simp (maxSteps := 1000000) (disch := first | (simp; done) | (simp only [IHeap.size_push', IHeap.size_set']; omega) | omega) [a0, hn, hd, hp]
theorem rmarks_c {t : TB} {h : IHeap} {pw rf rm re : Nat} (x : RAt t.ps h pw rf rm re) : ICall Try.prog 43 #[.pointer (some ⟨pw, 0, none⟩)] h (.int .i64 ((markL t.ps).countP id : Nat)) h := by
  refine ICall.of_FN ?_
  refine FN.enter mixed (fn := Try.f43) (by kernel_rfl) rfl (by kernel_rfl) fun e hn hg hd => ?_
  simp [Try.f43] at hn
  have a0 : e.get 0 = .pointer (some ⟨pw, 0, none⟩) := hg 0 (by omega)
  clear hg
  have hp := x.gp
  have hl := x.len
  have lf : (markL t.ps).length = t.ps.length := by simp [markL]
  have m := many_c x.gm (by omega)
  rw [lf] at m
  simp (maxSteps := 1000000) (disch := first | (simp; done) | (simp only [IHeap.size_push', IHeap.size_set']; omega) | omega) [a0, hn, hd, hp]
  refine FN.of m ?_
  simp (maxSteps := 1000000) (disch := first | (simp; done) | (simp only [IHeap.size_push', IHeap.size_set']; omega) | omega) [a0, hn, hd, hp]
theorem rcopy_c {l : List PL} {h : IHeap} {pw rf rm re : Nat} (x : RAt l h pw rf rm re) : FN Try.prog 49 #[.pointer (some ⟨pw, 0, none⟩)] h (Q := ⟨fun v h' => v = .pointer (some ⟨h.size, 0, none⟩) ∧ RAt l h' h.size rf rm re ∧ Fr h h' []⟩) := by
  refine FN.enter mixed (fn := Try.f49) (by kernel_rfl) rfl (by kernel_rfl) fun e hn hg hd => ?_
  simp [Try.f49] at hn
  have a0 : e.get 0 = .pointer (some ⟨pw, 0, none⟩) := hg 0 (by omega)
  clear hg
  have hp := x.gp
  have gf := x.gf
  have gm := x.gm
  have ge := x.ge
  have y1 := IHeap.get_lt gf
  have y2 := IHeap.get_lt gm
  have y3 := IHeap.get_lt ge
  obtain ⟨m1, m2, m3, m4, m5, m6⟩ := x.ne
  simp (maxSteps := 1000000) (disch := first | (simp; done) | (simp only [IHeap.size_push', IHeap.size_set']; omega) | omega) [a0, hn, hd, hp, one_slc]
  refine ⟨niC_pend [] (by kernel_rfl) trivial, ⟨by simp (maxSteps := 1000000) (disch := first | (simp; done) | (simp only [IHeap.size_push', IHeap.size_set']; omega) | omega) [], by simp (maxSteps := 1000000) (disch := first | (simp; done) | (simp only [IHeap.size_push', IHeap.size_set']; omega) | omega) [gf], by simp (maxSteps := 1000000) (disch := first | (simp; done) | (simp only [IHeap.size_push', IHeap.size_set']; omega) | omega) [gm], by simp (maxSteps := 1000000) (disch := first | (simp; done) | (simp only [IHeap.size_push', IHeap.size_set']; omega) | omega) [ge], by omega, x.len⟩, ⟨by simp <;> omega, fun i hi => by simp only [IHeap.get_set_if, IHeap.get_push, IHeap.size_set', IHeap.size_push', getU, ]; grind⟩⟩
end Go.Proofs.Ytmobpbhbllhdcaa.Ideal
