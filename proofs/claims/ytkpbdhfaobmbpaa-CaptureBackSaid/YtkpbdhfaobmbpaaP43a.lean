import Derived.Test.YtkpbdhfaobmbpaaI40
import Derived.Test.YtkpbdhfaobmbpaaF43
noncomputable section
open Go.Proofs
namespace Go.Proofs.Ytkpbdhfaobmbpaa.Ideal
open Go.RowKit
set_option linter.unusedSimpArgs false
set_option linter.unusedVariables false
set_option linter.unusedSectionVars false
set_option maxRecDepth 100000
set_option maxHeartbeats 4000000
attribute [-simp] IHeap.size_set IHeap.size_push
attribute [local simp ↓] Hid.ap_mk
attribute [local simp] scopeQ_normal scopeQ_ret scopeQ_exit WP_skip WP_label WP_exit WP_goto WP_ret WP_region WP_seq WP_cond WP_block WP_scope WP_loop WP_range thenQ_normal thenQ_ret thenQ_exit thenQ_goto loopQ_normal loopQ_ret loopQ_exit invQ_normal invQ_ret invQ_exit outOf_normal outOf_ret outOf_goto outOf_exit ev_tmp ev_const ev_func
  wops_nil wops_cons wantedE_none wantedE_some jgd_some wnx_eq niC_false wdo_move wdo_assign wdo_pick wdo_load wdo_store wdo_alloc wdo_box wdo_fieldAddr wdo_indexAddr wdo_field wdo_extract wdo_build wdo_buildSlice wdo_makeSlice wdo_binOp wdo_unOp wdo_makeFunc wdo_nilCheck wdo_callV wdo_len wdo_append wdo_copy wdo_delete wdo_max wdo_min wdo_convert jcvt_int
  xput_get put_n put_none put_dfr ibin finQ_n finQ_r finD_nil splice_one ires_nil ires_one ires_two ires_three ires1_tmp ires1_cell jcell_ptr rowLoad_row wrap64 wrapU64 wrapU8 wrapU16 wrapU32 callV_fn buildOf Instr.fill Value.cells Value.oneCell' kindOf slots_all splice_all IHeap.size_set' IHeap.size_push' IHeap.get_set_same IHeap.get_set_ne IHeap.get_pushed IHeap.get_push_ne IHeap.set_set IHeap.set_push IHeap.set_pushed IHeap.set_set3 getU_nil getU_same getU_ne jif_true jif_false pushH_eq setH_eq forceL_eq forceV_eq ibuildSlice
attribute [local simp] wdo_index jopt_some
attribute [-simp] Value.oneCell'
theorem mixed : Try.prog.follows .mixedOrders = true := by kernel_rfl
theorem one_int' (k : IntKind) (n : Int) : (Value.int k n).oneCell' = true := rfl
theorem one_slc' (a : Option Addr) (n c : Nat) : (Value.slice a n c).oneCell' = true := rfl
attribute [local simp] one_int' one_slc'
/-- Bytes, as cells. -/
def bys (l : List Nat) : List Value := l.map fun n => .int .u8 (n : Nat)
theorem bys_len (l : List Nat) : (bys l).length = l.length := by simp [bys]
theorem bys_all (l : List Nat) : (bys l).all (·.oneCell') = true := by
  rw [List.all_eq_true]
  intro v hv
  obtain ⟨j, _, rfl⟩ := List.mem_map.1 hv
  rfl
theorem bys_app (l m : List Nat) : bys (l ++ m) = bys l ++ bys m := by simp [bys]
theorem ni26 : notInt Try.prog 26 = true := by kernel_rfl
theorem ni23 : notInt Try.prog 23 = true := by kernel_rfl
/-- A slice of these bytes, in a row that nobody writes. -/
def SlB (h : IHeap) (sl : Value) (xs : List Nat) : Prop := ∃ A c, sl = .slice A xs.length c ∧ (A = none → c = 0 ∧ xs = []) ∧ (A ≠ none → ∃ r q ro z cs, A = some ⟨r, q, none⟩ ∧ ((ro = true ∧ z = 0) ∨ z = 1) ∧ h.get r = some (.row ro z cs) ∧ slots cs q xs.length = some (bys xs)) ∧ xs.length ≤ c
theorem SlB.z01 {ro : Bool} {z : Nat} (h : (ro = true ∧ z = 0) ∨ z = 1) : ro = true ∨ z = 1 := h.imp And.left id
/-- Rows of bytes stay. -/
def KB (h h' : IHeap) : Prop := ∀ r ro z cs, (ro = true ∨ z = 1) → h.get r = some (.row ro z cs) → h'.get r = some (.row ro z cs)
theorem KB.refl (h : IHeap) : KB h h := fun _ _ _ _ _ e => e
theorem KB.trans {a b c : IHeap} (x : KB a b) (y : KB b c) : KB a c := fun r ro z cs hz e => y r ro z cs hz (x r ro z cs hz e)
theorem KB.push (h : IHeap) (o : IObj) : KB h (h.push o) := fun r ro z cs hz e => by rw [IHeap.get_push_ne _ (by have := IHeap.get_lt e; omega)]; exact e
theorem KB.set {h : IHeap} {i z : Nat} {cs : List Value} (o : IObj) (e : h.get i = some (.row false z cs)) (hz : z ≠ 1) : KB h (h.set i o) := fun r ro z2 cs2 hz2 e2 => by
  by_cases c : i = r
  · subst c
    rw [e] at e2
    cases e2
    rcases hz2 with h | h
    · cases h
    · exact absurd h hz
  · rw [IHeap.get_set_ne _ c]
    exact e2
theorem SlB.kb {h h' : IHeap} {sl : Value} {xs : List Nat} (x : SlB h sl xs) (o : KB h h') : SlB h' sl xs := by
  obtain ⟨A, c, h1, h0, h2, hc⟩ := x
  refine ⟨A, c, h1, h0, fun hne => ?_, hc⟩
  obtain ⟨r, q, ro, z, cs, h3, h6, h4, h5⟩ := h2 hne
  exact ⟨r, q, ro, z, cs, h3, h6, o _ _ _ _ (SlB.z01 h6) h4, h5⟩
theorem SlB.src {h : IHeap} {A : Option Addr} {c : Nat} {xs : List Nat} (x : SlB h (.slice A xs.length c) xs) : srcOf h 1 (.slice A xs.length c) = some (xs.length, bys xs) := by
  obtain ⟨A', c', h1, h0, h2, hc⟩ := x
  cases h1
  cases A with
  | none =>
    obtain ⟨rfl, rfl⟩ := h0 rfl
    rfl
  | some a =>
    obtain ⟨r, q, ro, z, cs, e, _, h4, h5⟩ := h2 (by simp)
    cases e
    by_cases e : xs = []
    · subst e
      exact src_zero _ c
    · exact src_row h4 (by rw [Nat.mul_one]; exact h5) (fun h => e (List.eq_nil_of_length_eq_zero h))
/-- What lay there stays. -/
structure Keep (h h' : IHeap) : Prop where
  le : h.size ≤ h'.size
  eq : ∀ i, i < h.size → h'.get i = h.get i
theorem Keep.refl (h : IHeap) : Keep h h := ⟨by omega, fun _ _ => rfl⟩
theorem Keep.trans {a b c : IHeap} (x : Keep a b) (y : Keep b c) : Keep a c := ⟨by have := x.le; have := y.le; omega, fun i hi => by have := x.le; rw [y.eq i (by omega), x.eq i hi]⟩
theorem Keep.push (h : IHeap) (o : IObj) : Keep h (h.push o) := ⟨by rw [IHeap.size_push']; omega, fun i hi => IHeap.get_push_ne _ (by omega)⟩
theorem Keep.push' {a h : IHeap} (x : Keep a h) (o : IObj) : Keep a (h.push o) := x.trans (Keep.push h o)
theorem Keep.set {a h : IHeap} (x : Keep a h) {i : Nat} (o : IObj) (hi : a.size ≤ i) : Keep a (h.set i o) := ⟨by rw [IHeap.size_set']; exact x.le, fun j hj => by rw [IHeap.get_set_ne _ (by omega)]; exact x.eq j hj⟩
theorem Keep.get {h h' : IHeap} (x : Keep h h') {i : Nat} {o : IObj} (e : h.get i = some o) : h'.get i = some o := by rw [x.eq i (IHeap.get_lt e)]; exact e
theorem Keep.kb {h h' : IHeap} (k : Keep h h') : KB h h' := fun r ro z cs _ e => k.get e
theorem SlB.keep {h h' : IHeap} {sl : Value} {xs : List Nat} (x : SlB h sl xs) (k : Keep h h') : SlB h' sl xs := x.kb k.kb
structure SH where
  sec : Nat
  micro : Nat
  had : Nat
  xs : List Nat
  sl : Value
def SH.cells (s : SH) : List Value := [.int .u32 (s.sec : Nat), .int .u32 (s.micro : Nat), .int .u32 (s.had : Nat), s.sl]
def SH.val (s : SH) : Value := .agg s.cells.toArray
def SH.time (s : SH) : Nat := s.sec * 1000000 + s.micro
structure SH.ok (s : SH) (h : IHeap) : Prop where
  b : SlB h s.sl s.xs
  s1 : s.sec < 4294967296
  m1 : s.micro < 4294967296
theorem SH.ok.kb {s : SH} {h h' : IHeap} (x : s.ok h) (k : KB h h') : s.ok h' := ⟨x.b.kb k, x.s1, x.m1⟩
theorem SH.ok.keep {s : SH} {h h' : IHeap} (x : s.ok h) (k : Keep h h') : s.ok h' := ⟨x.b.keep k, x.s1, x.m1⟩
theorem SH.ok.one {s : SH} {h : IHeap} (x : s.ok h) : s.sl.oneCell' = true := by
  obtain ⟨A, c, e, _⟩ := x.b
  rw [e]
  rfl
theorem time_c {h : IHeap} {s : SH} (ok : s.ok h) : ICall Try.prog 20 #[s.val] h (.int .u64 (s.time : Nat)) (h.push (.row false 0 s.cells)) := by
  refine ICall.of_FN ?_
  obtain ⟨T, hT⟩ : ∃ T, s.time = T := ⟨_, rfl⟩
  rw [hT]
  refine FN.enter mixed (fn := Try.f20) (by kernel_rfl) rfl (by kernel_rfl) fun e hn hg hd => ?_
  simp [Try.f20] at hn
  have a0 : e.get 0 = s.val := hg 0 (by omega)
  clear hg
  have o1 := ok.one
  have s1 := ok.s1
  have m1 := ok.m1
  have w4 : (s.sec : Int) * 1000000 + s.micro = (T : Nat) := by
    unfold SH.time at hT
    omega
  simp (maxSteps := 1000000) (disch := first | (simp; done) | (simp only [IHeap.size_push', IHeap.size_set']; omega) | omega) [a0, hn, hd, SH.val, SH.cells, o1]
  exact w4
/-- Bytes that one's own appends made. -/
def OwnB (lo : Nat) (h : IHeap) (v : Value) (xs : List Nat) : Prop := (v = .slice none 0 0 ∧ xs = []) ∨ ∃ j, lo ≤ j ∧ v = .slice (some ⟨j, 0, none⟩) xs.length xs.length ∧ h.get j = some (.row false 1 (bys xs))
theorem OwnB.keep {lo : Nat} {h h' : IHeap} {v : Value} {xs : List Nat} (x : OwnB lo h v xs) (k : Keep h h') : OwnB lo h' v xs := by
  rcases x with ⟨rfl, rfl⟩ | ⟨j, hj, rfl, hg⟩
  · exact .inl ⟨rfl, rfl⟩
  · exact .inr ⟨j, hj, rfl, k.get hg⟩
theorem OwnB.kb {lo : Nat} {h h' : IHeap} {v : Value} {xs : List Nat} (x : OwnB lo h v xs) (k : KB h h') : OwnB lo h' v xs := by
  rcases x with ⟨rfl, rfl⟩ | ⟨j, hj, rfl, hg⟩
  · exact .inl ⟨rfl, rfl⟩
  · exact .inr ⟨j, hj, rfl, k _ _ _ _ (.inr rfl) hg⟩
theorem OwnB.low {lo l2 : Nat} {h : IHeap} {v : Value} {xs : List Nat} (x : OwnB l2 h v xs) (hl : lo ≤ l2) : OwnB lo h v xs := by
  rcases x with ⟨rfl, rfl⟩ | ⟨j, hj, rfl, hg⟩
  · exact .inl ⟨rfl, rfl⟩
  · exact .inr ⟨j, by omega, rfl, hg⟩
theorem OwnB.slb {lo : Nat} {h : IHeap} {v : Value} {xs : List Nat} (x : OwnB lo h v xs) : SlB h v xs := by
  rcases x with ⟨rfl, rfl⟩ | ⟨j, hj, rfl, hg⟩
  · exact ⟨none, 0, rfl, fun _ => ⟨rfl, rfl⟩, fun h => absurd rfl h, Nat.le_refl _⟩
  · exact ⟨_, _, rfl, fun h => (by cases h), fun _ => ⟨j, 0, false, 1, _, rfl, .inr rfl, hg, slots_full _ (bys_len _).symm⟩, Nat.le_refl _⟩
theorem clone_c {h : IHeap} {sl : Value} {xs : List Nat} (b : SlB h sl xs) (hl : xs.length ≤ 100000) : FN Try.prog 27 #[sl] h (Q := ⟨fun v h' => OwnB h.size h' v xs ∧ Keep h h'⟩) := by
  obtain ⟨A, c, rfl, h0, h2, hc⟩ := id b
  refine FN.enter mixed (fn := Try.f27) (by kernel_rfl) rfl (by kernel_rfl) fun e hn hg hd => ?_
  simp [Try.f27] at hn
  have a0 : e.get 0 = .slice A xs.length c := hg 0 (by omega)
  clear hg
  cases A with
  | none =>
    obtain ⟨rfl, rfl⟩ := h0 rfl
    simp (maxSteps := 1000000) (disch := first | (simp; done) | (simp only [IHeap.size_push', IHeap.size_set']; omega) | omega) [a0, hn, hd]
    exact ⟨.inl ⟨rfl, rfl⟩, Keep.refl h⟩
  | some a =>
    have sr := (b.keep (Keep.push h (.row false 1 (bys [])))).src
    obtain ⟨h2', j2, ap, r2, k2, z2, f2⟩ := iapp_any (P := Try.prog) (h := h.push (.row false 1 (bys []))) (t := 26) (t2 := 26) (i := h.size) (n := 0) (m := xs.length) (cs := bys []) (news := bys xs) (x := .slice (some a) xs.length c) sl26 ze5 bt5 (by rfl) (by omega) ni26 sr (bys_all xs) (by rw [bys_len]; omega) (by omega) (IHeap.get_pushed _ rfl) rfl
    simp only [IHeap.size_push', Nat.zero_add] at ap r2 k2 z2 f2
    have ez : zeros #[Value.int .u8 0] 0 = bys [] := rfl
    simp (maxSteps := 1000000) (disch := first | (simp; done) | (simp only [IHeap.size_push', IHeap.size_set']; omega) | omega) [a0, hn, hd, ez, ap]
    exact ⟨.inr ⟨j2, by omega, rfl, r2⟩, by omega, fun i hi => by rw [k2 i (by omega) (by omega), IHeap.get_push_ne _ (by omega)]⟩
theorem own_c {h : IHeap} {s : SH} (ok : s.ok h) (l4 : s.xs.length ≤ 400) : FN Try.prog 31 #[s.val] h (Q := ⟨fun v h' => (∃ sl', v = SH.val { s with sl := sl' } ∧ SH.ok { s with sl := sl' } h' ∧ OwnB h.size h' sl' s.xs) ∧ Keep h h'⟩) := by
  refine FN.enter mixed (fn := Try.f31) (by kernel_rfl) rfl (by kernel_rfl) fun e hn hg hd => ?_
  simp [Try.f31] at hn
  have a0 : e.get 0 = s.val := hg 0 (by omega)
  clear hg
  have o1 := ok.one
  simp (maxSteps := 1000000) (disch := first | (simp; done) | (simp only [IHeap.size_push', IHeap.size_set']; omega) | omega) [a0, hn, hd, SH.val, SH.cells, o1]
  refine FN.mono (Q := ⟨_⟩) (clone_c (ok.b.keep ((Keep.push _ _).push' _)) (by omega)) ?_
  rintro v h1 ⟨ob, k1⟩
  have b1 := ob.slb
  have ob := ob.low (lo := h.size) (by simp only [IHeap.size_push']; omega)
  have z0 : h.size + 2 ≤ h1.size := by simpa only [IHeap.size_push'] using k1.le
  obtain ⟨A, c, rfl, _⟩ := id b1
  have p1 : h1.get h.size = some (.row false 0 s.cells) := by
    refine k1.get ?_
    rw [IHeap.get_push_ne _ (by simp only [IHeap.size_push']; omega)]
    exact IHeap.get_pushed _ rfl
  have p2 : h1.get (h.size + 1) = some (.row false 0 [.int .u32 0, .int .u32 0, .int .u32 0, .slice none 0 0]) := by
    exact k1.get (IHeap.get_pushed _ (by simp only [IHeap.size_push']))
  have k2 := ((Keep.push _ _).push' _).trans k1
  simp (maxSteps := 1000000) (disch := first | (simp; done) | (simp only [IHeap.size_push', IHeap.size_set']; omega) | omega) [hn, hd, p1, p2, SH.cells]
  refine ⟨?_, (k2.set _ (by omega)).set _ (by omega)⟩
  have kb : ∀ o, KB h1 ((h1.set h.size o).set (h.size + 1) o) := fun o => (KB.set o p1 (by omega)).trans (KB.set o (by rw [IHeap.get_set_ne _ (by omega)]; exact p2) (by omega))
  exact ⟨⟨b1.kb (kb _), ok.s1, ok.m1⟩, ob.kb (kb _)⟩
end Go.Proofs.Ytkpbdhfaobmbpaa.Ideal
