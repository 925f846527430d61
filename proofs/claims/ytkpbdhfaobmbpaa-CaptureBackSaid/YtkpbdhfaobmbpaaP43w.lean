import Derived.Test.YtkpbdhfaobmbpaaP43v
noncomputable section
open Go.Proofs
namespace Go.Proofs.Ytkpbdhfaobmbpaa.Ideal
open Go.RowKit
set_option linter.unusedSimpArgs false
set_option linter.unusedVariables false
set_option linter.unusedSectionVars false
set_option maxRecDepth 100000
set_option maxHeartbeats 4000000
attribute [-simp] IHeap.size_set IHeap.size_push
attribute [local simp ↓] Hid.ap_mk
attribute [local simp] scopeQ_normal scopeQ_ret scopeQ_exit WP_skip WP_label WP_exit WP_goto WP_ret WP_region WP_seq WP_cond WP_block WP_scope WP_loop WP_range thenQ_normal thenQ_ret thenQ_exit thenQ_goto loopQ_normal loopQ_ret loopQ_exit invQ_normal invQ_ret invQ_exit outOf_normal outOf_ret outOf_goto outOf_exit ev_tmp ev_const ev_func
  wops_nil wops_cons wantedE_none wantedE_some jgd_some wnx_eq niC_false wdo_move wdo_assign wdo_pick wdo_load wdo_store wdo_alloc wdo_box wdo_fieldAddr wdo_indexAddr wdo_field wdo_extract wdo_build wdo_buildSlice wdo_makeSlice wdo_binOp wdo_unOp wdo_makeFunc wdo_nilCheck wdo_callV wdo_len wdo_append wdo_copy wdo_delete wdo_max wdo_min wdo_convert jcvt_int
  xput_get put_n put_none put_dfr ibin finQ_n finQ_r finD_nil splice_one ires_nil ires_one ires_two ires_three ires1_tmp ires1_cell jcell_ptr rowLoad_row wrap64 wrapU64 wrapU8 wrapU16 wrapU32 callV_fn buildOf Instr.fill Value.cells Value.oneCell' kindOf slots_all splice_all IHeap.size_set' IHeap.size_push' IHeap.get_set_same IHeap.get_set_ne IHeap.get_pushed IHeap.get_push_ne IHeap.set_set IHeap.set_push IHeap.set_pushed IHeap.set_set3 getU_nil getU_same getU_ne jif_true jif_false pushH_eq setH_eq forceL_eq forceV_eq ibuildSlice
attribute [local simp high] wdo_str26
attribute [local simp] wdo_index jopt_some wdo_toArr wdo_cut26
attribute [-simp] Value.oneCell'
attribute [local simp] one_int' one_slc' one_bool'
theorem one_func' (f : Fn) (a b : Array Value) : (Value.func f a b).oneCell' = true := rfl
theorem one_nilF' : (Value.nilFunc).oneCell' = true := rfl
attribute [local simp] one_func' one_nilF'
theorem equal_c {h : IHeap} {va vb : Value} {xs ys : List Nat} (x : SlB h va xs) (y : SlB h vb ys) : ICall Try.prog 32 #[va, vb] h (.bool (strB (ii xs) == strB (ii ys))) h := by
  refine ICall.of_FN ?_
  obtain ⟨k1, g1, q1⟩ := str_slb x
  obtain ⟨k2, g2, q2⟩ := str_slb y
  refine FN.enter mixed (fn := Try.f32) (by kernel_rfl) rfl (by kernel_rfl) fun e hn hg hd => ?_
  simp [Try.f32] at hn
  have a0 : e.get 0 = va := hg 0 (by omega)
  have a1 : e.get 1 = vb := hg 1 (by omega)
  clear hg
  simp (maxSteps := 1000000) (disch := first | (simp; done) | (simp only [IHeap.size_push', IHeap.size_set']; omega) | omega) [a0, a1, hn, hd, q1, q2]
theorem head_ne : (strB (ii (headL true)) == strB (ii (headL false))) = false := by kernel_rfl
/-- All rows stay, but one. -/
structure KR (R : Nat) (h h' : IHeap) : Prop where
  le : h.size ≤ h'.size
  eq : ∀ i, i < h.size → i ≠ R → h'.get i = h.get i
theorem KR.refl (R : Nat) (h : IHeap) : KR R h h := ⟨Nat.le_refl _, fun _ _ _ => rfl⟩
theorem KR.trans {R : Nat} {a b c : IHeap} (x : KR R a b) (y : KR R b c) : KR R a c := ⟨by have := x.le; have := y.le; omega, fun i hi hr => by have := x.le; rw [y.eq i (by omega) hr, x.eq i hi hr]⟩
theorem Keep.kr {h h' : IHeap} (k : Keep h h') (R : Nat) : KR R h h' := ⟨k.le, fun i hi _ => k.eq i hi⟩
theorem KR.set {R : Nat} {a h : IHeap} (x : KR R a h) (o : IObj) : KR R a (h.set R o) := ⟨by rw [IHeap.size_set']; exact x.le, fun i hi hr => by rw [IHeap.get_set_ne _ (fun e => hr e.symm)]; exact x.eq i hi hr⟩
/-- A reader's cells. -/
def rdr (at_ : Value) (most : Nat) (left : Value) : List Value := [at_, .int .u32 (most : Nat), left, .bool false, .bool true]
/-- A row of bytes. -/
def BR (h : IHeap) (d : Nat) : Prop := ∃ ro z cs, (ro = true ∨ z = 1) ∧ h.get d = some (.row ro z cs)
theorem BR.lt {h : IHeap} {d : Nat} (b : BR h d) : d < h.size := by
  obtain ⟨_, _, _, _, e⟩ := b
  exact IHeap.get_lt e
theorem BR.ne {h : IHeap} {d R : Nat} {cs : List Value} (b : BR h d) (e : h.get R = some (.row false 0 cs)) : R ≠ d := fun hh => by
  subst hh
  obtain ⟨ro, z, cs2, h1, e2⟩ := b
  rw [e] at e2
  cases e2
  rcases h1 with h | h <;> cases h
theorem BR.kb {h h' : IHeap} {d : Nat} (b : BR h d) (k : KB h h') : h'.get d = h.get d := by
  obtain ⟨ro, z, cs, h1, e⟩ := b
  rw [e]
  exact k d ro z cs h1 e
theorem BR.mono {h h' : IHeap} {d : Nat} (b : BR h d) (k : KB h h') : BR h' d := by
  obtain ⟨ro, z, cs, h1, e⟩ := b
  exact ⟨ro, z, cs, h1, k d ro z cs h1 e⟩
/-- The first bytes. -/
theorem cut_top {h : IHeap} {sl : Value} {xs : List Nat} {k : Nat} {K : IntKind} (b : SlB h sl xs) (hk : k ≤ xs.length) (hx : xs ≠ []) : ∃ A c d, (∀ h' : IHeap, h'.get d = h.get d → cutN Try.prog h' 26 sl none (some (.int K (k : Nat))) = some (.slice A k c, .read d)) ∧ BR h d ∧ SlB h (.slice A k c) (xs.take k) := by
  obtain ⟨A, c, rfl, h0, h2, hc⟩ := id b
  cases A with
  | none => exact absurd (h0 rfl).2 hx
  | some a =>
    obtain ⟨r, q, ro, z, cs, e, hz, h4, h5⟩ := h2 (by simp)
    cases e
    have lt : (xs.take k).length = k := by rw [List.length_take]; omega
    refine ⟨some ⟨r, q, none⟩, c, r, fun h' kp => ?_, ⟨ro, z, cs, SlB.z01 hz, h4⟩, some ⟨r, q, none⟩, c, by rw [lt], fun h => (by cases h), fun _ => ⟨r, q, ro, z, cs, rfl, hz, h4, ?_⟩, by omega⟩
    · have isl := islice_eq (P := Try.prog) (q := q) (l := 0) (n := xs.length) (lo := none) (hi := some (.int K (k : Nat))) sl26 (kp.trans h4) (hz.imp And.right id) (bounds_hi (k := K) (c := c) (by omega))
      simp only [Nat.zero_mul, Nat.add_zero, Nat.sub_zero] at isl
      simp only [cutN, cutV, isl, Option.map_some, kindOf]
    · rw [lt]
      refine slots_of (q := q) (i := 0) h5 ?_
      unfold slots
      rw [if_pos (by rw [bys_len]; omega)]
      simp [bys, List.map_take]
/-- Bytes in the middle. -/
theorem cut_mid {h : IHeap} {sl : Value} {xs : List Nat} {a b : Nat} {K K2 : IntKind} (B : SlB h sl xs) (hab : a ≤ b) (hb : b ≤ xs.length) (hx : xs ≠ []) : ∃ A c d, (∀ h' : IHeap, h'.get d = h.get d → cutN Try.prog h' 26 sl (some (.int K (a : Nat))) (some (.int K2 (b : Nat))) = some (.slice A (b - a) c, .read d)) ∧ BR h d ∧ SlB h (.slice A (b - a) c) ((xs.drop a).take (b - a)) := by
  obtain ⟨A, c, rfl, h0, h2, hc⟩ := id B
  cases A with
  | none => exact absurd (h0 rfl).2 hx
  | some z =>
    obtain ⟨r, q, ro, z, cs, e, hz, h4, h5⟩ := h2 (by simp)
    cases e
    have lt : ((xs.drop a).take (b - a)).length = b - a := by rw [List.length_take, List.length_drop]; omega
    refine ⟨some ⟨r, q + a, none⟩, c - a, r, fun h' kp => ?_, ⟨ro, z, cs, SlB.z01 hz, h4⟩, some ⟨r, q + a, none⟩, c - a, by rw [lt], fun h => (by cases h), fun _ => ⟨r, q + a, ro, z, cs, rfl, hz, h4, ?_⟩, by omega⟩
    · have isl := islice_eq (P := Try.prog) (q := q) (l := a) (u := b) (n := xs.length) (lo := some (.int K (a : Nat))) (hi := some (.int K2 (b : Nat))) sl26 (kp.trans h4) (hz.imp And.right id) (bounds_both (k := K) (k' := K2) (c := c) hab (by omega))
      simp only [Nat.mul_one] at isl
      simp only [cutN, cutV, isl, Option.map_some, kindOf]
    · rw [lt]
      refine slots_of h5 ?_
      unfold slots
      rw [if_pos (by rw [bys_len]; omega)]
      simp [bys, List.map_take, List.map_drop]
theorem cut_tail {h : IHeap} {sl : Value} {xs : List Nat} {a : Nat} {K : IntKind} (B : SlB h sl xs) (ha : a ≤ xs.length) (hx : xs ≠ []) : ∃ A c d, (∀ h' : IHeap, h'.get d = h.get d → cutN Try.prog h' 26 sl (some (.int K (a : Nat))) none = some (.slice A (xs.length - a) c, .read d)) ∧ BR h d ∧ SlB h (.slice A (xs.length - a) c) (xs.drop a) := by
  obtain ⟨A, c, rfl, h0, h2, hc⟩ := id B
  cases A with
  | none => exact absurd (h0 rfl).2 hx
  | some z =>
    obtain ⟨r, q, ro, z, cs, e, hz, h4, h5⟩ := h2 (by simp)
    cases e
    refine ⟨some ⟨r, q + a, none⟩, c - a, r, fun h' kp => ?_, ⟨ro, z, cs, SlB.z01 hz, h4⟩, some ⟨r, q + a, none⟩, c - a, by rw [List.length_drop], fun h => (by cases h), fun _ => ⟨r, q + a, ro, z, cs, rfl, hz, h4, ?_⟩, by rw [List.length_drop]; omega⟩
    · have isl := islice_eq (P := Try.prog) (q := q) (l := a) (n := xs.length) (lo := some (.int K (a : Nat))) (hi := none) sl26 (kp.trans h4) (hz.imp And.right id) (bounds_lo (k := K) (c := c) ha hc)
      simp only [Nat.mul_one] at isl
      simp only [cutN, cutV, isl, Option.map_some, kindOf]
    · rw [List.length_drop]
      refine slots_of h5 ?_
      unfold slots
      rw [if_pos (by rw [bys_len]; omega)]
      have : (List.take (xs.length - a) (List.drop a (bys xs))) = List.drop a (bys xs) := List.take_of_length_le (by rw [List.length_drop, bys_len]; exact Nat.le_refl _)
      rw [this]
      simp [bys, List.map_drop]
theorem begin_c {h : IHeap} {v left : Value} {R most : Nat} {high : Bool} (hR : h.get R = some (.row false 0 (rdr .nilFunc 0 left))) (b : SlB h v (baseL high most)) (m1 : 1 ≤ most) (m2 : most ≤ 65535) :
    FN Try.prog 28 #[.pointer (some ⟨R, 0, none⟩), v] h (Q := ⟨fun v' h' => v' = .bool true ∧ KR R h h' ∧ h'.get R = some (.row false 0 (rdr (.func (.func 33) #[.agg #[.bool high]] #[]) most left))⟩) := by
  obtain ⟨A, c, rfl, _⟩ := id b
  refine FN.enter mixed (fn := Try.f28) (by kernel_rfl) rfl (by kernel_rfl) fun e hn hg hd => ?_
  simp [Try.f28] at hn
  have a0 : e.get 0 = .pointer (some ⟨R, 0, none⟩) := hg 0 (by omega)
  have a1 : e.get 1 = .slice A (baseL high most).length c := hg 1 (by omega)
  clear hg
  have l24 := baseL_len high most
  have hx : baseL high most ≠ [] := fun e => by rw [e] at l24; simp at l24
  have e16 : (baseL high most).take 16 = headL high := by
    unfold baseL
    rw [List.append_assoc]
    exact List.take_left' (headL_len high)
  have d16 : ((baseL high most).drop 16).take 4 = layL high most 4 := by
    unfold baseL
    rw [List.append_assoc, List.drop_left' (headL_len high)]
    exact List.take_left' (layL_len _ _ _)
  have d20 : ((baseL high most).drop 20).take 4 = layL high 1 4 := by
    unfold baseL
    rw [List.drop_left' (by rw [List.length_append, headL_len, layL_len])]
    exact List.take_of_length_le (by rw [layL_len]; exact Nat.le_refl _)
  obtain ⟨A1, c1, kd1, ct1, kl1, sb1⟩ := cut_top (K := .i64) (k := 16) b (by omega) hx
  obtain ⟨A2, c2, kd2, ct2, kl2, sb2⟩ := cut_mid (K := .i64) (K2 := .i64) (a := 16) (b := 20) b (by omega) (by omega) hx
  obtain ⟨A3, c3, kd3, ct3, kl3, sb3⟩ := cut_mid (K := .i64) (K2 := .i64) (a := 20) (b := 24) b (by omega) (by omega) hx
  rw [e16] at sb1
  rw [show 20 - 16 = 4 from rfl] at ct2 sb2
  rw [show 24 - 20 = 4 from rfl] at ct3 sb3
  rw [d16] at sb2
  rw [d20] at sb3
  replace ct1 : ∀ h' : IHeap, h'.get kd1 = h.get kd1 → cutN Try.prog h' 26 (.slice A (baseL high most).length c) none (some (.int .i64 16)) = some (.slice A1 16 c1, .read kd1) := ct1
  replace ct2 : ∀ h' : IHeap, h'.get kd2 = h.get kd2 → cutN Try.prog h' 26 (.slice A (baseL high most).length c) (some (.int .i64 16)) (some (.int .i64 20)) = some (.slice A2 4 c2, .read kd2) := ct2
  replace ct3 : ∀ h' : IHeap, h'.get kd3 = h.get kd3 → cutN Try.prog h' 26 (.slice A (baseL high most).length c) (some (.int .i64 20)) (some (.int .i64 24)) = some (.slice A3 4 c3, .read kd3) := ct3
  rw [l24] at a1 ct1 ct2 ct3
  have hRl := IHeap.get_lt hR
  have z2 : zeros #[Value.bool false] 2 = [Value.bool false, Value.bool false] := rfl
  have s0 : slots [Value.bool false, Value.bool true] 0 1 = some [Value.bool false] := rfl
  have s1 : slots [Value.bool false, Value.bool true] 1 1 = some [Value.bool true] := rfl
  simp (maxSteps := 1000000) (disch := first | (simp; done) | (simp only [IHeap.size_push', IHeap.size_set']; omega) | omega) [a0, a1, hn, hd, z2]
  cases high with
  | false =>
    refine WPL.unroll mixed (by kernel_rfl) ?_
    have kp0 := (Keep.push h (.row false 1 [.bool false, .bool true])).push' (.row false 0 [.bool false])
    have ct1' := ct1 _ (kl1.kb kp0.kb)
    simp (maxSteps := 1000000) (disch := first | (simp; done) | (simp only [IHeap.size_push', IHeap.size_set']; omega) | omega) [a0, a1, hn, hd, z2, s0, ct1']
    have hc := head_c (h := (h.push (.row false 1 [.bool false, .bool true])).push (.row false 0 [.bool false])) (high := false)
    refine FN.mono hc ?_
    rintro v1 h1 ⟨o1, w1⟩
    have kp1 := kp0.trans w1.keep
    have ct2' := ct2 _ (kl2.kb kp1.kb)
    simp (maxSteps := 1000000) (disch := first | (simp; done) | (simp only [IHeap.size_push', IHeap.size_set']; omega) | omega) [a0, a1, hn, hd, z2, s0]
    refine FN.of (equal_c (sb1.keep kp1) o1.slb) ?_
    have bx : h1.get (h.size + 1) = some (.row false 0 [.bool false]) := w1.keep.get (IHeap.get_pushed _ (by rw [IHeap.size_push']))
    have hR1 := kp1.get hR
    rw [rdr] at hR1
    simp (maxSteps := 1000000) (disch := first | (simp; done) | (simp only [IHeap.size_push', IHeap.size_set']; omega) | omega) [a0, a1, hn, hd, z2, s0, beqS, bx, ct2']
    have z1 := w1.le
    simp only [IHeap.size_push'] at z1
    refine ⟨niC_pend [(1, 3)] (by kernel_rfl) ⟨(kl1.mono kp0.kb).kb w1.keep.kb, trivial⟩, ?_⟩
    refine FN.of (at_c (sb2.keep kp1) (by omega)) ?_
    have bx2 := (Keep.push h1 (.row false 0 [.bool false])).get bx
    have hR2 := (Keep.push h1 (.row false 0 [.bool false])).get hR1
    have m1' : (1 : Int) ≤ most := by omega
    have m2' : (most : Int) ≤ 65535 := by omega
    have ct3' : ∀ o : IObj, cutN Try.prog ((h1.set R o).push (.row false 0 [.bool false])) 26 (.slice A 24 c) (some (.int .i64 20)) (some (.int .i64 24)) = some (.slice A3 4 c3, .read kd3) := fun o => ct3 _ (kl3.kb ((kp1.kb.trans (KB.set o hR1 (by omega))).trans (KB.push _ _)))
    simp (maxSteps := 1000000) (disch := first | (simp; done) | (simp only [IHeap.size_push', IHeap.size_set']; omega) | omega) [a0, a1, hn, hd, z2, s0, beqS, bx, bx2, hR2, ct2', m1', m2', ct3']
    refine ⟨niC_pend [(2, 7)] (by kernel_rfl) ⟨bx2.trans bx.symm, trivial⟩, ?_⟩
    refine FN.of (at_c (n := 1) (sb3.kb ((kp1.kb.trans (KB.set _ hR1 (by omega))).trans (KB.push _ _))) (by omega)) ?_
    simp (maxSteps := 1000000) (disch := first | (simp; done) | (simp only [IHeap.size_push', IHeap.size_set']; omega) | omega) [a0, a1, hn, hd, z2, s0, beqS, bx, bx2, hR2, ct2', m1', m2', ct3']
    exact ⟨niC_pend [] (by kernel_rfl) trivial, (((kp1.kr R).set _).trans ((Keep.push _ _).kr R)).trans ((Keep.push _ _).kr R), rfl⟩
  | true =>
    refine WPL.unroll mixed (by kernel_rfl) ?_
    have kp0 := (Keep.push h (.row false 1 [.bool false, .bool true])).push' (.row false 0 [.bool false])
    have ct1' := ct1 _ (kl1.kb kp0.kb)
    simp (maxSteps := 1000000) (disch := first | (simp; done) | (simp only [IHeap.size_push', IHeap.size_set']; omega) | omega) [a0, a1, hn, hd, z2, s0, ct1']
    have hc := head_c (h := (h.push (.row false 1 [.bool false, .bool true])).push (.row false 0 [.bool false])) (high := false)
    refine FN.mono hc ?_
    rintro v0 g1 ⟨o0, w0⟩
    have kpa := kp0.trans w0.keep
    have za := w0.le
    simp only [IHeap.size_push'] at za
    have bo : g1.get h.size = some (.row false 1 [.bool false, .bool true]) := w0.keep.get ((Keep.push _ _).get (IHeap.get_pushed _ rfl))
    simp (maxSteps := 1000000) (disch := first | (simp; done) | (simp only [IHeap.size_push', IHeap.size_set']; omega) | omega) [a0, a1, hn, hd, z2, s0]
    refine FN.of (equal_c (sb1.keep kpa) o0.slb) ?_
    simp (maxSteps := 1000000) (disch := first | (simp; done) | (simp only [IHeap.size_push', IHeap.size_set']; omega) | omega) [a0, a1, hn, hd, z2, s0, head_ne]
    refine ⟨niC_pend [(1, 3)] (by kernel_rfl) ⟨(kl1.mono kp0.kb).kb w0.keep.kb, trivial⟩, ?_⟩
    clear kp0 ct1'
    have hga := w0.le
    refine WPL.unroll mixed (by kernel_rfl) ?_
    have kp0 := kpa.push' (.row false 0 [.bool true])
    have ct1' := ct1 _ (kl1.kb kp0.kb)
    simp (maxSteps := 1000000) (disch := first | (simp; done) | (simp only [IHeap.size_push', IHeap.size_set']; omega) | omega) [a0, a1, hn, hd, z2, s1, bo, ct1']
    have hc := head_c (h := g1.push (.row false 0 [.bool true])) (high := true)
    refine FN.mono hc ?_
    rintro v1 h1 ⟨o1, w1⟩
    have kp1 := kp0.trans w1.keep
    have ct2' := ct2 _ (kl2.kb kp1.kb)
    simp (maxSteps := 1000000) (disch := first | (simp; done) | (simp only [IHeap.size_push', IHeap.size_set']; omega) | omega) [a0, a1, hn, hd, z2, s1]
    refine FN.of (equal_c (sb1.keep kp1) o1.slb) ?_
    have bx : h1.get g1.size = some (.row false 0 [.bool true]) := w1.keep.get (IHeap.get_pushed _ rfl)
    have hR1 := kp1.get hR
    rw [rdr] at hR1
    simp (maxSteps := 1000000) (disch := first | (simp; done) | (simp only [IHeap.size_push', IHeap.size_set']; omega) | omega) [a0, a1, hn, hd, z2, s1, beqS, bx, ct2']
    have z1 := w1.le
    simp only [IHeap.size_push'] at z1
    refine ⟨niC_pend [(1, 3)] (by kernel_rfl) ⟨(kl1.mono kp0.kb).kb w1.keep.kb, trivial⟩, ?_⟩
    refine FN.of (at_c (sb2.keep kp1) (by omega)) ?_
    have bx2 := (Keep.push h1 (.row false 0 [.bool true])).get bx
    have hR2 := (Keep.push h1 (.row false 0 [.bool true])).get hR1
    have m1' : (1 : Int) ≤ most := by omega
    have m2' : (most : Int) ≤ 65535 := by omega
    have ct3' : ∀ o : IObj, cutN Try.prog ((h1.set R o).push (.row false 0 [.bool true])) 26 (.slice A 24 c) (some (.int .i64 20)) (some (.int .i64 24)) = some (.slice A3 4 c3, .read kd3) := fun o => ct3 _ (kl3.kb ((kp1.kb.trans (KB.set o hR1 (by omega))).trans (KB.push _ _)))
    simp (maxSteps := 1000000) (disch := first | (simp; done) | (simp only [IHeap.size_push', IHeap.size_set']; omega) | omega) [a0, a1, hn, hd, z2, s1, beqS, bx, bx2, hR2, ct2', m1', m2', ct3']
    refine ⟨niC_pend [(2, 7)] (by kernel_rfl) ⟨bx2.trans bx.symm, trivial⟩, ?_⟩
    refine FN.of (at_c (n := 1) (sb3.kb ((kp1.kb.trans (KB.set _ hR1 (by omega))).trans (KB.push _ _))) (by omega)) ?_
    simp (maxSteps := 1000000) (disch := first | (simp; done) | (simp only [IHeap.size_push', IHeap.size_set']; omega) | omega) [a0, a1, hn, hd, z2, s1, beqS, bx, bx2, hR2, ct2', m1', m2', ct3']
    exact ⟨niC_pend [] (by kernel_rfl) trivial, (((kp1.kr R).set _).trans ((Keep.push _ _).kr R)).trans ((Keep.push _ _).kr R), rfl⟩
end Go.Proofs.Ytkpbdhfaobmbpaa.Ideal
