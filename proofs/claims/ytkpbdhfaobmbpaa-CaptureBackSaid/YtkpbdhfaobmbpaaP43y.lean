import Derived.Test.YtkpbdhfaobmbpaaP43x
noncomputable section
open Go.Proofs
namespace Go.Proofs.Ytkpbdhfaobmbpaa.Ideal
open Go.RowKit
set_option linter.unusedSimpArgs false
set_option linter.unusedVariables false
set_option linter.unusedSectionVars false
set_option maxRecDepth 100000
set_option maxHeartbeats 4000000
/-- A shot as the file tells it. -/
def cutS (most : Nat) (s : SH) : SH := { s with xs := s.xs.take (min s.xs.length most) }
/-- A shot that may be written. -/
def fit (u : SH) : Prop := badS u = false ∧ u.sec < 4294967296 ∧ u.had < 4294967296 ∧ u.xs.length ≤ 400
/-- A reader that was told all but F of the file; U are still to come. -/
def RdS (high : Bool) (most R : Nat) (F : List Nat) (U : List SH) (bg : Bool) (h : IHeap) : Prop :=
  ∃ left L, SlB h left L ∧ h.get R = some (.row false 0 (rdr (if bg then atF high else .nilFunc) (if bg then most else 0) left)) ∧
    L ++ F = (if bg then [] else baseL high most) ++ U.flatMap (recL high most) ∧ L.length < (if bg then need most U else 24)
attribute [-simp] IHeap.size_set IHeap.size_push
attribute [local simp ↓] Hid.ap_mk
attribute [local simp] scopeQ_normal scopeQ_ret scopeQ_exit WP_skip WP_label WP_exit WP_goto WP_ret WP_region WP_seq WP_cond WP_block WP_scope WP_loop WP_range thenQ_normal thenQ_ret thenQ_exit thenQ_goto loopQ_normal loopQ_ret loopQ_exit invQ_normal invQ_ret invQ_exit outOf_normal outOf_ret outOf_goto outOf_exit ev_tmp ev_const ev_func
  wops_nil wops_cons wantedE_none wantedE_some jgd_some wnx_eq niC_false wdo_move wdo_assign wdo_pick wdo_load wdo_store wdo_alloc wdo_box wdo_fieldAddr wdo_indexAddr wdo_field wdo_extract wdo_build wdo_buildSlice wdo_makeSlice wdo_binOp wdo_unOp wdo_makeFunc wdo_nilCheck wdo_callV wdo_len wdo_append wdo_copy wdo_delete wdo_max wdo_min wdo_convert jcvt_int
  xput_get put_n put_none put_dfr ibin finQ_n finQ_r finD_nil splice_one ires_nil ires_one ires_two ires_three ires1_tmp ires1_cell jcell_ptr rowLoad_row wrap64 wrapU64 wrapU8 wrapU16 wrapU32 callV_fn buildOf Instr.fill Value.cells Value.oneCell' kindOf slots_all splice_all IHeap.size_set' IHeap.size_push' IHeap.get_set_same IHeap.get_set_ne IHeap.get_pushed IHeap.get_push_ne IHeap.set_set IHeap.set_push IHeap.set_pushed IHeap.set_set3 getU_nil getU_same getU_ne jif_true jif_false pushH_eq setH_eq forceL_eq forceV_eq ibuildSlice
attribute [local simp high] wdo_str26
attribute [local simp] wdo_index jopt_some wdo_toArr wdo_cut26
attribute [-simp] Value.oneCell'
attribute [local simp] one_int' one_slc' one_bool' one_func' one_nilF'
theorem none_c {h : IHeap} {R most : Nat} {at_ left : Value} (hR : h.get R = some (.row false 0 (rdr at_ most left))) : ICall Try.prog 26 #[.pointer (some ⟨R, 0, none⟩)] h (.bool false) h := by
  refine ICall.of_FN ?_
  rw [rdr] at hR
  refine FN.enter mixed (fn := Try.f26) (by kernel_rfl) rfl (by kernel_rfl) fun e hn hg hd => ?_
  simp [Try.f26] at hn
  have a0 : e.get 0 = .pointer (some ⟨R, 0, none⟩) := hg 0 (by omega)
  clear hg
  simp (maxSteps := 1000000) (disch := first | (simp; done) | (simp only [IHeap.size_push', IHeap.size_set']; omega) | omega) [a0, hn, hd, hR, undef]
theorem new_c {h : IHeap} : ICall Try.prog 10 #[] h (.pointer (some ⟨h.size, 0, none⟩)) (h.push (.row false 0 (rdr .nilFunc 0 (.slice none 0 0)))) := by
  refine ICall.of_FN ?_
  refine FN.enter mixed (fn := Try.f10) (by kernel_rfl) rfl (by kernel_rfl) fun e hn hg hd => ?_
  simp [Try.f10] at hn
  clear hg
  simp (maxSteps := 1000000) (disch := first | (simp; done) | (simp only [IHeap.size_push', IHeap.size_set']; omega) | omega) [hn, hd, rdr]
theorem most_c {h : IHeap} {R most : Nat} {at_ left : Value} (hR : h.get R = some (.row false 0 (rdr at_ most left))) : ICall Try.prog 14 #[.pointer (some ⟨R, 0, none⟩)] h (.int .u32 most) h := by
  refine ICall.of_FN ?_
  have nc := none_c hR
  rw [rdr] at hR
  refine FN.enter mixed (fn := Try.f14) (by kernel_rfl) rfl (by kernel_rfl) fun e hn hg hd => ?_
  simp [Try.f14] at hn
  have a0 : e.get 0 = .pointer (some ⟨R, 0, none⟩) := hg 0 (by omega)
  clear hg
  simp (maxSteps := 1000000) (disch := first | (simp; done) | (simp only [IHeap.size_push', IHeap.size_set']; omega) | omega) [a0, hn, hd]
  refine FN.of nc ?_
  simp (maxSteps := 1000000) (disch := first | (simp; done) | (simp only [IHeap.size_push', IHeap.size_set']; omega) | omega) [a0, hn, hd, hR]
theorem end_c {h : IHeap} {R most : Nat} {high : Bool} {A : Option Addr} {c : Nat} (hR : h.get R = some (.row false 0 (rdr (atF high) most (.slice A 0 c)))) : ICall Try.prog 13 #[.pointer (some ⟨R, 0, none⟩)] h (.int .i64 0) h := by
  refine ICall.of_FN ?_
  have nc := none_c hR
  rw [rdr, atF] at hR
  refine FN.enter mixed (fn := Try.f13) (by kernel_rfl) rfl (by kernel_rfl) fun e hn hg hd => ?_
  simp [Try.f13] at hn
  have a0 : e.get 0 = .pointer (some ⟨R, 0, none⟩) := hg 0 (by omega)
  clear hg
  simp (maxSteps := 1000000) (disch := first | (simp; done) | (simp only [IHeap.size_push', IHeap.size_set']; omega) | omega) [a0, hn, hd]
  refine FN.of nc ?_
  simp (maxSteps := 1000000) (disch := first | (simp; done) | (simp only [IHeap.size_push', IHeap.size_set']; omega) | omega) [a0, hn, hd, hR, undef]
theorem KR.kb {R : Nat} {h h' : IHeap} {cs : List Value} (x : KR R h h') (hR : h.get R = some (.row false 0 cs)) : KB h h' := fun r ro z cs2 hz e => by
  by_cases c : r = R
  · subst c
    rw [hR] at e
    cases e
    rcases hz with h | h <;> cases h
  · rw [x.eq r (IHeap.get_lt e) c]
    exact e
theorem OwnS.kr {lo R : Nat} {h h' : IHeap} {w : Value} {V : List SH} (x : OwnS lo h w V) (k : KR R h h') (kb : KB h h') (hR : R < lo) : OwnS lo h' w V := by
  obtain ⟨x, y⟩ := x
  refine ⟨x.imp id fun ⟨j, h1, h2, h3⟩ => ⟨j, h1, h2, ?_⟩, fun t ht => ⟨(y t ht).1.kb kb, (y t ht).2⟩⟩
  rw [k.eq j (IHeap.get_lt h3) (by omega)]
  exact h3
theorem app_own2 {lo : Nat} {h : IHeap} {v : Value} {T : List SH} {s : SH} (x : OwnS lo h v T) (ok : s.ok h) (l4 : s.xs.length ≤ 400) (hT : T.length ≤ 1000) (hlo : lo ≤ h.size) :
    ∃ v' h', iappend Try.prog (h.push (.row false 4 s.cells)) 23 23 v (.slice (some ⟨h.size, 0, none⟩) 1 1) = some (v', h') ∧ OwnS lo h' v' (T ++ [s]) ∧ (∀ i, i < lo → h'.get i = h.get i) ∧ h.size ≤ h'.size ∧ KB h h' ∧ ∀ i cs, h.get i = some (.row false 0 cs) → h'.get i = some (.row false 0 cs) := by
  obtain ⟨x, y⟩ := x
  have sr : srcOf (h.push (.row false 4 s.cells)) 4 (.slice (some ⟨h.size, 0, none⟩) 1 1) = some (1, s.cells) := src_row (IHeap.get_pushed _ rfl) (by exact slots_full _ rfl) (by omega)
  rcases x with ⟨rfl, rfl⟩ | ⟨j, hj, rfl, hg⟩
  · refine ⟨_, _, iapp_nil sl23 ze31 bt31 rfl (by omega) ni23' sr (SH.cells_one ok) (by omega) (by omega), ⟨.inr ⟨(h.push (.row false 4 s.cells)).size, by rw [IHeap.size_push']; omega, rfl, ?_⟩, ?_⟩, fun i hi => ?_, ?_⟩
    · rw [IHeap.get_pushed _ rfl]
      rfl
    · intro t ht
      rw [List.nil_append, List.mem_singleton] at ht
      subst ht
      exact ⟨ok.keep ((Keep.push _ _).push' _), l4⟩
    · exact ((Keep.push _ _).push' _).eq i (by omega)
    · exact ⟨((Keep.push _ _).push' _).le, ((Keep.push _ _).push' _).kb, fun i cs e => ((Keep.push _ _).push' _).get e⟩
  · have hjs := IHeap.get_lt hg
    obtain ⟨h2, k, ap, r2, k2, z2, f2⟩ := iapp_any (P := Try.prog) (h := h.push (.row false 4 s.cells)) (t := 23) (t2 := 23) (i := j) (n := T.length) (m := 1) (cs := shc T) (news := s.cells) sl23 ze31 bt31 (by rfl) (by omega) ni23' sr (SH.cells_one ok) (by rfl) (by omega) ((Keep.push _ _).get hg) (shc_len T)
    rw [IHeap.size_push'] at k2 z2 f2
    have kb : KB h h2 := fun r ro z cs hz e => by
      have hr := IHeap.get_lt e
      rw [k2 r (by omega) (fun er => by
        subst er
        rw [hg] at e
        cases e
        rcases hz with h | h
        · cases h
        · omega)]
      exact (Keep.push _ _).get e
    refine ⟨_, h2, ap, ⟨.inr ⟨k, by omega, ?_, ?_⟩, ?_⟩, fun i hi => ?_, by omega, kb, fun i cs e => ?_⟩
    · rw [List.length_append]
      rfl
    · rw [r2, shc_app]
      rfl
    · intro t ht
      rw [List.mem_append, List.mem_singleton] at ht
      rcases ht with ht | rfl
      · exact ⟨(y t ht).1.kb kb, (y t ht).2⟩
      · exact ⟨ok.kb kb, l4⟩
    · rw [k2 i (by omega) (by omega)]
      exact (Keep.push _ _).eq i (by omega)
    · have hr := IHeap.get_lt e
      rw [k2 i (by omega) (fun er => by
        subst er
        rw [hg] at e
        cases e)]
      exact (Keep.push _ _).get e
theorem OwnS.set0 {lo : Nat} {h : IHeap} {w : Value} {M : List SH} (x : OwnS lo h w M) {i : Nat} {cs : List Value} (o : IObj) (e : h.get i = some (.row false 0 cs)) : OwnS lo (h.set i o) w M := by
  obtain ⟨x, y⟩ := x
  refine ⟨?_, fun t ht => ⟨(y t ht).1.kb (KB.set o e (by omega)), (y t ht).2⟩⟩
  rcases x with h | ⟨j, hj, h, g⟩
  · exact .inl h
  · refine .inr ⟨j, hj, h, ?_⟩
    rw [IHeap.get_set_ne _ (fun hh => by
      subst hh
      rw [e] at g
      cases g)]
    exact g
/-- Feed's round. -/
structure FdS (h : IHeap) (R : Nat) (high : Bool) (most : Nat) (F : List Nat) (U : List SH) (w : Value) (box : Nat) (V' : List SH) (p : Option SH) (U' : List SH) (h' : IHeap) : Prop where
  eu : ∃ V, U = V ++ U' ∧ (V' ++ p.toList).map SH.ct = V.map (fun s => (cutS most s).ct)
  o : OwnS h.size h' w V'
  r : ∃ left L, SlB h' left L ∧ h'.get R = some (.row false 0 (rdr (atF high) most left)) ∧ L ++ F = U'.flatMap (recL high most) ∧ (p = none → L.length < need most U')
  k : KR R h h'
  b : h.size ≤ box
  g : ∀ s, p = some s → h'.get box = some (.row false 0 s.cells) ∧ s.ok h' ∧ s.xs.length ≤ 400
theorem fit_cut {u : SH} {most : Nat} {ys : List Nat} {sl : Value} {lo : Nat} {h : IHeap} (f : fit u) (hy : u.xs.take (min u.xs.length most) = ys) (o : OwnB lo h sl ys) : SH.ok { u with xs := ys, sl := sl } h ∧ ys.length ≤ 400 := by
  obtain ⟨f1, f2, f3, f4⟩ := f
  refine ⟨⟨o.slb, f2, ?_⟩, ?_⟩
  · unfold badS at f1
    rw [Bool.or_eq_false_iff] at f1
    have h1 := of_decide_eq_false f1.1
    show u.micro < _
    omega
  · rw [← hy, List.length_take]
    omega
def FdI (h : IHeap) (R : Nat) (high : Bool) (most : Nat) (F : List Nat) (U : List SH) (k : Nat) (e : XEnv) (h' : IHeap) : Prop :=
  ∃ (box : Nat) (p : Option SH) (V' U' : List SH) (w : Value), k = U'.length + p.toList.length ∧ e.n = 81 ∧ e.dfr = [] ∧ e.get 0 = .pointer (some ⟨R, 0, none⟩) ∧ e.get 4 = w ∧ e.get 6 = .pointer (some ⟨box, 0, none⟩) ∧ e.get 7 = .bool p.isSome ∧ FdS h R high most F U w box V' p U' h'
/-- What Feed comes to. -/
def FeedQ (h : IHeap) (R : Nat) (high : Bool) (most : Nat) (F : List Nat) (U : List SH) (v : Value) (h' : IHeap) : Prop :=
  ∃ sl V V' U' bg', U = V ++ U' ∧ v = .tuple #[sl, .int .i64 0] ∧ OwnS h.size h' sl V' ∧ V'.map SH.ct = V.map (fun s => (cutS most s).ct) ∧ RdS high most R F U' bg' h' ∧ KR R h h'
theorem feed_c {h : IHeap} {x : Value} {X F : List Nat} {S U : List SH} {R most : Nat} {high bg : Bool} (rs : RdS high most R (X ++ F) U bg h) (b : SlB h x X) (m1 : 1 ≤ most) (m2 : most ≤ 65535) (hu : ∀ u ∈ U, fit u) (hU : U.length ≤ 60) (hX : X.length ≤ 1000) :
    FN Try.prog 11 #[.pointer (some ⟨R, 0, none⟩), x] h (Q := ⟨fun v h' => FeedQ h R high most F U v h'⟩) := by
  obtain ⟨left, L, bl, hR, e0, nl⟩ := rs
  have nc := none_c hR
  have hRl := IHeap.get_lt hR
  obtain ⟨Ax, cx, rfl, _⟩ := id b
  obtain ⟨A, c, rfl, _⟩ := id bl
  have hR0 := hR
  rw [rdr] at hR
  refine FN.enter mixed (fn := Try.f11) (by kernel_rfl) rfl (by kernel_rfl) fun e hn hg hd => ?_
  simp [Try.f11] at hn
  have a0 : e.get 0 = .pointer (some ⟨R, 0, none⟩) := hg 0 (by omega)
  have a1 : e.get 1 = .slice Ax X.length cx := hg 1 (by omega)
  clear hg
  simp (maxSteps := 1000000) (disch := first | (simp; done) | (simp only [IHeap.size_push', IHeap.size_set']; omega) | omega) [a0, a1, hn, hd]
  refine FN.of nc ?_
  simp (maxSteps := 1000000) (disch := first | (simp; done) | (simp only [IHeap.size_push', IHeap.size_set']; omega) | omega) [a0, a1, hn, hd, hR]
  have nb : L.length ≤ 416 := by
    cases bg with
    | false =>
      have : L.length < 24 := nl
      omega
    | true =>
      have : L.length < need most U := nl
      cases U with
      | nil =>
        have : L.length < 1 := this
        omega
      | cons u U =>
        have h1 : L.length < 16 + min u.xs.length most := this
        have := (hu u (by simp)).2.2.2
        omega
  refine FN.mono (clone_c bl (by omega)) ?_
  rintro v1 h1 ⟨o1, k1⟩
  obtain ⟨v2, h2, ap, o2, w2⟩ := app_bys o1 rfl (b.keep k1).src k1.le (by omega)
  have k2 : Keep h h2 := (k1.wk (Nat.le_refl _)).trans w2 |>.keep
  have hR2 := k2.get hR0
  rw [rdr] at hR2
  obtain ⟨A2, c2, rfl, _⟩ := id o2.slb
  have z2 := k2.le
  simp (maxSteps := 1000000) (disch := first | (simp; done) | (simp only [IHeap.size_push', IHeap.size_set']; omega) | omega) [-WP_seq, a0, a1, hn, hd, hR, hR2, ap]
  have ob : OwnB h.size h2 (.slice A2 (L ++ X).length c2) (L ++ X) := o2
  by_cases ret : bg = false ∧ (L ++ X).length < 24
  · obtain ⟨rfl, l24⟩ := ret
    have l24' : (L.length : Int) + X.length < 24 := by
      rw [List.length_append] at l24
      omega
    simp (maxSteps := 1000000) (disch := first | (simp; done) | (simp only [IHeap.size_push', IHeap.size_set']; omega) | omega) [a0, a1, hn, hd, l24']
    refine ⟨.slice none 0 0, [], [], U, false, rfl, rfl, ⟨.inl ⟨rfl, rfl⟩, fun t ht => by simp at ht⟩, rfl, ⟨.slice A2 (L ++ X).length c2, L ++ X, ob.slb.kb (KB.set _ hR2 (by omega)), ?_, ?_, l24⟩, (k2.kr R).set _⟩
    · rw [IHeap.get_set_same _ (by omega), List.length_append]
      rfl
    · rw [List.append_assoc]
      exact e0
  refine WP.cut1 (fun e' h' => e'.n = 81 ∧ e'.dfr = [] ∧ e'.get 0 = .pointer (some ⟨R, 0, none⟩) ∧ e'.get 4 = .slice none 0 0 ∧ KR R h h' ∧ ∃ left L, SlB h' left L ∧ h'.get R = some (.row false 0 (rdr (atF high) most left)) ∧ L ++ F = U.flatMap (recL high most)) ?_ ?_
  · cases bg with
    | true =>
      simp (maxSteps := 1000000) (disch := first | (simp; done) | (simp only [IHeap.size_push', IHeap.size_set']; omega) | omega) [a0, a1, hn, hd, atF]
      refine ⟨(k2.kr R).set _, .slice A2 (L ++ X).length c2, L ++ X, ob.slb.kb (KB.set _ hR2 (by omega)), ?_, ?_⟩
      · rw [List.length_append]
        rfl
      · rw [List.append_assoc]
        exact e0
    | false =>
      have l24 : ¬ ((L.length : Int) + X.length < 24) := fun hc => ret ⟨rfl, by rw [List.length_append]; omega⟩
      have l24n : 24 ≤ (L ++ X).length := by
        rw [List.length_append]
        omega
      have hx : L ++ X ≠ [] := fun e => by rw [e] at l24n; simp at l24n
      have kb2 : ∀ o, KB h2 (h2.set R o) := fun o => KB.set o hR2 (by omega)
      generalize hh3 : IHeap.set h2 R _ = h3
      have z3 : h3.size = h2.size := by rw [← hh3, IHeap.size_set']
      have kb3 : KB h2 h3 := by rw [← hh3]; exact kb2 _
      have s3 := ob.slb.kb kb3
      have r3 : h3.get R = some (.row false 0 (rdr .nilFunc 0 (.slice A2 (L.length + X.length) c2))) := by rw [← hh3, IHeap.get_set_same _ (by omega)]; rfl
      have kr3 : KR R h h3 := by rw [← hh3]; exact (k2.kr R).set _
      obtain ⟨A3, c3, d3, ct3, kl3, sb3⟩ := cut_top (K := .i64) (k := 24) s3 l24n hx
      obtain ⟨A4, c4, d4, ct4, kl4, sb4⟩ := cut_tail (K := .i64) (a := 24) s3 l24n hx
      have t24 : (L ++ X).take 24 = baseL high most := by
        have e1 : (L ++ X) ++ F = baseL high most ++ U.flatMap (recL high most) := by
          rw [List.append_assoc]
          exact e0
        have e2 := congrArg (List.take 24) e1
        rw [List.take_append_of_le_length l24n, List.take_left' (baseL_len high most)] at e2
        exact e2
      have d24 : (L ++ X).drop 24 ++ F = U.flatMap (recL high most) := by
        have e1 : (L ++ X) ++ F = baseL high most ++ U.flatMap (recL high most) := by
          rw [List.append_assoc]
          exact e0
        have e2 := congrArg (List.drop 24) e1
        rw [List.drop_append_of_le_length l24n, List.drop_left' (baseL_len high most)] at e2
        exact e2
      rw [t24] at sb3
      have ct3' := ct3 h3 rfl
      rw [List.length_append] at ct3' ct4
      replace ct3' : cutN Try.prog h3 26 (.slice A2 (L.length + X.length) c2) none (some (.int .i64 24)) = some (.slice A3 24 c3, .read d3) := ct3'
      have bc := begin_c r3 sb3 m1 m2
      have r3' := r3
      rw [rdr] at r3'
      simp (maxSteps := 1000000) (disch := first | (simp; done) | (simp only [IHeap.size_push', IHeap.size_set']; omega) | omega) [a0, a1, hn, hd, l24, ct3', r3']
      refine FN.mono bc ?_
      rintro v h4 ⟨rfl, kr4, r4⟩
      have kb4 := kr4.kb r3
      have ct4' := ct4 h4 (kl4.kb kb4)
      replace ct4' : cutN Try.prog h4 26 (.slice A2 (L.length + X.length) c2) (some (.int .i64 24)) none = some (.slice A4 (L.length + X.length - 24) c4, .read d4) := ct4'
      rw [List.length_append] at sb4
      have r4' := r4
      rw [rdr] at r4'
      have z4 := kr4.le
      simp (maxSteps := 1000000) (disch := first | (simp; done) | (simp only [IHeap.size_push', IHeap.size_set']; omega) | omega) [a0, a1, hn, hd, ct4', r4']
      refine ⟨(kr3.trans kr4).set _, .slice A4 (L.length + X.length - 24) c4, (L ++ X).drop 24, sb4.kb (kb4.trans (KB.set _ r4 (by omega))), rfl, d24⟩
  clear hn hd a0 a1 e
  rintro e g1 ⟨hn, hd, a0, a4, k3, left3, L3, b3, hR3, e3⟩
  have z3 := k3.le
  rw [WP_seq (Q := _)]
  refine WP.cut1 (fun e' h' => e'.n = 81 ∧ e'.dfr = [] ∧ e'.get 0 = .pointer (some ⟨R, 0, none⟩) ∧ e'.get 4 = .slice none 0 0 ∧ ∃ box p U', e'.get 6 = .pointer (some ⟨box, 0, none⟩) ∧ e'.get 7 = .bool p.isSome ∧ FdS h R high most F U (.slice none 0 0) box [] p U' h') ?_ ?_
  · simp (maxSteps := 1000000) (disch := first | (simp; done) | (simp only [IHeap.size_push', IHeap.size_set']; omega) | omega) [a0, a4, hn, hd]
    refine FN.mono (shot_c hR3 b3 e3 m2 hu) ?_
    rintro v h5 sq
    rcases sq with ⟨nd, rfl, k5⟩ | ⟨u, U', sl, left5, L5, rfl, rfl, ob5, k5, r5, b5, e5⟩
    · have z5 := k5.le
      simp (maxSteps := 1000000) (disch := first | (simp; done) | (simp only [IHeap.size_push', IHeap.size_set']; omega) | omega) [a0, a4, hn, hd, noShot]
      have kk := k5.push' (.row false 0 [.int .u32 0, .int .u32 0, .int .u32 0, .slice none 0 0])
      refine ⟨U, ⟨[], rfl, rfl⟩, ⟨.inl ⟨rfl, rfl⟩, fun t ht => by simp at ht⟩, ⟨left3, L3, b3.keep kk, kk.get hR3, e3, fun _ => nd⟩, k3.trans (kk.kr R), by omega, fun s hs => by cases hs⟩
    · have z5 := k5.le
      obtain ⟨ys, hys⟩ : ∃ ys, u.xs.take (min u.xs.length most) = ys := ⟨_, rfl⟩
      rw [hys] at ob5 ⊢
      obtain ⟨D, d, rfl, _⟩ := id ob5.slb
      obtain ⟨ok5, l5⟩ := fit_cut (hu u (by simp)) hys ob5
      simp (maxSteps := 1000000) (disch := first | (simp; done) | (simp only [IHeap.size_push', IHeap.size_set']; omega) | omega) [a0, a4, hn, hd, SH.val, SH.cells]
      have kk := Keep.push h5 (.row false 0 [.int .u32 u.sec, .int .u32 u.micro, .int .u32 u.had, .slice D ys.length d])
      refine ⟨some ⟨u.sec, u.micro, u.had, ys, .slice D ys.length d⟩, rfl, U', ⟨[u], rfl, ?_⟩, ⟨.inl ⟨rfl, rfl⟩, fun t ht => by simp at ht⟩, ⟨left5, L5, b5.keep kk, kk.get r5, e5, fun h => by cases h⟩, (k3.trans k5).trans (kk.kr R), by omega, fun s hs => ?_⟩
      · simp only [List.nil_append, Option.toList_some, List.map_cons, List.map_nil, cutS, hys]
        rfl
      · cases hs
        exact ⟨IHeap.get_pushed _ rfl, ok5.keep kk, l5⟩
  clear hn hd a0 a4 e
  rintro e g2 ⟨hn, hd, a0, a4, box, p, U', a6, a7, fs⟩
  simp (maxSteps := 1000000) (disch := first | (simp; done) | (simp only [IHeap.size_push', IHeap.size_set']; omega) | omega) [a0, a4, a6, a7, hn, hd]
  refine WPL.by_inv mixed (by kernel_rfl) (FdI h R high most F U) (U'.length + p.toList.length) ?_ ?_
  · exact ⟨box, p, [], U', _, rfl, hn, hd, a0, a4, a6, a7, fs⟩
  clear hn hd a0 a4 a6 a7 fs e
  rintro k e g3 ⟨box, p, V', U', w, rfl, hn, hd, a0, a4, a6, a7, fs⟩
  cases p with
  | none =>
    obtain ⟨left4, L4, b4, r4, e4, n4⟩ := fs.r
    have r4' := r4
    rw [rdr] at r4'
    obtain ⟨V, hV, hc⟩ := fs.eu
    simp (maxSteps := 1000000) (disch := first | (simp; done) | (simp only [IHeap.size_push', IHeap.size_set']; omega) | omega) [a0, a4, a6, a7, hn, hd, r4']
    refine ⟨w, V, V', U', true, hV, rfl, fs.o, ?_, ⟨left4, L4, b4, r4, e4, n4 rfl⟩, fs.k⟩
    simpa using hc
  | some s =>
    obtain ⟨gb, gok, g4⟩ := fs.g s rfl
    obtain ⟨B, d, eb, _⟩ := id gok.b
    have z4 := fs.k.le
    obtain ⟨left4, L4, b4, r4, e4, n4⟩ := fs.r
    obtain ⟨V, hV, hc⟩ := fs.eu
    have bxl := IHeap.get_lt gb
    have VL : V'.length ≤ 1000 := by
      have h1 := congrArg List.length hc
      have h2 := congrArg List.length hV
      simp only [List.length_map, List.length_append] at h1 h2
      omega
    obtain ⟨w', g4', ap, o4, f4, z5, kb4, b0⟩ := app_own2 fs.o gok g4 VL z4
    have gb4 := b0 _ _ gb
    have gr4 := b0 _ _ r4
    have zz : zeros #[Value.int .u32 0, Value.int .u32 0, Value.int .u32 0, Value.slice none 0 0] 1 = [Value.int .u32 0, Value.int .u32 0, Value.int .u32 0, Value.slice none 0 0] := rfl
    rw [SH.cells, eb] at ap gb gb4
    have kk := Keep.push g4' (.row false 0 [.int .u32 s.sec, .int .u32 s.micro, .int .u32 s.had, .slice B s.xs.length d])
    simp (maxSteps := 1000000) (disch := first | (simp; done) | (simp only [IHeap.size_push', IHeap.size_set']; omega) | omega) [a0, a4, a6, a7, hn, hd, gb, gb4, zz, ap]
    have sc := shot_c (kk.get gr4) ((b4.kb kb4).keep kk) e4 m2 (fun u hu' => hu u (by rw [hV]; simp [hu']))
    refine FN.mono sc ?_
    rintro v h5 sq
    have kr4 : KR R h (g4'.push (.row false 0 [.int .u32 s.sec, .int .u32 s.micro, .int .u32 s.had, .slice B s.xs.length d])) := ⟨by rw [IHeap.size_push']; omega, fun i hi hr => by rw [kk.eq i (by omega), f4 i hi, fs.k.eq i hi hr]⟩
    have ow := o4.keep kk
    have bz : (g4'.push (.row false 0 [.int .u32 s.sec, .int .u32 s.micro, .int .u32 s.had, .slice B s.xs.length d])).get g4'.size = _ := IHeap.get_pushed _ rfl
    have gr5 := kk.get gr4
    have bl5 := (b4.kb kb4).keep kk
    have eV : (V' ++ [s]).map SH.ct = V.map (fun s => (cutS most s).ct) := by simpa using hc
    have hRh : R ≠ g4'.size := by omega
    have kkz := kk.le
    generalize g4'.push _ = g5 at *
    rcases sq with ⟨nd, rfl, k5⟩ | ⟨u, U'', sl, left5, L5, rfl, rfl, ob5, k5, r5, b5, e5⟩
    · have bz5 := k5.get bz
      simp (maxSteps := 1000000) (disch := first | (simp; done) | (simp only [IHeap.size_push', IHeap.size_set']; omega) | omega) [a0, a4, a6, a7, hn, hd, noShot, bz5]
      refine ⟨U'.length, by simp, g4'.size, none, V' ++ [s], U', w', rfl, ?_⟩
      simp (maxSteps := 1000000) (disch := first | (simp; done) | (simp only [IHeap.size_push', IHeap.size_set']; omega) | omega) [a0, a4, a6, a7, hn, hd]
      exact ⟨⟨V, hV, by simpa using eV⟩, (ow.keep k5).set0 _ bz5, ⟨left4, L4, (bl5.keep k5).kb (KB.set _ bz5 (by omega)), by rw [IHeap.get_set_ne _ hRh.symm]; exact k5.get gr5, e4, fun _ => nd⟩, (kr4.trans (k5.kr R)).setN _ (by omega), by omega, fun s hs => by cases hs⟩
    · have bz5 : h5.get g4'.size = _ := (k5.eq _ (IHeap.get_lt bz) hRh.symm).trans bz
      have kb5 := k5.kb gr5
      obtain ⟨ys, hys⟩ : ∃ ys, u.xs.take (min u.xs.length most) = ys := ⟨_, rfl⟩
      rw [hys] at ob5 ⊢
      obtain ⟨D, d2, rfl, _⟩ := id ob5.slb
      obtain ⟨ok5, l5⟩ := fit_cut (hu u (by rw [hV]; simp)) hys ob5
      simp (maxSteps := 1000000) (disch := first | (simp; done) | (simp only [IHeap.size_push', IHeap.size_set']; omega) | omega) [a0, a4, a6, a7, hn, hd, SH.val, SH.cells, bz5]
      refine ⟨U''.length + 1, by simp, g4'.size, some ⟨u.sec, u.micro, u.had, ys, .slice D ys.length d2⟩, V' ++ [s], U'', w', rfl, ?_⟩
      simp (maxSteps := 1000000) (disch := first | (simp; done) | (simp only [IHeap.size_push', IHeap.size_set']; omega) | omega) [a0, a4, a6, a7, hn, hd]
      refine ⟨⟨V ++ [u], by rw [hV]; simp, ?_⟩, (ow.kr k5 kb5 hRl).set0 _ bz5, ⟨left5, L5, b5.kb (KB.set _ bz5 (by omega)), by rw [IHeap.get_set_ne _ hRh.symm]; exact r5, e5, fun h => by cases h⟩, (kr4.trans k5).setN _ (by omega), by omega, fun s hs => ?_⟩
      · rw [List.map_append, eV, List.map_append, Option.toList_some, List.map_cons, List.map_nil, List.map_cons, List.map_nil]
        simp only [cutS, hys]
        rfl
      · cases hs
        exact ⟨IHeap.get_set_same _ (IHeap.get_lt bz5), ok5.kb (KB.set _ bz5 (by omega)), l5⟩
end Go.Proofs.Ytkpbdhfaobmbpaa.Ideal
