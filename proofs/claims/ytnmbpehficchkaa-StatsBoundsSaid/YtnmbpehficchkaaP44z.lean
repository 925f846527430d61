import Derived.Test.YtnmbpehficchkaaP44y
noncomputable section
open Go.Proofs
namespace Go.Proofs.Ytnmbpehficchkaa.Ideal
open Go.RowKit
set_option linter.unusedSimpArgs false
set_option linter.unusedVariables false
set_option linter.unusedSectionVars false
set_option maxRecDepth 100000
set_option maxHeartbeats 4000000
attribute [-simp] IHeap.size_set IHeap.size_push
attribute [local simp ↓] Hid.ap_mk
attribute [local simp] scopeQ_normal scopeQ_ret scopeQ_exit WP_skip WP_label WP_exit WP_goto WP_ret WP_region WP_seq WP_cond WP_block WP_scope WP_loop WP_range thenQ_normal thenQ_ret thenQ_exit thenQ_goto loopQ_normal loopQ_ret loopQ_exit invQ_normal invQ_ret invQ_exit outOf_normal outOf_ret outOf_goto outOf_exit ev_tmp ev_const ev_func
  wops_nil wops_cons wantedE_none wantedE_some jgd_some wnx_eq niC_false wdo_move wdo_assign wdo_pick wdo_load wdo_store wdo_alloc wdo_box wdo_fieldAddr wdo_indexAddr wdo_field wdo_extract wdo_build wdo_buildSlice wdo_makeSlice wdo_binOp wdo_unOp wdo_makeFunc wdo_nilCheck wdo_callV wdo_len wdo_append wdo_copy wdo_delete wdo_max wdo_min wdo_convert jcvt_int
  xput_get put_n put_none put_dfr ibin finQ_n finQ_r finD_nil splice_one ires_nil ires_one ires_two ires_three ires1_tmp ires1_cell jcell_ptr rowLoad_row wrap64 wrapU64 wrapU8 wrapU16 wrapU32 callV_fn buildOf Instr.fill Value.cells Value.oneCell' kindOf slots_all splice_all IHeap.size_set' IHeap.size_push' IHeap.get_set_same IHeap.get_set_ne IHeap.get_pushed IHeap.get_push_ne IHeap.set_set IHeap.set_push IHeap.set_pushed IHeap.set_set3 getU_nil getU_same getU_ne jif_true jif_false pushH_eq setH_eq forceL_eq forceV_eq ibuildSlice
theorem hz50 (lo hi : Option Value) (h1 : isZ lo = true) (h2 : isZ hi = true) : pureVal Try.prog (Instr.sliceAt 50 (.slice none 0 0) lo hi none) = some (.slice none 0 0) := by
  unfold isZ at h1 h2
  split at h1 <;> split at h2 <;> first | (cases h1; done) | (cases h2; done) | skip
  · kernel_rfl
  · simp at h2; subst h2; kernel_rfl
  · simp at h1; subst h1; kernel_rfl
  · simp at h1 h2; subst h1; subst h2; kernel_rfl
theorem wdo_cut50 {draw : Bool} {all : Array Oper} {os : List Oper} {e : XEnv} {h : IHeap} (d : Option Tmp) (ty : TypeId) (p : String) (af : Array Edge) (g : Option (Nat × Bool)) [Q : Hid (XEnv → IHeap → Prop)] [E : Hid (List Ent)] (x : Operand) (lo hi : Option Operand) :
    wdo Try.prog draw all ⟨d, .slice 50 x lo hi none, ty, p, af, g⟩ os e h = jopt (cutN Try.prog h 50 (e.ev x) (lo.map e.ev) (hi.map e.ev)) (R := ⟨jgen Try.prog e ⟨d, .slice 50 x lo hi none, ty, p, af, g⟩ h (K := ⟨fun v h' k => wnx Try.prog draw all os e d h v h' k⟩)⟩) (K := ⟨fun v k => wnx Try.prog draw all os e d h v h k⟩) := wdo_cutN d ty p af g 50 hz50 x lo hi
attribute [local simp] wdo_index jopt_some wdo_cut50
attribute [-simp] Value.oneCell'
attribute [local simp] one_int' one_slc'
theorem ni50 : notInt Try.prog 50 = true := by kernel_rfl
theorem tcs_one (L : List CN) : (tcs L).all (·.oneCell') = true := by
  induction L with
  | nil => rfl
  | cons c L ih =>
    show (c.tal ++ tcs L).all _ = true
    rw [List.all_append, ih, one_tal]
    rfl
theorem tcs_app (L M : List CN) : tcs (L ++ M) = tcs L ++ tcs M := by simp [tcs]
/-- One more talker. -/
theorem app_tal {lo J : Nat} {h : IHeap} {v : Value} {M : List CN} {c : CN} (x : TS J h v M) (hJ : lo ≤ J) (hlo : lo ≤ h.size) (hM : M.length ≤ 1000) :
    ∃ v' h' J', iappend Try.prog (h.push (.row false 38 c.tal)) 50 50 v (.slice (some ⟨h.size, 0, none⟩) 1 1) = some (v', h') ∧ TS J' h' v' (M ++ [c]) ∧ lo ≤ J' ∧ (∀ i, i < lo → h'.get i = h.get i) ∧ h.size ≤ h'.size := by
  have sr : srcOf (h.push (.row false 38 c.tal)) 38 (.slice (some ⟨h.size, 0, none⟩) 1 1) = some (1, c.tal) := src_row (IHeap.get_pushed _ rfl) (by exact slots_full _ rfl) (by omega)
  have kp := Keep.push h (.row false 38 c.tal)
  rcases x with ⟨rfl, rfl⟩ | ⟨rfl, hg⟩
  · refine ⟨_, _, (h.push (.row false 38 c.tal)).size, iapp_nil sl50 ze47 bt47 rfl (by omega) ni50 sr (one_tal c) (by omega) (by omega), .inr ⟨rfl, ?_⟩, by rw [IHeap.size_push']; omega, fun i hi => (kp.push' _).eq i (by omega), (kp.push' _).le⟩
    rw [IHeap.get_pushed _ rfl]
    simp [tcs]
  · have hjs := IHeap.get_lt hg
    obtain ⟨h2, k, ap, r2, k2, z2, f2⟩ := iapp_any (P := Try.prog) (h := h.push (.row false 38 c.tal)) (t := 50) (t2 := 50) (i := J) (n := M.length) (m := 1) (cs := tcs M) (news := c.tal) sl50 ze47 bt47 (by rfl) (by omega) ni50 sr (one_tal c) (by rfl) (by omega) (kp.get hg) (tcs_len M)
    rw [IHeap.size_push'] at k2 z2 f2
    refine ⟨_, h2, k, ap, .inr ⟨by rw [List.length_append]; rfl, ?_⟩, by omega, fun i hi => ?_, by omega⟩
    · rw [r2, tcs_app]
      simp [tcs]
    · rw [k2 i (by omega) (by omega)]
      exact kp.eq i (by omega)
attribute [-simp] ze80 ze47 ze45
attribute [local simp] ze80' ze47' zz80 zz47 fl80' fl47'
def TopQ (L : List CN) (h : IHeap) (v : Value) (h' : IHeap) : Prop := ∃ A c M J, v = .slice A M.length c ∧ M.Perm L ∧ (M ≠ [] → A = some ⟨J, 0, none⟩ ∧ h'.get J = some (.row false 38 (tcs M))) ∧ Keep h h'
theorem top_c {h : IHeap} {T k turns total : Nat} {sl : Value} {L : List CN} (hT : h.get T = some (.row false 0 (tkr k sl turns total))) (x : SlC h sl L) (hk : 1 ≤ k) (hL : L.length ≤ 12) :
    FN Try.prog 15 #[.pointer (some ⟨T, 0, none⟩), .int .i64 100] h (Q := ⟨fun v h' => TopQ L h v h'⟩) := by
  obtain ⟨A, cc, rfl⟩ := x.form
  have nc := none_c hT hk
  have hT0 := hT
  rw [tkr] at hT
  refine FN.enter mixed (fn := Try.f15) (by kernel_rfl) rfl (by kernel_rfl) fun e hn hg hd => ?_
  simp [Try.f15] at hn
  have a0 : e.get 0 = .pointer (some ⟨T, 0, none⟩) := hg 0 (by omega)
  have a1 : e.get 1 = .int .i64 100 := hg 1 (by omega)
  clear hg
  simp (maxSteps := 1000000) (disch := first | (simp; done) | (simp only [IHeap.size_push', IHeap.size_set']; omega) | omega) [a0, a1, hn, hd]
  refine FN.of nc ?_
  simp (maxSteps := 1000000) (disch := first | (simp; done) | (simp only [IHeap.size_push', IHeap.size_set']; omega) | omega) [a0, a1, hn, hd, hT, undef]
  refine WPL.by_inv mixed (by kernel_rfl) (fun k' e h' => ∃ (j J : Nat) (v : Value), j + k' = L.length ∧ e.n = 36 ∧ e.dfr = [] ∧ e.get 1 = .int .i64 100 ∧ e.get 4 = v ∧ e.get 16 = .slice A L.length cc ∧ e.get 17 = .int .i64 L.length ∧ e.get 18 = .int .i64 j ∧ h.size ≤ J ∧ TS J h' v (L.take j) ∧ Keep h h') L.length ?_ ?_
  · refine ⟨0, h.size, .slice none 0 0, ?_⟩
    simp (maxSteps := 1000000) (disch := first | (simp; done) | (simp only [IHeap.size_push', IHeap.size_set']; omega) | omega) [a0, a1, hn, hd]
    exact ⟨.inl ⟨rfl, rfl⟩, Keep.refl h⟩
  clear hn hd a0 a1 e
  rintro k' e h1 ⟨j, J, v, hj, hn, hd, a1, a4, a16, a17, a18, hJ, ts, kp⟩
  have z1 := kp.le
  cases k' with
  | zero =>
    obtain rfl : j = L.length := by omega
    rw [List.take_length] at ts
    obtain ⟨A2, rfl, hA2⟩ := ts.form
    have sc := sort_c ts hL
    rw [ordF] at sc
    simp (maxSteps := 1000000) (disch := first | (simp; done) | (simp only [IHeap.size_push', IHeap.size_set']; omega) | omega) [a1, a4, a16, a17, a18, hn, hd]
    refine FN.mono sc ?_
    rintro w h2 ⟨M, pM, ts2, kr2⟩
    have c100 : (L.length : Int) < 100 := by omega
    have c100n : L.length < 100 := by omega
    obtain ⟨kd, ct⟩ : ∃ kd, cutN Try.prog h2 50 (.slice A2 L.length L.length) none (some (.int .i64 L.length)) = some (.slice A2 L.length L.length, kd) := by
      rcases ts2 with ⟨e, rfl⟩ | ⟨e, hg⟩
      · simp only [Value.slice.injEq] at e
        obtain ⟨rfl, e1, _⟩ := e
        rw [e1]
        exact ⟨_, rfl⟩
      · simp only [Value.slice.injEq] at e
        obtain ⟨rfl, e1, _⟩ := e
        have isl := islice_eq (P := Try.prog) (q := 0) (l := 0) (n := L.length) (lo := none) (hi := some (.int .i64 L.length)) sl50 hg (.inr rfl) (bounds_hi (k := .i64) (c := L.length) (Nat.le_refl _))
        simp only [Nat.zero_mul, Nat.add_zero, Nat.sub_zero] at isl
        exact ⟨.read J, by simp only [cutN, cutV, isl, Option.map_some, kindOf]⟩
    simp (maxSteps := 1000000) (disch := first | (simp; done) | (simp only [IHeap.size_push', IHeap.size_set']; omega) | omega) [a1, a4, a16, a17, a18, hn, hd, c100, c100n, ct]
    have ml := pM.length_eq
    refine ⟨A2, L.length, M, J, by rw [ml], pM, fun hne => ?_, ?_⟩
    · rcases ts2 with ⟨_, e⟩ | ⟨e, hg⟩
      · exact absurd e hne
      · simp only [Value.slice.injEq] at e
        exact ⟨e.1, hg⟩
    · exact ⟨by have := kr2.le; omega, fun i hi => by rw [kr2.eq i (by omega) (by omega)]; exact kp.eq i hi⟩
  | succ k' =>
    have j2 : j < L.length := by omega
    have j1 : (j : Int) < L.length := by omega
    obtain ⟨r, rfl, _, hr⟩ := (x.keep kp).at.2 j j2
    have sj := fm_at cn_len L j j2
    change slots (ccs L) (j * 39) 39 = _ at sj
    have q1 := kp.push' (.row false 0 L[j].cells)
    obtain ⟨v', h2, J', ap, ts2, hJ2, f2, z2⟩ := app_tal (lo := h.size) (c := L[j]) (show TS J (h1.push (.row false 0 L[j].cells)) v (L.take j) from ts.imp id fun ⟨e1, e2⟩ => ⟨e1, (Keep.push _ _).get e2⟩) hJ (by rw [IHeap.size_push']; omega) (by rw [List.length_take]; omega)
    rw [IHeap.size_push'] at ap z2
    simp (maxSteps := 1000000) (disch := first | (simp; done) | (simp only [IHeap.size_push', IHeap.size_set']; omega) | omega) [-buildOf, -Instr.fill, a1, a4, a16, a17, a18, hn, hd, j1, j2, hr, sj, one_cn, one_tal, cn_tal, cn_len, cn_set, tal_len, ap]
    refine ⟨k', by omega, j + 1, by omega, by omega, J', hJ2, ?_, by omega, fun i hi => ?_⟩
    · rw [List.take_succ_eq_append_getElem j2]
      exact ts2
    · rw [f2 i hi]
      exact q1.eq i hi
end Go.Proofs.Ytnmbpehficchkaa.Ideal
