import Derived.Test.YteokdllmandleaaP34j
noncomputable section
open Go.Proofs
namespace Go.Proofs.Yteokdllmandleaa.Ideal
open Go.RowKit
set_option linter.unusedSimpArgs false
set_option linter.unusedVariables false
set_option linter.unusedSectionVars false
set_option maxRecDepth 100000
set_option maxHeartbeats 4000000
attribute [-simp] IHeap.size_set IHeap.size_push
attribute [local simp ↓] Hid.ap_mk
attribute [local simp] scopeQ_normal scopeQ_ret scopeQ_exit WP_skip WP_label WP_exit WP_goto WP_ret WP_region WP_seq WP_cond WP_block WP_scope WP_loop WP_range thenQ_normal thenQ_ret thenQ_exit thenQ_goto loopQ_normal loopQ_ret loopQ_exit invQ_normal invQ_ret invQ_exit outOf_normal outOf_ret outOf_goto outOf_exit ev_tmp ev_const ev_func
  wops_nil wops_cons wantedE_none wantedE_some jgd_some wnx_eq niC_false wdo_move wdo_assign wdo_pick wdo_load wdo_store wdo_alloc wdo_box wdo_fieldAddr wdo_indexAddr wdo_field wdo_extract wdo_build wdo_buildSlice wdo_makeSlice wdo_binOp wdo_unOp wdo_makeFunc wdo_nilCheck wdo_callV wdo_len wdo_append wdo_copy wdo_delete wdo_max wdo_min wdo_convert jcvt_int
  xput_get put_n put_none put_dfr ibin finQ_n finQ_r finD_nil splice_one ires_nil ires_one ires_two ires_three ires1_tmp ires1_cell jcell_ptr rowLoad_row wrap64 wrapU64 wrapU8 wrapU16 wrapU32 callV_fn buildOf Instr.fill Value.cells Value.oneCell' kindOf slots_all splice_all IHeap.size_set' IHeap.size_push' IHeap.get_set_same IHeap.get_set_ne IHeap.get_pushed IHeap.get_push_ne IHeap.set_set IHeap.set_push IHeap.set_pushed IHeap.set_set3 getU_nil getU_same getU_ne jif_true jif_false pushH_eq setH_eq forceL_eq forceV_eq ibuildSlice
attribute [local simp high] wdo_str33
attribute [local simp] wdo_index jopt_some wdo_cut33 wdo_all23 wdo_all24 arrAll wdo_toArr fb_known
attribute [-simp] Value.oneCell'
attribute [local simp] one_int' one_slc'
attribute [-simp] ze26
attribute [local simp] ze26'
theorem pred_c {h : IHeap} {p : Nat} (a : AR) (g : h.get p = some (.row false 0 a.row)) : ICall Try.prog 18 #[.agg (bys a.ip).toArray, .pointer (some ⟨p, 0, none⟩)] h (.bool (!decide (a.ip = a.fip))) (h.push (.row false 0 (bys a.ip))) := by
  refine ICall.of_FN ?_
  refine FN.enter mixed (fn := Try.f18) (by kernel_rfl) rfl (by kernel_rfl) fun e hn hg hd => ?_
  simp [Try.f18] at hn
  have a0 : e.get 0 = .agg (bys a.ip).toArray := hg 0 (by omega)
  have a1 : e.get 1 = .pointer (some ⟨p, 0, none⟩) := hg 1 (by omega)
  clear hg
  have pz := IHeap.get_lt g
  have bl := bys_len a.ip
  rw [a.l4] at bl
  have sl : slots (bys a.ip) 0 4 = some (bys a.ip) := slots_full _ (by rw [bl])
  have e1 := eq24 a.l4 a.l4
  have e2 := eq24 a.l4 a.l3
  simp (maxSteps := 1000000) (disch := first | (simp; done) | (simp only [IHeap.size_push', IHeap.size_set']; omega) | omega) [a0, a1, hn, hd, bys_all, sl, g, a.sip, a.sfip, e1, e2, undef]
theorem index_c {h : IHeap} {r p : Nat} (a : AR) (g : h.get p = some (.row false 0 a.row)) (gr : h.get r = some (.row false 4 (bys a.ip))) : ICall Try.prog 27 #[.slice (some ⟨r, 0, none⟩) 1 1, .func (.func 18) #[] #[.pointer (some ⟨p, 0, none⟩)]] h (.int .i64 (if a.ip = a.fip then -1 else 0)) (h.push (.row false 0 (bys a.ip))) := by
  refine ICall.of_FN ?_
  refine FN.enter mixed (fn := Try.f27) (by kernel_rfl) rfl (by kernel_rfl) fun e hn hg hd => ?_
  simp [Try.f27] at hn
  have a0 : e.get 0 = .slice (some ⟨r, 0, none⟩) 1 1 := hg 0 (by omega)
  have a1 : e.get 1 = .func (.func 18) #[] #[.pointer (some ⟨p, 0, none⟩)] := hg 1 (by omega)
  clear hg
  have bl := bys_len a.ip
  rw [a.l4] at bl
  have sl : slots (bys a.ip) 0 4 = some (bys a.ip) := slots_full _ (by rw [bl])
  simp (maxSteps := 1000000) (disch := first | (simp; done) | (simp only [IHeap.size_push', IHeap.size_set']; omega) | omega) [a0, a1, hn, hd]
  refine WPL.unroll mixed (by kernel_rfl) ?_
  simp (maxSteps := 1000000) (disch := first | (simp; done) | (simp only [IHeap.size_push', IHeap.size_set']; omega) | omega) [a0, a1, hn, hd, gr, sl]
  refine FN.of (pred_c a g) ?_
  by_cases c : a.ip = a.fip
  · have ed : decide (a.ip = a.fip) = true := by simp [c]
    rw [if_pos c, ed]
    simp (maxSteps := 1000000) (disch := first | (simp; done) | (simp only [IHeap.size_push', IHeap.size_set']; omega) | omega) [a0, a1, hn, hd, wrap64]
    refine WPL.unroll mixed (by kernel_rfl) ?_
    simp (maxSteps := 1000000) (disch := first | (simp; done) | (simp only [IHeap.size_push', IHeap.size_set']; omega) | omega) [a0, a1, hn, hd]
  · have ed : decide (a.ip = a.fip) = false := by simp [c]
    rw [if_neg c, ed]
    simp (maxSteps := 1000000) (disch := first | (simp; done) | (simp only [IHeap.size_push', IHeap.size_set']; omega) | omega) [a0, a1, hn, hd]
theorem contains_c {h : IHeap} {r p : Nat} (a : AR) (g : h.get p = some (.row false 0 a.row)) (gr : h.get r = some (.row false 4 (bys a.ip))) : ICall Try.prog 17 #[.slice (some ⟨r, 0, none⟩) 1 1, .func (.func 18) #[] #[.pointer (some ⟨p, 0, none⟩)]] h (.bool (!decide (a.ip = a.fip))) (h.push (.row false 0 (bys a.ip))) := by
  refine ICall.of_FN ?_
  refine FN.enter mixed (fn := Try.f17) (by kernel_rfl) rfl (by kernel_rfl) fun e hn hg hd => ?_
  simp [Try.f17] at hn
  have a0 : e.get 0 = .slice (some ⟨r, 0, none⟩) 1 1 := hg 0 (by omega)
  have a1 : e.get 1 = .func (.func 18) #[] #[.pointer (some ⟨p, 0, none⟩)] := hg 1 (by omega)
  clear hg
  simp (maxSteps := 1000000) (disch := first | (simp; done) | (simp only [IHeap.size_push', IHeap.size_set']; omega) | omega) [a0, a1, hn, hd]
  refine FN.of (index_c a g gr) ?_
  by_cases c : a.ip = a.fip
  · have ed : decide (a.ip = a.fip) = true := by simp [c]
    rw [if_pos c, ed]
    simp (maxSteps := 1000000) (disch := first | (simp; done) | (simp only [IHeap.size_push', IHeap.size_set']; omega) | omega) [a0, a1, hn, hd]
  · have ed : decide (a.ip = a.fip) = false := by simp [c]
    rw [if_neg c, ed]
    simp (maxSteps := 1000000) (disch := first | (simp; done) | (simp only [IHeap.size_push', IHeap.size_set']; omega) | omega) [a0, a1, hn, hd]
/-- The reply. -/
def repl (a : AR) (own : List Nat) (ho : own.length = 6) : AR := ⟨2, own, a.fr, a.ip, a.fip, ho, a.l1, a.l4, a.l3⟩
def ansB (a : AR) : Bool := decide (a.op = 1) && !decide (a.ip = a.fip)
def ansR (a : AR) (own : List Nat) (ho : own.length = 6) : AR := if ansB a = true then repl a own ho else zAR
theorem answer_c {h : IHeap} {r : Nat} (a : AR) {own : List Nat} (ho : own.length = 6) (gr : h.get r = some (.row false 4 (bys a.ip))) :
    FN Try.prog 7 #[a.val, .agg (bys own).toArray, .slice (some ⟨r, 0, none⟩) 1 1] h (Q := ⟨fun v h' => v = .tuple #[(ansR a own ho).val, .bool (ansB a)] ∧ h.size ≤ h'.size ∧ ∀ i, i < h.size → h'.get i = h.get i⟩) := by
  refine FN.enter mixed (fn := Try.f7) (by kernel_rfl) rfl (by kernel_rfl) fun e hn hg hd => ?_
  simp [Try.f7] at hn
  have a0 : e.get 0 = a.val := hg 0 (by omega)
  have a1 : e.get 1 = .agg (bys own).toArray := hg 1 (by omega)
  have a2 : e.get 2 = .slice (some ⟨r, 0, none⟩) 1 1 := hg 2 (by omega)
  clear hg
  have rz := IHeap.get_lt gr
  have g0 := a.get0
  have g0' : ∀ hh, a.row[0]'hh = .int .u16 (a.op : Nat) := fun _ => rfl
  have rl := a.row_len
  have zs := zAR.s21
  have zl := zAR.row_len
  have zo := zAR.row_one
  have spz : splice zAR.row 0 zAR.row = zAR.row := splice_all rfl
  have bo := bys_len own
  rw [ho] at bo
  obtain ⟨H, hH⟩ : ∃ H, ((h.push (.row false 0 a.row)).push (.row false 0 (bys own))).push (.row false 0 zAR.row) = H := ⟨_, rfl⟩
  have Hz : H.size = h.size + 3 := by rw [← hH]; simp only [IHeap.size_push']
  have H0 : H.get h.size = some (.row false 0 a.row) := by rw [← hH]; simp (maxSteps := 1000000) (disch := first | (simp; done) | (simp only [IHeap.size_push', IHeap.size_set']; omega) | omega) []
  have H1 : H.get (h.size + 1) = some (.row false 0 (bys own)) := by rw [← hH]; simp (maxSteps := 1000000) (disch := first | (simp; done) | (simp only [IHeap.size_push', IHeap.size_set']; omega) | omega) []
  have H2 : H.get (h.size + 1 + 1) = some (.row false 0 zAR.row) := by rw [← hH]; simp (maxSteps := 1000000) (disch := first | (simp; done) | (simp only [IHeap.size_push', IHeap.size_set']; omega) | omega) []
  have Hr : H.get r = some (.row false 4 (bys a.ip)) := by rw [← hH]; simp (maxSteps := 1000000) (disch := first | (simp; done) | (simp only [IHeap.size_push', IHeap.size_set']; omega) | omega) [gr]
  have Ho : ∀ i, i < h.size → H.get i = h.get i := fun i hi => by rw [← hH]; simp (maxSteps := 1000000) (disch := first | (simp; done) | (simp only [IHeap.size_push', IHeap.size_set']; omega) | omega) []
  simp (maxSteps := 1000000) (disch := first | (simp; done) | (simp only [IHeap.size_push', IHeap.size_set']; omega) | omega) [a0, a1, a2, hn, hd, AR.val, a.row_one, bys_all, hH]
  refine FN.of (contains_c a H0 Hr) ?_
  obtain ⟨K, hK⟩ : ∃ K, H.push (.row false 0 (bys a.ip)) = K := ⟨_, rfl⟩
  have Kz : K.size = h.size + 4 := by rw [← hK, IHeap.size_push']; omega
  have oK : ∀ i, i < H.size → K.get i = H.get i := fun i hi => by rw [← hK]; exact IHeap.get_push_ne _ (by omega)
  have K0 : K.get h.size = some (.row false 0 a.row) := by rw [oK _ (by omega)]; exact H0
  have K1 : K.get (h.size + 1) = some (.row false 0 (bys own)) := by rw [oK _ (by omega)]; exact H1
  have K2 : K.get (h.size + 1 + 1) = some (.row false 0 zAR.row) := by rw [oK _ (by omega)]; exact H2
  rw [hK]
  have so : slots (bys own) 0 6 = some (bys own) := slots_full _ (by rw [bo])
  have fin : ∀ i, i < h.size → K.get i = h.get i := fun i hi => by rw [oK i (by omega), Ho i hi]
  by_cases c1 : a.op = 1
  · have c1' : ((a.op : Int) = 1) = True := eq_true (by omega)
    by_cases c2 : a.ip = a.fip
    · have ed : decide (a.ip = a.fip) = true := by simp [c2]
      have hb : ansB a = false := by simp [ansB, c2]
      have hr : ansR a own ho = zAR := by simp [ansR, hb]
      rw [hr, hb, ed]
      simp (maxSteps := 1000000) (disch := first | (simp; done) | (simp only [IHeap.size_push', IHeap.size_set']; omega) | omega) [-buildOf, -Instr.fill, bld26z, a0, a1, a2, hn, hd, K0, K2, g0, g0', rl, c1', undef, zl, zo, zs, spz]
      exact ⟨by omega, fun i hi => by rw [IHeap.get_set_ne _ (by omega)]; exact fin i hi⟩
    · have ed : decide (a.ip = a.fip) = false := by simp [c2]
      have hb : ansB a = true := by simp [ansB, c2, c1]
      have hr : ansR a own ho = repl a own ho := by simp [ansR, hb]
      rw [hr, hb, ed]
      have bl := bld26 2 ho a.l1 a.l4 a.l3
      rw [show (⟨2, own, a.fr, a.ip, a.fip, ho, a.l1, a.l4, a.l3⟩ : AR) = repl a own ho from rfl, AR.val] at bl
      have pl := (repl a own ho).row_len
      have po := (repl a own ho).row_one
      have ps := (repl a own ho).s21
      have spp : splice zAR.row 0 (repl a own ho).row = (repl a own ho).row := splice_all (by rw [zl, pl])
      rw [show (((2 : Nat) : Int)) = 2 from rfl] at bl
      simp (maxSteps := 1000000) (disch := first | (simp; done) | (simp only [IHeap.size_push', IHeap.size_set']; omega) | omega) [-buildOf, -Instr.fill, bl, a0, a1, a2, hn, hd, K0, K1, K2, g0, g0', rl, c1', undef, zl, pl, po, ps, spp, so, a.sip, a.sfr, a.sfip]
      exact ⟨by omega, fun i hi => by rw [IHeap.get_set_ne _ (by omega)]; exact fin i hi⟩
  · have c1' : ¬ (a.op : Int) = 1 := by omega
    have hb : ansB a = false := by simp [ansB, c1]
    have hr : ansR a own ho = zAR := by simp [ansR, hb]
    rw [hr, hb]
    simp (maxSteps := 1000000) (disch := first | (simp; done) | (simp only [IHeap.size_push', IHeap.size_set']; omega) | omega) [-buildOf, -Instr.fill, bld26z, a0, a1, a2, hn, hd, K0, K2, g0, g0', rl, c1', undef, zl, zo, zs, spz]
    exact ⟨by omega, fun i hi => by rw [IHeap.get_set_ne _ (by omega)]; exact fin i hi⟩
end Go.Proofs.Yteokdllmandleaa.Ideal
