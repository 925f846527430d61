import Derived.Test.YtnmbpehficchkaaP44w
noncomputable section
open Go.Proofs
namespace Go.Proofs.Ytnmbpehficchkaa.Ideal
open Go.RowKit
set_option linter.unusedSimpArgs false
set_option linter.unusedVariables false
set_option linter.unusedSectionVars false
set_option maxRecDepth 100000
set_option maxHeartbeats 4000000
attribute [-simp] IHeap.size_set IHeap.size_push
attribute [local simp ↓] Hid.ap_mk
attribute [local simp] scopeQ_normal scopeQ_ret scopeQ_exit WP_skip WP_label WP_exit WP_goto WP_ret WP_region WP_seq WP_cond WP_block WP_scope WP_loop WP_range thenQ_normal thenQ_ret thenQ_exit thenQ_goto loopQ_normal loopQ_ret loopQ_exit invQ_normal invQ_ret invQ_exit outOf_normal outOf_ret outOf_goto outOf_exit ev_tmp ev_const ev_func
  wops_nil wops_cons wantedE_none wantedE_some jgd_some wnx_eq niC_false wdo_move wdo_assign wdo_pick wdo_load wdo_store wdo_alloc wdo_box wdo_fieldAddr wdo_indexAddr wdo_field wdo_extract wdo_build wdo_buildSlice wdo_makeSlice wdo_binOp wdo_unOp wdo_makeFunc wdo_nilCheck wdo_callV wdo_len wdo_append wdo_copy wdo_delete wdo_max wdo_min wdo_convert jcvt_int
  xput_get put_n put_none put_dfr ibin finQ_n finQ_r finD_nil splice_one ires_nil ires_one ires_two ires_three ires1_tmp ires1_cell jcell_ptr rowLoad_row wrap64 wrapU64 wrapU8 wrapU16 wrapU32 callV_fn buildOf Instr.fill Value.cells Value.oneCell' kindOf slots_all splice_all IHeap.size_set' IHeap.size_push' IHeap.get_set_same IHeap.get_set_ne IHeap.get_pushed IHeap.get_push_ne IHeap.set_set IHeap.set_push IHeap.set_pushed IHeap.set_set3 getU_nil getU_same getU_ne jif_true jif_false pushH_eq setH_eq forceL_eq forceV_eq ibuildSlice
theorem wdo_all43 {draw : Bool} {all : Array Oper} {os : List Oper} {e : XEnv} {h : IHeap} (d : Option Tmp) (ty : TypeId) (p : String) (af : Array Edge) (g : Option (Nat × Bool)) [Q : Hid (XEnv → IHeap → Prop)] [E : Hid (List Ent)] (x : Operand) :
    wdo Try.prog draw all ⟨d, .slice 43 x none none none, ty, p, af, g⟩ os e h = jopt (arrAll Try.prog 43 (e.ev x)) (R := ⟨jgen Try.prog e ⟨d, .slice 43 x none none none, ty, p, af, g⟩ h (K := ⟨fun v h' k => wnx Try.prog draw all os e d h v h' k⟩)⟩) (K := ⟨fun v k => wnx Try.prog draw all os e d h v h k⟩) := wdo_arrAll d ty p af g 43 x
attribute [local simp high] wdo_all43
attribute [local simp] wdo_index jopt_some arrAll
attribute [-simp] Value.oneCell'
attribute [local simp] one_int' one_slc'
attribute [-simp] ze80 ze47 ze45
theorem nani_c {h : IHeap} {a : Nat} : ICall Try.prog 70 #[.int .i64 a] h (.bool false) h := by
  refine ICall.of_FN ?_
  refine FN.enter mixed (fn := Try.f70) (by kernel_rfl) rfl (by kernel_rfl) fun e hn hg hd => ?_
  simp [Try.f70] at hn
  have a0 : e.get 0 = .int .i64 a := hg 0 (by omega)
  clear hg
  simp (maxSteps := 1000000) (disch := first | (simp; done) | (simp only [IHeap.size_push', IHeap.size_set']; omega) | omega) [a0, hn, hd]
theorem cmpi_c {h : IHeap} {a b : Nat} : ICall Try.prog 53 #[.int .i64 a, .int .i64 b] h (.int .i64 (cmpI a b)) h := by
  refine ICall.of_FN ?_
  refine FN.enter mixed (fn := Try.f53) (by kernel_rfl) rfl (by kernel_rfl) fun e hn hg hd => ?_
  simp [Try.f53] at hn
  have a0 : e.get 0 = .int .i64 a := hg 0 (by omega)
  have a1 : e.get 1 = .int .i64 b := hg 1 (by omega)
  clear hg
  simp (maxSteps := 1000000) (disch := first | (simp; done) | (simp only [IHeap.size_push', IHeap.size_set']; omega) | omega) [a0, a1, hn, hd]
  refine FN.of nani_c ?_
  simp (maxSteps := 1000000) (disch := first | (simp; done) | (simp only [IHeap.size_push', IHeap.size_set']; omega) | omega) [a0, a1, hn, hd]
  refine FN.of nani_c ?_
  by_cases c1 : a < b
  · have e : cmpI a b = -1 := by unfold cmpI; rw [if_pos c1]
    have c1' : (a : Int) < b := by omega
    simp (maxSteps := 1000000) (disch := first | (simp; done) | (simp only [IHeap.size_push', IHeap.size_set']; omega) | omega) [a0, a1, hn, hd, c1, c1', e]
  · have c1' : ¬ (a : Int) < b := by omega
    by_cases c2 : b < a
    · have e : cmpI a b = 1 := by unfold cmpI; rw [if_neg c1, if_pos c2]
      have c2' : (b : Int) < a := by omega
      simp (maxSteps := 1000000) (disch := first | (simp; done) | (simp only [IHeap.size_push', IHeap.size_set']; omega) | omega) [a0, a1, hn, hd, c1, c1', c2, c2', e]
    · have e : cmpI a b = 0 := by unfold cmpI; rw [if_neg c1, if_neg c2]
      have c2' : ¬ (b : Int) < a := by omega
      simp (maxSteps := 1000000) (disch := first | (simp; done) | (simp only [IHeap.size_push', IHeap.size_set']; omega) | omega) [a0, a1, hn, hd, c1, c1', c2, c2', e]
theorem nan8_c {h : IHeap} {a : Nat} : ICall Try.prog 71 #[.int .u8 a] h (.bool false) h := by
  refine ICall.of_FN ?_
  refine FN.enter mixed (fn := Try.f71) (by kernel_rfl) rfl (by kernel_rfl) fun e hn hg hd => ?_
  simp [Try.f71] at hn
  have a0 : e.get 0 = .int .u8 a := hg 0 (by omega)
  clear hg
  simp (maxSteps := 1000000) (disch := first | (simp; done) | (simp only [IHeap.size_push', IHeap.size_set']; omega) | omega) [a0, hn, hd]
theorem cmp8_c {h : IHeap} {a b : Nat} : ICall Try.prog 55 #[.int .u8 a, .int .u8 b] h (.int .i64 (cmpI a b)) h := by
  refine ICall.of_FN ?_
  refine FN.enter mixed (fn := Try.f55) (by kernel_rfl) rfl (by kernel_rfl) fun e hn hg hd => ?_
  simp [Try.f55] at hn
  have a0 : e.get 0 = .int .u8 a := hg 0 (by omega)
  have a1 : e.get 1 = .int .u8 b := hg 1 (by omega)
  clear hg
  simp (maxSteps := 1000000) (disch := first | (simp; done) | (simp only [IHeap.size_push', IHeap.size_set']; omega) | omega) [a0, a1, hn, hd]
  refine FN.of nan8_c ?_
  simp (maxSteps := 1000000) (disch := first | (simp; done) | (simp only [IHeap.size_push', IHeap.size_set']; omega) | omega) [a0, a1, hn, hd]
  refine FN.of nan8_c ?_
  by_cases c1 : a < b
  · have e : cmpI a b = -1 := by unfold cmpI; rw [if_pos c1]
    have c1' : (a : Int) < b := by omega
    simp (maxSteps := 1000000) (disch := first | (simp; done) | (simp only [IHeap.size_push', IHeap.size_set']; omega) | omega) [a0, a1, hn, hd, c1, c1', e]
  · have c1' : ¬ (a : Int) < b := by omega
    by_cases c2 : b < a
    · have e : cmpI a b = 1 := by unfold cmpI; rw [if_neg c1, if_pos c2]
      have c2' : (b : Int) < a := by omega
      simp (maxSteps := 1000000) (disch := first | (simp; done) | (simp only [IHeap.size_push', IHeap.size_set']; omega) | omega) [a0, a1, hn, hd, c1, c1', c2, c2', e]
    · have e : cmpI a b = 0 := by unfold cmpI; rw [if_neg c1, if_neg c2]
      have c2' : ¬ (b : Int) < a := by omega
      simp (maxSteps := 1000000) (disch := first | (simp; done) | (simp only [IHeap.size_push', IHeap.size_set']; omega) | omega) [a0, a1, hn, hd, c1, c1', c2, c2', e]
theorem nan16_c {h : IHeap} {a : Nat} : ICall Try.prog 73 #[.int .u16 a] h (.bool false) h := by
  refine ICall.of_FN ?_
  refine FN.enter mixed (fn := Try.f73) (by kernel_rfl) rfl (by kernel_rfl) fun e hn hg hd => ?_
  simp [Try.f73] at hn
  have a0 : e.get 0 = .int .u16 a := hg 0 (by omega)
  clear hg
  simp (maxSteps := 1000000) (disch := first | (simp; done) | (simp only [IHeap.size_push', IHeap.size_set']; omega) | omega) [a0, hn, hd]
theorem cmp16_c {h : IHeap} {a b : Nat} : ICall Try.prog 57 #[.int .u16 a, .int .u16 b] h (.int .i64 (cmpI a b)) h := by
  refine ICall.of_FN ?_
  refine FN.enter mixed (fn := Try.f57) (by kernel_rfl) rfl (by kernel_rfl) fun e hn hg hd => ?_
  simp [Try.f57] at hn
  have a0 : e.get 0 = .int .u16 a := hg 0 (by omega)
  have a1 : e.get 1 = .int .u16 b := hg 1 (by omega)
  clear hg
  simp (maxSteps := 1000000) (disch := first | (simp; done) | (simp only [IHeap.size_push', IHeap.size_set']; omega) | omega) [a0, a1, hn, hd]
  refine FN.of nan16_c ?_
  simp (maxSteps := 1000000) (disch := first | (simp; done) | (simp only [IHeap.size_push', IHeap.size_set']; omega) | omega) [a0, a1, hn, hd]
  refine FN.of nan16_c ?_
  by_cases c1 : a < b
  · have e : cmpI a b = -1 := by unfold cmpI; rw [if_pos c1]
    have c1' : (a : Int) < b := by omega
    simp (maxSteps := 1000000) (disch := first | (simp; done) | (simp only [IHeap.size_push', IHeap.size_set']; omega) | omega) [a0, a1, hn, hd, c1, c1', e]
  · have c1' : ¬ (a : Int) < b := by omega
    by_cases c2 : b < a
    · have e : cmpI a b = 1 := by unfold cmpI; rw [if_neg c1, if_pos c2]
      have c2' : (b : Int) < a := by omega
      simp (maxSteps := 1000000) (disch := first | (simp; done) | (simp only [IHeap.size_push', IHeap.size_set']; omega) | omega) [a0, a1, hn, hd, c1, c1', c2, c2', e]
    · have e : cmpI a b = 0 := by unfold cmpI; rw [if_neg c1, if_neg c2]
      have c2' : ¬ (b : Int) < a := by omega
      simp (maxSteps := 1000000) (disch := first | (simp; done) | (simp only [IHeap.size_push', IHeap.size_set']; omega) | omega) [a0, a1, hn, hd, c1, c1', c2, c2', e]
theorem flag_c {h : IHeap} : ICall Try.prog 54 #[.bool false] h (.int .i64 0) h := by
  refine ICall.of_FN ?_
  refine FN.enter mixed (fn := Try.f54) (by kernel_rfl) rfl (by kernel_rfl) fun e hn hg hd => ?_
  simp [Try.f54] at hn
  have a0 : e.get 0 = .bool false := hg 0 (by omega)
  clear hg
  simp (maxSteps := 1000000) (disch := first | (simp; done) | (simp only [IHeap.size_push', IHeap.size_set']; omega) | omega) [a0, hn, hd]
theorem first_c {h : IHeap} {p c : Nat} {l : List Int} (hp : h.get p = some (.row false 1 (i64s l))) (hl : l.length ≤ 100) : ICall Try.prog 52 #[.slice (some ⟨p, 0, none⟩) l.length c] h (.int .i64 (orI l)) h := by
  refine ICall.of_FN ?_
  refine FN.enter mixed (fn := Try.f52) (by kernel_rfl) rfl (by kernel_rfl) fun e hn hg hd => ?_
  simp [Try.f52] at hn
  have a0 : e.get 0 = .slice (some ⟨p, 0, none⟩) l.length c := hg 0 (by omega)
  clear hg
  simp (maxSteps := 1000000) (disch := first | (simp; done) | (simp only [IHeap.size_push', IHeap.size_set']; omega) | omega) [a0, hn, hd]
  refine FN.of (or_c hp hl) ?_
  simp (maxSteps := 1000000) (disch := first | (simp; done) | (simp only [IHeap.size_push', IHeap.size_set']; omega) | omega) [a0, hn, hd]
theorem ze45' : zeroOf Try.prog 45 = some (keyC 0).toArray := by kernel_rfl
attribute [local simp] ze45' ze47'
theorem kc0 (d : Nat) : (keyC d)[0]? = some (.bool false) := rfl
theorem kc1 (d : Nat) : (keyC d)[1]? = some (.int .u8 0) := rfl
theorem kc34 (d : Nat) : (keyC d)[34]? = some (.int .u16 0) := rfl
theorem kc35 (d : Nat) : (keyC d)[35]? = some (.int .u16 (d : Nat)) := rfl
theorem ks2 (d : Nat) : slots (keyC d) 2 16 = some z16 := rfl
theorem ks18 (d : Nat) : slots (keyC d) 18 16 = some z16 := rfl
theorem kset (d e : Nat) : splice (keyC d) 0 (keyC e) = keyC e := rfl
theorem order_c {h : IHeap} {a b : CN} : FN Try.prog 37 #[.agg a.tal.toArray, .agg b.tal.toArray] h (Q := ⟨fun v h' => ∃ n, v = .int .i64 n ∧ Keep h h'⟩) := by
  refine FN.enter mixed (fn := Try.f37) (by kernel_rfl) rfl (by kernel_rfl) fun e hn hg hd => ?_
  simp [Try.f37] at hn
  have a0 : e.get 0 = .agg a.tal.toArray := hg 0 (by omega)
  have a1 : e.get 1 = .agg b.tal.toArray := hg 1 (by omega)
  clear hg
  have k1 := Keep.push h (.row false 0 a.tal)
  have k2 := k1.push' (.row false 0 b.tal)
  have k3 := k2.push' (.row false 0 (keyC a.d))
  have k4 := k3.push' (.row false 0 (keyC b.d))
  have zi : zeros #[Value.int .i64 0] 8 = [.int .i64 0, .int .i64 0, .int .i64 0, .int .i64 0, .int .i64 0, .int .i64 0, .int .i64 0, .int .i64 0] := rfl
  have g2 : ((((h.push (.row false 0 a.tal)).push (.row false 0 b.tal)).push (.row false 0 (keyC a.d))).push (.row false 0 (keyC b.d))).get (h.size + 2) = some (.row false 0 (keyC a.d)) := (Keep.push _ _).get (IHeap.get_pushed _ (by simp only [IHeap.size_push']))
  have g3 : ((((h.push (.row false 0 a.tal)).push (.row false 0 b.tal)).push (.row false 0 (keyC a.d))).push (.row false 0 (keyC b.d))).get (h.size + 3) = some (.row false 0 (keyC b.d)) := IHeap.get_pushed _ (by simp only [IHeap.size_push'])
  simp (maxSteps := 1000000) (disch := first | (simp; done) | (simp only [IHeap.size_push', IHeap.size_set']; omega) | omega) [a0, a1, hn, hd, one_tal, one_key, tal_len, keyC_len, tal_key, kset, tal36, tal37, kc0, kc1, kc34, kc35, zi]
  have bt : ∀ o1 o2, ((((h.push (.row false 0 a.tal)).push (.row false 0 b.tal)).push o1).push o2).get (h.size + 1) = some (.row false 0 b.tal) := fun o1 o2 => (((Keep.push _ _).trans (Keep.push _ _))).get (IHeap.get_pushed _ (by rw [IHeap.size_push']))
  refine ⟨niC_pend [(3, 6)] (by kernel_rfl) ⟨(bt _ _).trans (bt _ _).symm, trivial⟩, ?_⟩
  refine FN.of cmp64_c ?_
  simp (maxSteps := 1000000) (disch := first | (simp; done) | (simp only [IHeap.size_push', IHeap.size_set']; omega) | omega) [a0, a1, hn, hd, one_tal, one_key, tal_len, keyC_len, tal_key, kset, tal36, tal37, kc0, kc1, kc34, kc35, zi]
  refine FN.of cmp64_c ?_
  simp (maxSteps := 1000000) (disch := first | (simp; done) | (simp only [IHeap.size_push', IHeap.size_set']; omega) | omega) [a0, a1, hn, hd, one_tal, one_key, tal_len, keyC_len, tal_key, kset, tal36, tal37, kc0, kc1, kc34, kc35, zi]
  refine FN.of flag_c ?_
  simp (maxSteps := 1000000) (disch := first | (simp; done) | (simp only [IHeap.size_push', IHeap.size_set']; omega) | omega) [a0, a1, hn, hd, one_tal, one_key, tal_len, keyC_len, tal_key, kset, tal36, tal37, kc0, kc1, kc34, kc35, zi]
  refine FN.of flag_c ?_
  simp (maxSteps := 1000000) (disch := first | (simp; done) | (simp only [IHeap.size_push', IHeap.size_set']; omega) | omega) [a0, a1, hn, hd, one_tal, one_key, tal_len, keyC_len, tal_key, kset, tal36, tal37, kc0, kc1, kc34, kc35, zi]
  refine FN.of (cmpi_c (a := 0) (b := 0)) ?_
  simp (maxSteps := 1000000) (disch := first | (simp; done) | (simp only [IHeap.size_push', IHeap.size_set']; omega) | omega) [a0, a1, hn, hd, one_tal, one_key, tal_len, keyC_len, tal_key, kset, tal36, tal37, kc0, kc1, kc34, kc35, zi]
  refine FN.of (cmp8_c (a := 0) (b := 0)) ?_
  simp (maxSteps := 1000000) (disch := first | (simp; done) | (simp only [IHeap.size_push', IHeap.size_set']; omega) | omega) [a0, a1, hn, hd, one_tal, one_key, tal_len, keyC_len, tal_key, kset, tal36, tal37, kc0, kc1, kc34, kc35, zi]
  refine FN.of (bcmp_c g2 (ks2 _) g3 (ks2 _)) ?_
  simp (maxSteps := 1000000) (disch := first | (simp; done) | (simp only [IHeap.size_push', IHeap.size_set']; omega) | omega) [a0, a1, hn, hd, one_tal, one_key, tal_len, keyC_len, tal_key, kset, tal36, tal37, kc0, kc1, kc34, kc35, zi]
  refine FN.of (bcmp_c g2 (ks18 _) g3 (ks18 _)) ?_
  simp (maxSteps := 1000000) (disch := first | (simp; done) | (simp only [IHeap.size_push', IHeap.size_set']; omega) | omega) [a0, a1, hn, hd, one_tal, one_key, tal_len, keyC_len, tal_key, kset, tal36, tal37, kc0, kc1, kc34, kc35, zi]
  refine FN.of (cmp16_c (a := 0) (b := 0)) ?_
  simp (maxSteps := 1000000) (disch := first | (simp; done) | (simp only [IHeap.size_push', IHeap.size_set']; omega) | omega) [a0, a1, hn, hd, one_tal, one_key, tal_len, keyC_len, tal_key, kset, tal36, tal37, kc0, kc1, kc34, kc35, zi]
  refine FN.of cmp16_c ?_
  simp (maxSteps := 1000000) (disch := first | (simp; done) | (simp only [IHeap.size_push', IHeap.size_set']; omega) | omega) [a0, a1, hn, hd, one_tal, one_key, tal_len, keyC_len, tal_key, kset, tal36, tal37, kc0, kc1, kc34, kc35, zi]
  refine FN.of (first_c (c := 8) (l := [cmpI b.count a.count, cmpI a.err b.err, cmpI 0 0, cmpI 0 0, 0, 0, cmpI 0 0, cmpI a.d b.d]) (IHeap.get_pushed _ (by simp only [IHeap.size_push'])) (by simp)) ?_
  simp (maxSteps := 1000000) (disch := first | (simp; done) | (simp only [IHeap.size_push', IHeap.size_set']; omega) | omega) [a0, a1, hn, hd]
  exact ⟨niC_pend [(4, 6), (4, 8), (4, 11), (9, 11), (4, 14), (9, 14), (12, 14), (4, 18), (9, 18), (12, 18), (15, 18), (16, 18), (4, 20), (9, 20), (12, 20), (15, 20), (16, 20), (4, 33), (9, 33), (12, 33), (15, 33), (16, 33), (21, 33), (26, 33), (31, 33), (4, 35), (9, 35), (12, 35), (15, 35), (16, 35), (21, 35), (26, 35), (31, 35), (4, 38), (9, 38), (12, 38), (15, 38), (16, 38), (21, 38), (26, 38), (31, 38), (36, 38), (4, 40), (9, 40), (12, 40), (15, 40), (16, 40), (21, 40), (26, 40), (31, 40), (36, 40)] (by kernel_rfl) ⟨rfl, rfl, rfl, rfl, rfl, rfl, rfl, rfl, rfl, rfl, rfl, rfl, rfl, rfl, rfl, rfl, rfl, rfl, rfl, rfl, rfl, rfl, rfl, rfl, rfl, rfl, rfl, rfl, rfl, rfl, rfl, rfl, rfl, rfl, rfl, rfl, rfl, rfl, rfl, rfl, rfl, rfl, rfl, rfl, rfl, rfl, rfl, rfl, rfl, rfl, rfl, trivial⟩, k4.push' _⟩
end Go.Proofs.Ytnmbpehficchkaa.Ideal
