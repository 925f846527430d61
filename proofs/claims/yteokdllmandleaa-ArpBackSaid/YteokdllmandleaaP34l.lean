import Derived.Test.YteokdllmandleaaP34k
noncomputable section
open Go.Proofs
namespace Go.Proofs.Yteokdllmandleaa.Ideal
open Go.RowKit
set_option linter.unusedSimpArgs false
set_option linter.unusedVariables false
set_option linter.unusedSectionVars false
set_option maxRecDepth 100000
set_option maxHeartbeats 4000000
attribute [-simp] IHeap.size_set IHeap.size_push
attribute [local simp ↓] Hid.ap_mk
attribute [local simp] scopeQ_normal scopeQ_ret scopeQ_exit WP_skip WP_label WP_exit WP_goto WP_ret WP_region WP_seq WP_cond WP_block WP_scope WP_loop WP_range thenQ_normal thenQ_ret thenQ_exit thenQ_goto loopQ_normal loopQ_ret loopQ_exit invQ_normal invQ_ret invQ_exit outOf_normal outOf_ret outOf_goto outOf_exit ev_tmp ev_const ev_func
  wops_nil wops_cons wantedE_none wantedE_some jgd_some wnx_eq niC_false wdo_move wdo_assign wdo_pick wdo_load wdo_store wdo_alloc wdo_box wdo_fieldAddr wdo_indexAddr wdo_field wdo_extract wdo_build wdo_buildSlice wdo_makeSlice wdo_binOp wdo_unOp wdo_makeFunc wdo_nilCheck wdo_callV wdo_len wdo_append wdo_copy wdo_delete wdo_max wdo_min wdo_convert jcvt_int
  xput_get put_n put_none put_dfr ibin finQ_n finQ_r finD_nil splice_one ires_nil ires_one ires_two ires_three ires1_tmp ires1_cell jcell_ptr rowLoad_row wrap64 wrapU64 wrapU8 wrapU16 wrapU32 callV_fn buildOf Instr.fill Value.cells Value.oneCell' kindOf slots_all splice_all IHeap.size_set' IHeap.size_push' IHeap.get_set_same IHeap.get_set_ne IHeap.get_pushed IHeap.get_push_ne IHeap.set_set IHeap.set_push IHeap.set_pushed IHeap.set_set3 getU_nil getU_same getU_ne jif_true jif_false pushH_eq setH_eq forceL_eq forceV_eq ibuildSlice
attribute [local simp high] wdo_str33
attribute [local simp] wdo_index jopt_some wdo_cut33 wdo_all23 wdo_all24 arrAll wdo_toArr fb_known
attribute [-simp] Value.oneCell'
attribute [local simp] one_int' one_slc'
attribute [-simp] ze26
attribute [local simp] ze26'
theorem clone33_c {h : IHeap} {p o n c : Nat} {ro : Bool} {z : Nat} {cs : List Value} {l : List Nat} (hn' : l.length = n) (hn1 : n ≤ 1000) (g : h.get p = some (.row ro z cs)) (hs : slots cs o n = some (bys l)) :
    FN Try.prog 26 #[.slice (some ⟨p, o, none⟩) n c] h (Q := ⟨fun v h' => ∃ r, v = .slice (some ⟨r, 0, none⟩) n n ∧ h.size ≤ r ∧ h'.get r = some (.row false 1 (bys l)) ∧ h.size ≤ h'.size ∧ ∀ i, i < h.size → h'.get i = h.get i⟩) := by
  refine FN.enter mixed (fn := Try.f26) (by kernel_rfl) rfl (by kernel_rfl) fun e hn hg hd => ?_
  simp [Try.f26] at hn
  have a0 : e.get 0 = .slice (some ⟨p, o, none⟩) n c := hg 0 (by omega)
  clear hg
  have pz := IHeap.get_lt g
  obtain ⟨h2, j2, ap, r2, k2, z2, f2⟩ := app33 (h := h.push (.row false 1 (bys []))) (i := h.size) (n := 0) (m := n) (cs := []) (news := l) (x := .slice (some ⟨p, o, none⟩) n c) (src33 (by rw [IHeap.get_push_ne _ (by omega)]; exact g) hs (by rw [bys_len, hn'])) hn' (IHeap.get_pushed _ rfl) rfl (by omega)
  simp only [IHeap.size_push', Nat.zero_add, List.nil_append] at ap r2 k2 z2 f2
  have ez : zeros #[Value.int .u8 0] 0 = bys [] := rfl
  simp (maxSteps := 1000000) (disch := first | (simp; done) | (simp only [IHeap.size_push', IHeap.size_set']; omega) | omega) [a0, hn, hd, ez, ap]
  exact ⟨by omega, r2, by omega, fun i hi => by rw [k2 i (by omega) (by omega), IHeap.get_push_ne _ (by omega)]⟩
def Z13 : List Value := [.int .u8 0, .int .u8 0, .int .u8 0, .int .u8 0, .int .u8 0, .int .u8 0, .int .u8 0, .int .u8 0, .int .u8 0, .int .u8 0, .int .u8 0, .int .u8 0, .int .u16 0]
theorem ze41' : zeroOf Try.prog 41 = some Z13.toArray := by kernel_rfl
attribute [-simp] ze41
attribute [local simp] ze41'
theorem ER.s13 (a : ER) : slots a.row 0 13 = some a.row := slots_full _ (by rw [a.row_len])
theorem wl_12 (a : ER) (l : List Nat) : (a.wl l)[12]? = some 8 := by
  unfold ER.wl
  rw [List.append_assoc, List.getElem?_append_right (by simp [a.l1, a.l2])]
  simp [a.l1, a.l2]
theorem wl_13 (a : ER) (l : List Nat) : (a.wl l)[13]? = some 6 := by
  unfold ER.wl
  rw [List.append_assoc, List.getElem?_append_right (by simp [a.l1, a.l2])]
  simp [a.l1, a.l2]
theorem eread_c {h : IHeap} {r : Nat} (a : ER) {l : List Nat} {n : Nat} (hn' : (a.wl l).length = n) (hn1 : n ≤ 1000) (g : h.get r = some (.row false 1 (bys (a.wl l)))) :
    FN Try.prog 16 #[.slice (some ⟨r, 0, none⟩) n n] h (Q := ⟨fun v h' => ∃ q, v = .tuple #[a.val, .slice (some ⟨q, 0, none⟩) (n - 14) (n - 14), .int .i64 0] ∧ h'.get q = some (.row false 1 (bys l)) ∧ h.size ≤ h'.size ∧ ∀ i, i < h.size → h'.get i = h.get i⟩) := by
  refine FN.enter mixed (fn := Try.f16) (by kernel_rfl) rfl (by kernel_rfl) fun e hn hg hd => ?_
  simp [Try.f16] at hn
  have a0 : e.get 0 = .slice (some ⟨r, 0, none⟩) n n := hg 0 (by omega)
  clear hg
  have rz := IHeap.get_lt g
  have n14 : 14 ≤ n := by rw [← hn']; unfold ER.wl; simp [a.l1, a.l2]; omega
  have c1 : ¬ (1600 : Int) < n := by omega
  have c2 : ¬ (n : Int) < 14 := by omega
  obtain ⟨L, hL⟩ : ∃ L, a.wl l = L := ⟨_, rfl⟩
  have w12 := wl_12 a l
  have w13 := wl_13 a l
  have d1 : sub L 0 6 = a.dst := by
    rw [← hL]; unfold ER.wl sub
    rw [List.append_assoc, List.append_assoc, List.drop_zero, List.take_left' a.l1]
  have d2 : sub L 6 6 = a.src := by
    rw [← hL]; unfold ER.wl sub
    rw [List.append_assoc, List.append_assoc, List.drop_left' a.l1, List.take_left' a.l2]
  have d3 : sub L 14 (n - 14) = l := by
    rw [← hn', ← hL]; unfold ER.wl sub
    rw [List.drop_left' (by simp [a.l1, a.l2]), List.take_of_length_le (by simp [a.l1, a.l2]; omega)]
  rw [hL] at g hn' w12 w13
  have g12 : (bys L)[12]? = some (.int .u8 8) := bys_get (c := 8) w12
  have g13 : (bys L)[13]? = some (.int .u8 6) := bys_get (c := 6) w13
  have g12' : ∀ hh, (bys L)[12]'hh = .int .u8 8 := fun hh => by rw [List.getElem?_eq_getElem hh] at g12; injection g12
  have g13' : ∀ hh, (bys L)[13]'hh = .int .u8 6 := fun hh => by rw [List.getElem?_eq_getElem hh] at g13; injection g13
  have s0 := slots_bys (l := L) (o := 0) (k := 6) (by omega)
  have s6 := slots_bys (l := L) (o := 6) (k := 6) (by omega)
  have s14 := slots_bys (l := L) (o := 14) (k := n - 14) (by omega)
  rw [d1] at s0
  rw [d2] at s6
  rw [d3] at s14
  have bl := bys_len L
  rw [hn'] at bl
  have l3 : l.length = n - 14 := by rw [← d3, sub_len (by omega)]
  obtain ⟨H, hH⟩ : ∃ H, h.push (.row false 0 Z13) = H := ⟨_, rfl⟩
  have Hz : H.size = h.size + 1 := by rw [← hH]; exact IHeap.size_push' _ _
  have H0 : H.get h.size = some (.row false 0 Z13) := by rw [← hH]; exact IHeap.get_pushed _ rfl
  have Hr : H.get r = some (.row false 1 (bys L)) := by rw [← hH, IHeap.get_push_ne _ (by omega)]; exact g
  have Ho : ∀ i, i < h.size → H.get i = h.get i := fun i hi => by rw [← hH]; exact IHeap.get_push_ne _ (by omega)
  have k6 := cut_lo (n := n) (c := n) (l := 6) Hr (.inr rfl) (by omega) (Nat.le_refl _)
  rw [show ((6 : Nat) : Int) = 6 from rfl] at k6
  have b41 := bld41 a.l1 a.l2
  rw [show evOf a.dst a.src = Value.agg a.row.toArray from rfl] at b41
  have al := a.row_len
  have ao := a.row_one
  have aS := a.s13
  have spz : splice Z13 0 a.row = a.row := splice_all (by rw [al]; rfl)
  have zl : Z13.length = 13 := rfl
  have opv : IntKind.u16.wrap (((IntKind.u16.wrap (8 * 2 ^ min 8 IntKind.u16.bits) % 2 ^ IntKind.u16.bits).toNat ||| 6 % 2 ^ IntKind.u16.bits : Nat) : Int) = 2054 := by decide
  simp (maxSteps := 1000000) (disch := first | (simp; done) | (simp only [IHeap.size_push', IHeap.size_set']; omega) | omega) [-buildOf, -Instr.fill, a0, hn, hd, c1, c2, hH, toArrV, Hr, s0, s6, cutN, cutV, isZ, kindOf, k6, g12, g13, g12', g13', bl, show 6 ≤ n by omega, show 6 ≤ n - 6 by omega, show 12 < n by omega, show 13 < n by omega, show (12 : Int) < n by omega, show (13 : Int) < n by omega, opv, b41, al, ao, spz, zl, aS]
  refine ⟨niC_pend [] (by kernel_rfl) trivial, ?_⟩
  obtain ⟨K, hK⟩ : ∃ K, H.push (.row false 0 a.row) = K := ⟨_, rfl⟩
  have Kz : K.size = h.size + 2 := by rw [← hK, IHeap.size_push']; omega
  have oK : ∀ i, i < H.size → K.get i = H.get i := fun i hi => by rw [← hK]; exact IHeap.get_push_ne _ (by omega)
  have K0 : K.get h.size = some (.row false 0 Z13) := by rw [oK _ (by omega)]; exact H0
  have K1 : K.get H.size = some (.row false 0 a.row) := by rw [← hK]; exact IHeap.get_pushed _ rfl
  have Kr : K.get r = some (.row false 1 (bys L)) := by rw [oK _ (by omega)]; exact Hr
  have k14 := cut_lo (n := n) (c := n) (l := 14) Kr (.inr rfl) (by omega) (Nat.le_refl _)
  rw [show ((14 : Nat) : Int) = 14 from rfl] at k14
  simp (maxSteps := 1000000) (disch := first | (simp; done) | (simp only [IHeap.size_push', IHeap.size_set']; omega) | omega) [a0, hn, hd, hK, K1, aS, cutN, cutV, isZ, kindOf, k14]
  refine FN.mono (clone33_c (l := l) l3 (by omega) Kr s14) ?_
  rintro _ h2 ⟨q, rfl, hq, gq, z2, o2⟩
  have t0 : h2.get h.size = some (.row false 0 Z13) := by rw [o2 _ (by omega)]; exact K0
  have t0z := IHeap.get_lt t0
  have kk : h2.get H.size = K.get H.size := o2 _ (by omega)
  simp (maxSteps := 1000000) (disch := first | (simp; done) | (simp only [IHeap.size_push', IHeap.size_set']; omega) | omega) [a0, hn, hd, t0, al, ao, spz, zl, aS, t0z]
  refine ⟨niC_pend [(0, 3)] (by kernel_rfl) ⟨kk, trivial⟩, q, ⟨rfl, rfl⟩, by rw [IHeap.get_set_ne _ (by omega)]; exact gq, by omega, fun i hi => ?_⟩
  rw [IHeap.get_set_ne _ (by omega), o2 i (by omega), oK i (by omega), Ho i hi]
end Go.Proofs.Yteokdllmandleaa.Ideal
