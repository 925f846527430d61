import Derived.Test.YteokdllmandleaaP34a
noncomputable section
open Go.Proofs
namespace Go.Proofs.Yteokdllmandleaa.Ideal
open Go.RowKit
set_option linter.unusedSimpArgs false
set_option linter.unusedVariables false
set_option linter.unusedSectionVars false
set_option maxRecDepth 100000
set_option maxHeartbeats 4000000
attribute [-simp] IHeap.size_set IHeap.size_push
attribute [local simp ↓] Hid.ap_mk
attribute [local simp] scopeQ_normal scopeQ_ret scopeQ_exit WP_skip WP_label WP_exit WP_goto WP_ret WP_region WP_seq WP_cond WP_block WP_scope WP_loop WP_range thenQ_normal thenQ_ret thenQ_exit thenQ_goto loopQ_normal loopQ_ret loopQ_exit invQ_normal invQ_ret invQ_exit outOf_normal outOf_ret outOf_goto outOf_exit ev_tmp ev_const ev_func
  wops_nil wops_cons wantedE_none wantedE_some jgd_some wnx_eq niC_false wdo_move wdo_assign wdo_pick wdo_load wdo_store wdo_alloc wdo_box wdo_fieldAddr wdo_indexAddr wdo_field wdo_extract wdo_build wdo_buildSlice wdo_makeSlice wdo_binOp wdo_unOp wdo_makeFunc wdo_nilCheck wdo_callV wdo_len wdo_append wdo_copy wdo_delete wdo_max wdo_min wdo_convert jcvt_int
  xput_get put_n put_none put_dfr ibin finQ_n finQ_r finD_nil splice_one ires_nil ires_one ires_two ires_three ires1_tmp ires1_cell jcell_ptr rowLoad_row wrap64 wrapU64 wrapU8 wrapU16 wrapU32 callV_fn buildOf Instr.fill Value.cells Value.oneCell' kindOf slots_all splice_all IHeap.size_set' IHeap.size_push' IHeap.get_set_same IHeap.get_set_ne IHeap.get_pushed IHeap.get_push_ne IHeap.set_set IHeap.set_push IHeap.set_pushed IHeap.set_set3 getU_nil getU_same getU_ne jif_true jif_false pushH_eq setH_eq forceL_eq forceV_eq ibuildSlice
theorem wdo_all23 {draw : Bool} {all : Array Oper} {os : List Oper} {e : XEnv} {h : IHeap} (d : Option Tmp) (ty : TypeId) (p : String) (af : Array Edge) (g : Option (Nat × Bool)) [Q : Hid (XEnv → IHeap → Prop)] [E : Hid (List Ent)] (x : Operand) :
    wdo Try.prog draw all ⟨d, .slice 23 x none none none, ty, p, af, g⟩ os e h = jopt (arrAll Try.prog 23 (e.ev x)) (R := ⟨jgen Try.prog e ⟨d, .slice 23 x none none none, ty, p, af, g⟩ h (K := ⟨fun v h' k => wnx Try.prog draw all os e d h v h' k⟩)⟩) (K := ⟨fun v k => wnx Try.prog draw all os e d h v h k⟩) := wdo_arrAll d ty p af g 23 x
theorem wdo_all24 {draw : Bool} {all : Array Oper} {os : List Oper} {e : XEnv} {h : IHeap} (d : Option Tmp) (ty : TypeId) (p : String) (af : Array Edge) (g : Option (Nat × Bool)) [Q : Hid (XEnv → IHeap → Prop)] [E : Hid (List Ent)] (x : Operand) :
    wdo Try.prog draw all ⟨d, .slice 24 x none none none, ty, p, af, g⟩ os e h = jopt (arrAll Try.prog 24 (e.ev x)) (R := ⟨jgen Try.prog e ⟨d, .slice 24 x none none none, ty, p, af, g⟩ h (K := ⟨fun v h' k => wnx Try.prog draw all os e d h v h' k⟩)⟩) (K := ⟨fun v k => wnx Try.prog draw all os e d h v h k⟩) := wdo_arrAll d ty p af g 24 x
attribute [local simp] wdo_index jopt_some wdo_cut33 wdo_all23 wdo_all24 arrAll
attribute [-simp] Value.oneCell'
attribute [local simp] one_int' one_slc'
/-- A message. -/
structure AR where
  op : Nat
  fr : List Nat
  to : List Nat
  fip : List Nat
  ip : List Nat
  l1 : fr.length = 6
  l2 : to.length = 6
  l3 : fip.length = 4
  l4 : ip.length = 4
def AR.row (a : AR) : List Value := .int .u16 (a.op : Nat) :: bys (a.fr ++ (a.to ++ (a.fip ++ a.ip)))
def AR.val (a : AR) : Value := .agg a.row.toArray
theorem len6 {l : List Nat} (h : l.length = 6) : ∃ a b c d e f, l = [a, b, c, d, e, f] := by
  match l, h with
  | [a, b, c, d, e, f], _ => exact ⟨a, b, c, d, e, f, rfl⟩
theorem len4 {l : List Nat} (h : l.length = 4) : ∃ a b c d, l = [a, b, c, d] := by
  match l, h with
  | [a, b, c, d], _ => exact ⟨a, b, c, d, rfl⟩
theorem AR.row_len (a : AR) : a.row.length = 21 := by simp [AR.row, bys_len, a.l1, a.l2, a.l3, a.l4]
theorem AR.row_one (a : AR) : a.row.all (·.oneCell') = true := by
  unfold AR.row
  rw [List.all_cons, bys_all]
  rfl
theorem AR.get0 (a : AR) : a.row[0]? = some (.int .u16 (a.op : Nat)) := rfl
theorem AR.s21 (a : AR) : slots a.row 0 21 = some a.row := slots_full _ (by rw [a.row_len])
theorem slots_cons (v : Value) (cs : List Value) (o n : Nat) : slots (v :: cs) (o + 1) n = slots cs o n := by
  unfold slots
  simp only [List.length_cons, List.drop_succ_cons]
  by_cases h : o + n ≤ cs.length
  · rw [if_pos h, if_pos (by omega)]
  · rw [if_neg h, if_neg (by omega)]
theorem AR.sfr (a : AR) : slots a.row 1 6 = some (bys a.fr) := by
  rw [AR.row, slots_cons, slots_bys (by simp [a.l1])]
  congr 2
  unfold sub
  rw [List.drop_zero, List.take_left' a.l1]
theorem AR.sto (a : AR) : slots a.row 7 6 = some (bys a.to) := by
  rw [AR.row, slots_cons, slots_bys (by simp [a.l1, a.l2]; omega)]
  congr 2
  unfold sub
  rw [List.drop_left' a.l1, List.take_left' a.l2]
theorem AR.sfip (a : AR) : slots a.row 13 4 = some (bys a.fip) := by
  rw [AR.row, slots_cons, slots_bys (by simp [a.l1, a.l2, a.l3, a.l4])]
  congr 2
  unfold sub
  rw [← List.append_assoc, List.drop_left' (by simp [a.l1, a.l2]), List.take_left' a.l3]
theorem AR.sip (a : AR) : slots a.row 17 4 = some (bys a.ip) := by
  rw [AR.row, slots_cons, slots_bys (by simp [a.l1, a.l2, a.l3, a.l4])]
  congr 2
  unfold sub
  rw [← List.append_assoc, ← List.append_assoc, List.drop_left' (by simp [a.l1, a.l2, a.l3]), List.take_of_length_le (by have := a.l4; omega)]
/-- The bytes of a message. -/
def AR.wl (a : AR) : List Nat := [0, 1, 8, 0, 6, 4, 0, a.op] ++ a.fr ++ a.fip ++ a.to ++ a.ip
theorem AR.wl_len (a : AR) : a.wl.length = 28 := by simp [AR.wl, a.l1, a.l2, a.l3, a.l4]
def okOp (a : AR) : Bool := decide (a.op = 1 ∨ a.op = 2)
/-- What Write tells: bytes in a row of their own, or that it is refused. -/
def WrV (h : IHeap) (a : AR) (v : Value) (h' : IHeap) : Prop := h.size ≤ h'.size ∧ (∀ i, i < h.size → h'.get i = h.get i) ∧ ((okOp a = false ∧ v = .tuple #[.slice none 0 0, .int .i64 5]) ∨ (okOp a = true ∧ ∃ r, v = .tuple #[.slice (some ⟨r, 0, none⟩) 28 28, .int .i64 0] ∧ h.size ≤ r ∧ h'.get r = some (.row false 1 (bys a.wl))))
theorem write_c {h : IHeap} (a : AR) (hop : a.op < 65536) : FN Try.prog 12 #[a.val] h (Q := ⟨fun v h' => WrV h a v h'⟩) := by
  refine FN.enter mixed (fn := Try.f12) (by kernel_rfl) rfl (by kernel_rfl) fun e hn hg hd => ?_
  simp [Try.f12] at hn
  have a0 : e.get 0 = a.val := hg 0 (by omega)
  clear hg
  have g0 := a.get0
  have g0' : ∀ hh, a.row[0]'hh = .int .u16 (a.op : Nat) := fun _ => rfl
  have rl := a.row_len
  simp (maxSteps := 1000000) (disch := first | (simp; done) | (simp only [IHeap.size_push', IHeap.size_set']; omega) | omega) [a0, hn, hd, AR.val, a.row_one, g0, g0']
  refine FN.of (isOp_c a.op) ?_
  cases hok : okOp a
  · unfold okOp at hok
    simp (maxSteps := 1000000) (disch := first | (simp; done) | (simp only [IHeap.size_push', IHeap.size_set']; omega) | omega) [a0, hn, hd, hok]
    exact ⟨by rw [IHeap.size_push']; omega, fun i hi => IHeap.get_push_ne _ (by omega), .inl ⟨hok, rfl⟩⟩
  · have hok2 := hok
    unfold okOp at hok
    simp (maxSteps := 1000000) (disch := first | (simp; done) | (simp only [IHeap.size_push', IHeap.size_set']; omega) | omega) [a0, hn, hd, hok]
    refine FN.of kind_c ?_
    have opw : IntKind.u8.wrap (a.op : Int) = a.op := by
      have : a.op = 1 ∨ a.op = 2 := by simpa using hok
      exact wrapU8 (by omega) (by omega)
    simp (maxSteps := 1000000) (disch := first | (simp; done) | (simp only [IHeap.size_push', IHeap.size_set']; omega) | omega) [a0, hn, hd, g0, g0', zeros, opw]
    obtain ⟨H, hH⟩ : ∃ H, H = ((((h.push (.row false 0 a.row)).push (.row false 1 (bys [0, 1, 8, 0, 6, 4]))).push (.row false 1 [.int .u8 0, .int .u8 a.op])).push (.row false 1 [.slice (some ⟨h.size + 1, 0, none⟩) 6 6, .slice (some ⟨h.size + 1 + 1, 0, none⟩) 2 2, .slice (some ⟨h.size, 1, none⟩) 6 6, .slice (some ⟨h.size, 13, none⟩) 4 4, .slice (some ⟨h.size, 7, none⟩) 6 6, .slice (some ⟨h.size, 17, none⟩) 4 4])) := ⟨_, rfl⟩
    rw [← hH]
    have Hz : H.size = h.size + 4 := by rw [hH]; simp only [IHeap.size_push']
    have H0 : H.get h.size = some (.row false 0 a.row) := by rw [hH]; simp (maxSteps := 1000000) (disch := first | (simp; done) | (simp only [IHeap.size_push', IHeap.size_set']; omega) | omega) []
    have H1 : H.get (h.size + 1) = some (.row false 1 (bys [0, 1, 8, 0, 6, 4])) := by rw [hH]; simp (maxSteps := 1000000) (disch := first | (simp; done) | (simp only [IHeap.size_push', IHeap.size_set']; omega) | omega) []
    have H2 : H.get (h.size + 1 + 1) = some (.row false 1 (bys [0, a.op])) := by rw [hH]; simp (maxSteps := 1000000) (disch := first | (simp; done) | (simp only [IHeap.size_push', IHeap.size_set']; omega) | omega) []; rfl
    have H3 : H.get (h.size + 1 + 1 + 1) = some (.row false 1 [.slice (some ⟨h.size + 1, 0, none⟩) 6 6, .slice (some ⟨h.size + 1 + 1, 0, none⟩) 2 2, .slice (some ⟨h.size, 1, none⟩) 6 6, .slice (some ⟨h.size, 13, none⟩) 4 4, .slice (some ⟨h.size, 7, none⟩) 6 6, .slice (some ⟨h.size, 17, none⟩) 4 4]) := by rw [hH]; simp (maxSteps := 1000000) (disch := first | (simp; done) | (simp only [IHeap.size_push', IHeap.size_set']; omega) | omega) []
    have Ho : ∀ i, i < h.size → H.get i = h.get i := fun i hi => by rw [hH]; simp (maxSteps := 1000000) (disch := first | (simp; done) | (simp only [IHeap.size_push', IHeap.size_set']; omega) | omega) []
    refine FN.mono (laid_c (n := 6) (ls := [[0, 1, 8, 0, 6, 4], [0, a.op], a.fr, a.fip, a.to, a.ip]) H3 rfl rfl (by omega) ?_) ?_
    · intro j hj
      rcases (show j = 0 ∨ j = 1 ∨ j = 2 ∨ j = 3 ∨ j = 4 ∨ j = 5 by omega) with e | e | e | e | e | e <;> subst e
      · exact ⟨_, _, _, _, _, _, _, rfl, rfl, H1, rfl, by simp, by simp⟩
      · exact ⟨_, _, _, _, _, _, _, rfl, rfl, H2, rfl, by simp, by simp⟩
      · exact ⟨a.fr, 6, _, _, _, _, _, rfl, by rw [a.l1]; rfl, H0, by rw [a.l1]; exact a.sfr, by rw [a.l1]; omega, by rw [a.l1]; omega⟩
      · exact ⟨a.fip, 4, _, _, _, _, _, rfl, by rw [a.l3]; rfl, H0, by rw [a.l3]; exact a.sfip, by rw [a.l3]; omega, by rw [a.l3]; omega⟩
      · exact ⟨a.to, 6, _, _, _, _, _, rfl, by rw [a.l2]; rfl, H0, by rw [a.l2]; exact a.sto, by rw [a.l2]; omega, by rw [a.l2]; omega⟩
      · exact ⟨a.ip, 4, _, _, _, _, _, rfl, by rw [a.l4]; rfl, H0, by rw [a.l4]; exact a.sip, by rw [a.l4]; omega, by rw [a.l4]; omega⟩
    rintro v h2 ⟨r, hv, z2, o2⟩
    obtain ⟨rfl, hr, gr⟩ := hv (by omega)
    have ce : cat [[0, 1, 8, 0, 6, 4], [0, a.op], a.fr, a.fip, a.to, a.ip] 6 = a.wl := by
      unfold cat AR.wl
      simp
    rw [ce] at gr ⊢
    have wll := a.wl_len
    simp (maxSteps := 1000000) (disch := first | (simp; done) | (simp only [IHeap.size_push', IHeap.size_set']; omega) | omega) [a0, hn, hd, wll]
    have k1 : ((h.push (.row false 0 a.row)).push (.row false 1 (bys [0, 1, 8, 0, 6, 4]))).get h.size = (h.push (.row false 0 a.row)).get h.size := IHeap.get_push_ne _ (by simp only [IHeap.size_push']; omega)
    refine ⟨niC_pend [(0, 2)] (by kernel_rfl) ⟨k1, trivial⟩, ?_⟩
    exact ⟨by omega, fun i hi => by rw [o2 i (by omega), Ho i hi], .inr ⟨hok2, r, rfl, by omega, gr⟩⟩
end Go.Proofs.Yteokdllmandleaa.Ideal
