import Derived.Test.YteokdllmandleaaP34i
import Derived.Test.YteokdllmandleaaSlice2
noncomputable section
open Go.Proofs
namespace Go.Proofs.Yteokdllmandleaa.Ideal
open Go.RowKit
set_option linter.unusedSimpArgs false
set_option linter.unusedVariables false
set_option linter.unusedSectionVars false
set_option maxRecDepth 100000
set_option maxHeartbeats 4000000
def kfns : List Nat := [6, 7, 10, 12, 17, 18, 20, 21, 22, 27]
theorem kfns_ok : ∀ g ∈ kfns, fnB Try.prog g = true := by
  have : kfns.all (fnB Try.prog) = true := by kernel_rfl
  rwa [List.all_eq_true] at this
theorem known_c {h : IHeap} : ICall Try.prog 6 #[] h (.bool true) h := by
  refine ICall.of_below rfl fun ρ w args' ha hm => ?_
  obtain rfl : args' = #[] := Array.eq_empty_of_size_eq_zero ha.1.symm
  exact calls_run kfns_ok mixed (m := 100000) (n := 200) (by kernel_rfl) (by kernel_rfl) w
theorem fb_known : fnB Try.prog 6 = true := by kernel_rfl
theorem un33' : Try.prog.underlying 33 = some (.slice 5) := by kernel_rfl
theorem un9' : Try.prog.underlying 9 = some .string := by kernel_rfl
theorem u8_5 : isU8 Try.prog 5 = true := by kernel_rfl
theorem intsOf_bys : ∀ l : List Nat, intsOf (bys l) = some (ii l) := by
  intro l
  induction l with
  | nil => rfl
  | cons a l ih =>
    simp only [bys, ii, List.map_cons] at ih ⊢
    simp [intsOf, ih]
theorem str_row {h : IHeap} {p c : Nat} {ro : Bool} {z : Nat} {l : List Nat} {n : Nat} (hn : l.length = n) (g : h.get p = some (.row ro z (bys l))) : ∃ k, strAny Try.prog h 33 9 (.slice (some ⟨p, 0, none⟩) n c) = some (.string (strB (ii l)), k) := by
  obtain ⟨k, _, h2⟩ := strAny_row (P := Try.prog) (q := 0) (n := n) (c := c) un33' un9' u8_5 g (slots_full _ (by rw [bys_len, hn])) (intsOf_bys l) (by rw [ii_len, hn])
  exact ⟨k, h2⟩
theorem beqS (a : ByteArray) : (a == a) = true := by
  show ByteArray.beq a a = true
  unfold ByteArray.beq
  exact beq_self_eq_true a.data
attribute [-simp] IHeap.size_set IHeap.size_push
attribute [local simp ↓] Hid.ap_mk
attribute [local simp] scopeQ_normal scopeQ_ret scopeQ_exit WP_skip WP_label WP_exit WP_goto WP_ret WP_region WP_seq WP_cond WP_block WP_scope WP_loop WP_range thenQ_normal thenQ_ret thenQ_exit thenQ_goto loopQ_normal loopQ_ret loopQ_exit invQ_normal invQ_ret invQ_exit outOf_normal outOf_ret outOf_goto outOf_exit ev_tmp ev_const ev_func
  wops_nil wops_cons wantedE_none wantedE_some jgd_some wnx_eq niC_false wdo_move wdo_assign wdo_pick wdo_load wdo_store wdo_alloc wdo_box wdo_fieldAddr wdo_indexAddr wdo_field wdo_extract wdo_build wdo_buildSlice wdo_makeSlice wdo_binOp wdo_unOp wdo_makeFunc wdo_nilCheck wdo_callV wdo_len wdo_append wdo_copy wdo_delete wdo_max wdo_min wdo_convert jcvt_int
  xput_get put_n put_none put_dfr ibin finQ_n finQ_r finD_nil splice_one ires_nil ires_one ires_two ires_three ires1_tmp ires1_cell jcell_ptr rowLoad_row wrap64 wrapU64 wrapU8 wrapU16 wrapU32 callV_fn buildOf Instr.fill Value.cells Value.oneCell' kindOf slots_all splice_all IHeap.size_set' IHeap.size_push' IHeap.get_set_same IHeap.get_set_ne IHeap.get_pushed IHeap.get_push_ne IHeap.set_set IHeap.set_push IHeap.set_pushed IHeap.set_set3 getU_nil getU_same getU_ne jif_true jif_false pushH_eq setH_eq forceL_eq forceV_eq ibuildSlice
theorem wdo_str33 {draw : Bool} {all : Array Oper} {os : List Oper} {e : XEnv} {h : IHeap} (d : Option Tmp) (ty : TypeId) (p : String) (af : Array Edge) (g : Option (Nat × Bool)) [Q : Hid (XEnv → IHeap → Prop)] [E : Hid (List Ent)] (x : Operand) :
    wdo Try.prog draw all ⟨d, .convert 33 9 x, ty, p, af, g⟩ os e h = jopt (strAny Try.prog h 33 9 (e.ev x)) (R := ⟨jcvt Try.prog e ⟨d, .convert 33 9 x, ty, p, af, g⟩ h (e.ev x) (Try.prog.underlying 33) (Try.prog.underlying 9) (K := ⟨fun v h' k => wnx Try.prog draw all os e d h v h' k⟩)⟩) (K := ⟨fun v k => wnx Try.prog draw all os e d h v h k⟩) := wdo_strAny d ty p af g 33 9 x
attribute [local simp high] wdo_str33
attribute [local simp] wdo_index jopt_some wdo_cut33 wdo_all23 wdo_all24 arrAll wdo_toArr fb_known
attribute [-simp] Value.oneCell'
attribute [local simp] one_int' one_slc'
attribute [-simp] ze26
attribute [local simp] ze26'
theorem src_arg {h : IHeap} {A : Option Addr} {l : List Nat} {cap : Nat} (s : SlArg 0 A l.length cap) (g : h.get 0 = some (.row true 0 (bys l))) : srcOf h 1 (.slice A l.length cap) = some (l.length, bys l) := by
  by_cases h0 : l.length = 0
  · obtain rfl := List.eq_nil_of_length_eq_zero h0
    rcases s with ⟨rfl, _, rfl⟩ | rfl
    · rfl
    · simp [srcOf, bys]
  · rcases s with ⟨rfl, e, rfl⟩ | rfl
    · exact absurd e h0
    · exact src_row g (slots_full _ (by rw [bys_len]; omega)) h0
theorem str_arg {h : IHeap} {A : Option Addr} {l : List Nat} {cap : Nat} (s : SlArg 0 A l.length cap) (g : h.get 0 = some (.row true 0 (bys l))) : ∃ k, strAny Try.prog h 33 9 (.slice A l.length cap) = some (.string (strB (ii l)), k) := by
  rcases s with ⟨rfl, e, rfl⟩ | rfl
  · obtain rfl := List.eq_nil_of_length_eq_zero e
    exact ⟨_, strAny_nil un33' un9' u8_5⟩
  · exact str_row rfl g
theorem reads_c {h : IHeap} {A : Option Addr} {l : List Nat} {cap : Nat} (a : AR) (hop : a.op < 65536) (sA : SlArg 0 A l.length cap) (hb : ∀ b ∈ l, b < 256) (r0 : h.get 0 = some (.row true 0 (bys l))) :
    FN Try.prog 4 #[.slice A l.length cap, a.val] h (Q := ⟨fun v _ => v = .bool true⟩) := by
  refine FN.enter mixed (fn := Try.f4) (by kernel_rfl) rfl (by kernel_rfl) fun e hn hg hd => ?_
  simp [Try.f4] at hn
  have a0 : e.get 0 = .slice A l.length cap := hg 0 (by omega)
  have a1 : e.get 1 = a.val := hg 1 (by omega)
  clear hg
  have z0 := IHeap.get_lt r0
  have rl := a.row_len
  have s21 := a.s21
  by_cases c1 : (200 : Int) < l.length
  · simp (maxSteps := 1000000) (disch := first | (simp; done) | (simp only [IHeap.size_push', IHeap.size_set']; omega) | omega) [a0, a1, hn, hd, AR.val, a.row_one, c1]
    refine FN.of known_c ?_
    simp (maxSteps := 1000000) (disch := first | (simp; done) | (simp only [IHeap.size_push', IHeap.size_set']; omega) | omega) [hn, hd]
  have c1' : l.length ≤ 200 := by omega
  obtain ⟨H, hH⟩ : ∃ H, (h.push (.row false 0 a.row)).push (.row false 1 (bys [])) = H := ⟨_, rfl⟩
  have Hz : H.size = h.size + 2 := by rw [← hH]; simp only [IHeap.size_push']
  have H0 : H.get h.size = some (.row false 0 a.row) := by rw [← hH]; simp (maxSteps := 1000000) (disch := first | (simp; done) | (simp only [IHeap.size_push', IHeap.size_set']; omega) | omega) []
  have H1 : H.get (h.size + 1) = some (.row false 1 (bys [])) := by rw [← hH]; simp (maxSteps := 1000000) (disch := first | (simp; done) | (simp only [IHeap.size_push', IHeap.size_set']; omega) | omega) []
  have Hr : H.get 0 = some (.row true 0 (bys l)) := by rw [← hH]; simp (maxSteps := 1000000) (disch := first | (simp; done) | (simp only [IHeap.size_push', IHeap.size_set']; omega) | omega) [r0]
  obtain ⟨h2, j2, ap, r2, k2, z2, f2⟩ := app33 (h := H) (i := h.size + 1) (n := 0) (m := l.length) (cs := []) (news := l) (x := .slice A l.length cap) (src_arg sA Hr) rfl H1 rfl (by omega)
  simp only [Nat.zero_add, List.nil_append] at ap r2
  have j2z := IHeap.get_lt r2
  have b2 : h2.get h.size = some (.row false 0 a.row) := by rw [k2 _ (by omega) (by omega)]; exact H0
  have q2 : h2.get 0 = some (.row true 0 (bys l)) := by rw [k2 _ (by omega) (by omega)]; exact Hr
  have ez : zeros #[Value.int .u8 0] 0 = bys [] := rfl
  simp (maxSteps := 1000000) (disch := first | (simp; done) | (simp only [IHeap.size_push', IHeap.size_set']; omega) | omega) [a0, a1, hn, hd, AR.val, a.row_one, c1, ez, hH, ap]
  refine FN.mono (read_c (A := some ⟨j2, 0, none⟩) (c := l.length) hb (Nat.le_refl _) (fun _ => ⟨j2, false, 1, rfl, r2, .inr rfl⟩)) ?_
  rintro _ h3 ⟨rfl, z3, o3⟩
  obtain ⟨m, hm⟩ : ∃ m, (readR l).1 = m := ⟨_, rfl⟩
  have ml := m.row_len
  have mo := m.row_one
  have ms := m.s21
  have mz : splice zAR.row 0 m.row = m.row := splice_all (by rw [ml]; rfl)
  rw [hm]
  have zl := zAR.row_len
  simp (maxSteps := 1000000) (disch := first | (simp; done) | (simp only [IHeap.size_push', IHeap.size_set']; omega) | omega) [a0, a1, hn, hd, AR.val, ml, mo, mz, zl]
  have q3 : (h3.push (.row false 0 m.row)).get 0 = some (.row true 0 (bys l)) := by rw [IHeap.get_push_ne _ (by omega), o3 _ (by omega)]; exact q2
  refine FN.mono (rread_c (A := A) (c := cap) hb (fun h28 => ⟨0, true, 0, by
    rcases sA with ⟨_, e, _⟩ | e
    · omega
    · exact e, q3⟩)) ?_
  rintro _ h4 ⟨rfl, z4, o4⟩
  rw [IHeap.size_push'] at z4 o4
  rw [hm]
  have b4 : h4.get h.size = some (.row false 0 a.row) := by rw [o4 _ (by omega), IHeap.get_push_ne _ (by omega), o3 _ (by omega)]; exact b2
  have x4 : h4.get h3.size = some (.row false 0 m.row) := by rw [o4 _ (by omega)]; exact IHeap.get_pushed _ rfl
  have i4 : h4.get j2 = some (.row false 1 (bys l)) := by rw [o4 _ (by omega), IHeap.get_push_ne _ (by omega), o3 _ j2z]; exact r2
  have q4 : h4.get 0 = some (.row true 0 (bys l)) := by rw [o4 _ (by omega)]; exact q3
  simp (maxSteps := 1000000) (disch := first | (simp; done) | (simp only [IHeap.size_push', IHeap.size_set']; omega) | omega) [a0, a1, hn, hd, AR.val, ml, mo, mz, zl, b4, s21]
  obtain ⟨K, hK⟩ : ∃ K, h4.push (.row false 0 m.row) = K := ⟨_, rfl⟩
  have Kz : K.size = h4.size + 1 := by rw [← hK]; exact IHeap.size_push' _ _
  have y5 : K.get h4.size = some (.row false 0 m.row) := by rw [← hK]; exact IHeap.get_pushed _ rfl
  have oK : ∀ i, i < h4.size → K.get i = h4.get i := fun i hi => by rw [← hK]; exact IHeap.get_push_ne _ (by omega)
  have b5 : K.get h.size = some (.row false 0 a.row) := by rw [oK _ (by omega)]; exact b4
  have x5 : K.get h3.size = some (.row false 0 m.row) := by rw [oK _ (by omega)]; exact x4
  have i5 : K.get j2 = some (.row false 1 (bys l)) := by rw [oK _ (by omega)]; exact i4
  have q5 : K.get 0 = some (.row true 0 (bys l)) := by rw [oK _ (by omega)]; exact q4
  rw [hK]
  have l28 := a.wl_len
  have l42 : (a.er.wl a.wl).length = 42 := by simp [ER.wl, a.er.l1, a.er.l2, l28]
  have e26 := eq26 m
  simp only [AR.val] at e26
  clear hK oK b4 x4 i4 q4 q3 o4 o3 z4 z3 b2 q2 r2 k2 f2 z2 ap H0 H1 Hr hH
  have xz := IHeap.get_lt x5
  have yz := IHeap.get_lt y5
  have bz := IHeap.get_lt b5
  have iz := IHeap.get_lt i5
  have qz := IHeap.get_lt q5
  refine FN.mono (write_c a hop) ?_
  rintro v1 h5 ⟨z5, o5, w5⟩
  have b6 : h5.get h.size = some (.row false 0 a.row) := by rw [o5 _ (by omega)]; exact b5
  cases hok : okOp a
  · obtain rfl : v1 = .tuple #[.slice none 0 0, .int .i64 5] := by
      rcases w5 with ⟨_, e⟩ | ⟨e, _⟩
      · exact e
      · rw [hok] at e; cases e
    simp (maxSteps := 1000000) (disch := first | (simp; done) | (simp only [IHeap.size_push', IHeap.size_set']; omega) | omega) [a0, a1, hn, hd, AR.val, b6, s21]
    refine FN.mono (rwrite_c a hop) ?_
    rintro v2 h6 ⟨z6, o6, w6⟩
    have b7 : h6.get h.size = some (.row false 0 a.row) := by rw [o6 _ (by omega)]; exact b6
    obtain rfl : v2 = .tuple #[.slice none 0 0, .int .i64 5] := by
      rcases w6 with ⟨_, e⟩ | ⟨e, _⟩
      · exact e
      · rw [hok] at e; cases e
    simp (maxSteps := 1000000) (disch := first | (simp; done) | (simp only [IHeap.size_push', IHeap.size_set']; omega) | omega) [a0, a1, hn, hd, AR.val, b7, s21]
    refine FN.mono (frame_c a hop) ?_
    rintro v3 h7 ⟨z7, o7, w7⟩
    have b8 : h7.get h.size = some (.row false 0 a.row) := by rw [o7 _ (by omega)]; exact b7
    obtain rfl : v3 = .tuple #[.slice none 0 0, .int .i64 5] := by
      rcases w7 with ⟨_, e⟩ | ⟨e, _⟩
      · exact e
      · rw [hok] at e; cases e
    simp (maxSteps := 1000000) (disch := first | (simp; done) | (simp only [IHeap.size_push', IHeap.size_set']; omega) | omega) [a0, a1, hn, hd, AR.val, b8, s21]
    refine FN.mono (rframe_c a hop) ?_
    rintro v4 h8 ⟨z8, o8, w8⟩
    obtain rfl : v4 = .tuple #[.slice none 0 0, .int .i64 5] := by
      rcases w8 with ⟨_, e⟩ | ⟨e, _⟩
      · exact e
      · rw [hok] at e; cases e
    have up : ∀ i, i < K.size → h8.get i = K.get i := fun i hi => by rw [o8 _ (by omega), o7 _ (by omega), o6 _ (by omega), o5 _ hi]
    have x9 : h8.get h3.size = some (.row false 0 m.row) := by rw [up _ xz]; exact x5
    have y9 : h8.get h4.size = some (.row false 0 m.row) := by rw [up _ yz]; exact y5
    have i9 : h8.get j2 = some (.row false 1 (bys l)) := by rw [up _ iz]; exact i5
    have q9 : h8.get 0 = some (.row true 0 (bys l)) := by rw [up _ qz]; exact q5
    have sn := strAny_nil (P := Try.prog) (h := h8) un33' un9' u8_5
    obtain ⟨ki, si⟩ := str_row (c := l.length) (l := l) rfl i9
    obtain ⟨kq, sq⟩ := str_arg (cap := cap) sA q9
    simp (maxSteps := 1000000) (disch := first | (simp; done) | (simp only [IHeap.size_push', IHeap.size_set']; omega) | omega) [a0, a1, hn, hd, undef, x9, y9, ms, e26, sn, si, sq, beqS]
    refine FN.of known_c ?_
    simp (maxSteps := 1000000) (disch := first | (simp; done) | (simp only [IHeap.size_push', IHeap.size_set']; omega) | omega) [hn, hd]
  · obtain ⟨r1, rfl, hr1, gr1⟩ : ∃ r, v1 = .tuple #[.slice (some ⟨r, 0, none⟩) 28 28, .int .i64 0] ∧ K.size ≤ r ∧ h5.get r = some (.row false 1 (bys a.wl)) := by
      rcases w5 with ⟨e, _⟩ | ⟨_, e⟩
      · rw [hok] at e; cases e
      · exact e
    have r1z := IHeap.get_lt gr1
    simp (maxSteps := 1000000) (disch := first | (simp; done) | (simp only [IHeap.size_push', IHeap.size_set']; omega) | omega) [a0, a1, hn, hd, AR.val, b6, s21]
    refine FN.mono (rwrite_c a hop) ?_
    rintro v2 h6 ⟨z6, o6, w6⟩
    have b7 : h6.get h.size = some (.row false 0 a.row) := by rw [o6 _ (by omega)]; exact b6
    obtain ⟨r2, rfl, hr2, gr2⟩ : ∃ r, v2 = .tuple #[.slice (some ⟨r, 0, none⟩) 28 28, .int .i64 0] ∧ h5.size ≤ r ∧ h6.get r = some (.row false 1 (bys a.wl)) := by
      rcases w6 with ⟨e, _⟩ | ⟨_, e⟩
      · rw [hok] at e; cases e
      · exact e
    have r2z := IHeap.get_lt gr2
    simp (maxSteps := 1000000) (disch := first | (simp; done) | (simp only [IHeap.size_push', IHeap.size_set']; omega) | omega) [a0, a1, hn, hd, AR.val, b7, s21]
    refine FN.mono (frame_c a hop) ?_
    rintro v3 h7 ⟨z7, o7, w7⟩
    have b8 : h7.get h.size = some (.row false 0 a.row) := by rw [o7 _ (by omega)]; exact b7
    obtain ⟨r3, rfl, hr3, gr3⟩ : ∃ r, v3 = .tuple #[.slice (some ⟨r, 0, none⟩) 42 42, .int .i64 0] ∧ h6.size ≤ r ∧ h7.get r = some (.row false 1 (bys (a.er.wl a.wl))) := by
      rcases w7 with ⟨e, _⟩ | ⟨_, e⟩
      · rw [hok] at e; cases e
      · exact e
    have r3z := IHeap.get_lt gr3
    simp (maxSteps := 1000000) (disch := first | (simp; done) | (simp only [IHeap.size_push', IHeap.size_set']; omega) | omega) [a0, a1, hn, hd, AR.val, b8, s21]
    refine FN.mono (rframe_c a hop) ?_
    rintro v4 h8 ⟨z8, o8, w8⟩
    obtain ⟨r4, rfl, hr4, gr4⟩ : ∃ r, v4 = .tuple #[.slice (some ⟨r, 0, none⟩) 42 42, .int .i64 0] ∧ h7.size ≤ r ∧ h8.get r = some (.row false 1 (bys (a.er.wl a.wl))) := by
      rcases w8 with ⟨e, _⟩ | ⟨_, e⟩
      · rw [hok] at e; cases e
      · exact e
    have up : ∀ i, i < K.size → h8.get i = K.get i := fun i hi => by rw [o8 _ (by omega), o7 _ (by omega), o6 _ (by omega), o5 _ hi]
    have x9 : h8.get h3.size = some (.row false 0 m.row) := by rw [up _ xz]; exact x5
    have y9 : h8.get h4.size = some (.row false 0 m.row) := by rw [up _ yz]; exact y5
    have i9 : h8.get j2 = some (.row false 1 (bys l)) := by rw [up _ iz]; exact i5
    have q9 : h8.get 0 = some (.row true 0 (bys l)) := by rw [up _ qz]; exact q5
    have w1 : h8.get r1 = some (.row false 1 (bys a.wl)) := by rw [o8 _ (by omega), o7 _ (by omega), o6 _ (by omega)]; exact gr1
    have w2 : h8.get r2 = some (.row false 1 (bys a.wl)) := by rw [o8 _ (by omega), o7 _ (by omega)]; exact gr2
    have w3 : h8.get r3 = some (.row false 1 (bys (a.er.wl a.wl))) := by rw [o8 _ (by omega)]; exact gr3
    obtain ⟨k1, s1⟩ := str_row (c := 28) l28 w1
    obtain ⟨k2, s2⟩ := str_row (c := 28) l28 w2
    obtain ⟨k3, s3⟩ := str_row (c := 42) l42 w3
    obtain ⟨k4, s4⟩ := str_row (c := 42) l42 gr4
    obtain ⟨ki, si⟩ := str_row (c := l.length) (l := l) rfl i9
    obtain ⟨kq, sq⟩ := str_arg (cap := cap) sA q9
    simp (maxSteps := 1000000) (disch := first | (simp; done) | (simp only [IHeap.size_push', IHeap.size_set']; omega) | omega) [a0, a1, hn, hd, undef, x9, y9, ms, e26, s1, s2, s3, s4, si, sq, beqS]
    refine FN.of known_c ?_
    simp (maxSteps := 1000000) (disch := first | (simp; done) | (simp only [IHeap.size_push', IHeap.size_set']; omega) | omega) [hn, hd]
end Go.Proofs.Yteokdllmandleaa.Ideal
