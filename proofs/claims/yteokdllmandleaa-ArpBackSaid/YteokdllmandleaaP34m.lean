import Derived.Test.YteokdllmandleaaP34l
import Derived.Test.YteokdllmandleaaSlice2
noncomputable section
open Go.Proofs
namespace Go.Proofs.Yteokdllmandleaa.Ideal
open Go.RowKit
set_option linter.unusedSimpArgs false
set_option linter.unusedVariables false
set_option linter.unusedSectionVars false
set_option maxRecDepth 100000
set_option maxHeartbeats 4000000
attribute [-simp] IHeap.size_set IHeap.size_push
attribute [local simp ↓] Hid.ap_mk
attribute [local simp] scopeQ_normal scopeQ_ret scopeQ_exit WP_skip WP_label WP_exit WP_goto WP_ret WP_region WP_seq WP_cond WP_block WP_scope WP_loop WP_range thenQ_normal thenQ_ret thenQ_exit thenQ_goto loopQ_normal loopQ_ret loopQ_exit invQ_normal invQ_ret invQ_exit outOf_normal outOf_ret outOf_goto outOf_exit ev_tmp ev_const ev_func
  wops_nil wops_cons wantedE_none wantedE_some jgd_some wnx_eq niC_false wdo_move wdo_assign wdo_pick wdo_load wdo_store wdo_alloc wdo_box wdo_fieldAddr wdo_indexAddr wdo_field wdo_extract wdo_build wdo_buildSlice wdo_makeSlice wdo_binOp wdo_unOp wdo_makeFunc wdo_nilCheck wdo_callV wdo_len wdo_append wdo_copy wdo_delete wdo_max wdo_min wdo_convert jcvt_int
  xput_get put_n put_none put_dfr ibin finQ_n finQ_r finD_nil splice_one ires_nil ires_one ires_two ires_three ires1_tmp ires1_cell jcell_ptr rowLoad_row wrap64 wrapU64 wrapU8 wrapU16 wrapU32 callV_fn buildOf Instr.fill Value.cells Value.oneCell' kindOf slots_all splice_all IHeap.size_set' IHeap.size_push' IHeap.get_set_same IHeap.get_set_ne IHeap.get_pushed IHeap.get_push_ne IHeap.set_set IHeap.set_push IHeap.set_pushed IHeap.set_set3 getU_nil getU_same getU_ne jif_true jif_false pushH_eq setH_eq forceL_eq forceV_eq ibuildSlice
attribute [local simp high] wdo_str33
attribute [local simp] wdo_index jopt_some wdo_cut33 wdo_all23 wdo_all24 arrAll wdo_toArr fb_known
attribute [-simp] Value.oneCell'
attribute [local simp] one_int' one_slc'
attribute [-simp] ze26 ze41
attribute [local simp] ze26' ze41'
/-- What is written is read. -/
theorem read_wl (a : AR) (hok : okOp a = true) (bs : List Nat) : readR (a.wl ++ bs) = (a, 0) := by
  have hor : a.op = 1 ∨ a.op = 2 := by simpa [okOp] using hok
  have h28 : 28 ≤ (a.wl ++ bs).length := by rw [List.length_append, a.wl_len]; omega
  obtain ⟨op, f, t, fi, i, h1, h2, h3, h4⟩ := a
  obtain ⟨a, b, c, e, g, k, rfl⟩ := len6 h1
  obtain ⟨a', b', c', e', g', k', rfl⟩ := len6 h2
  obtain ⟨x, y, z, w, rfl⟩ := len4 h3
  obtain ⟨x', y', z', w', rfl⟩ := len4 h4
  have c1 : sub (AR.wl ⟨op, [a, b, c, e, g, k], [a', b', c', e', g', k'], [x, y, z, w], [x', y', z', w'], h1, h2, h3, h4⟩ ++ bs) 0 6 = hd6 := rfl
  unfold readR
  rw [dif_pos h28, if_neg (by rw [c1]; simp), if_pos ⟨rfl, hor⟩]
  rfl
theorem bsl27 {h : IHeap} {i : List Nat} (h4 : i.length = 4) : ibuildSlice Try.prog h 27 1 [(0, .agg (bys i).toArray)] = some (.slice (some ⟨h.size, 0, none⟩) 1 1, h.push (.row false 4 (bys i)), .alloc) := by
  obtain ⟨x', y', z', w', rfl⟩ := len4 h4
  simp [bys, ibuildSlice, zeros]
theorem back_c {h : IHeap} {A : Option Addr} {l : List Nat} {cap : Nat} (a : AR) (hop : a.op < 65536) (hab : okOp a = true → ∀ b ∈ a.wl, b < 256) {own : List Nat} (ho : own.length = 6) (sA : SlArg 0 A l.length cap) (hb : ∀ b ∈ l, b < 256) (r0 : h.get 0 = some (.row true 0 (bys l))) :
    FN Try.prog 5 #[a.val, .agg (bys own).toArray, .slice A l.length cap] h (Q := ⟨fun v _ => v = .bool true⟩) := by
  refine FN.enter mixed (fn := Try.f5) (by kernel_rfl) rfl (by kernel_rfl) fun e hn hg hd => ?_
  simp [Try.f5] at hn
  have a0 : e.get 0 = a.val := hg 0 (by omega)
  have a1 : e.get 1 = .agg (bys own).toArray := hg 1 (by omega)
  have a2 : e.get 2 = .slice A l.length cap := hg 2 (by omega)
  clear hg
  have z0 := IHeap.get_lt r0
  have rl := a.row_len
  have s21 := a.s21
  have g0 := a.get0
  have g0' : ∀ hh, a.row[0]'hh = .int .u16 (a.op : Nat) := fun _ => rfl
  have bo := bys_len own
  rw [ho] at bo
  have l28 := a.wl_len
  obtain ⟨H, hH⟩ : ∃ H, (h.push (.row false 0 a.row)).push (.row false 0 (bys own)) = H := ⟨_, rfl⟩
  have Hz : H.size = h.size + 2 := by rw [← hH]; simp only [IHeap.size_push']
  have H0 : H.get h.size = some (.row false 0 a.row) := by rw [← hH]; simp (maxSteps := 1000000) (disch := first | (simp; done) | (simp only [IHeap.size_push', IHeap.size_set']; omega) | omega) []
  have H1 : H.get (h.size + 1) = some (.row false 0 (bys own)) := by rw [← hH]; simp (maxSteps := 1000000) (disch := first | (simp; done) | (simp only [IHeap.size_push', IHeap.size_set']; omega) | omega) []
  have Hr : H.get 0 = some (.row true 0 (bys l)) := by rw [← hH]; simp (maxSteps := 1000000) (disch := first | (simp; done) | (simp only [IHeap.size_push', IHeap.size_set']; omega) | omega) [r0]
  simp (maxSteps := 1000000) (disch := first | (simp; done) | (simp only [IHeap.size_push', IHeap.size_set']; omega) | omega) [a0, a1, a2, hn, hd, AR.val, a.row_one, bys_all, hH, H0, s21]
  refine FN.mono (write_c a hop) ?_
  rintro v1 h1 ⟨z1, o1, w1⟩
  have b1 : h1.get h.size = some (.row false 0 a.row) := by rw [o1 _ (by omega)]; exact H0
  cases hok : okOp a
  · obtain rfl : v1 = .tuple #[.slice none 0 0, .int .i64 5] := by
      rcases w1 with ⟨_, e⟩ | ⟨e, _⟩
      · exact e
      · rw [hok] at e; cases e
    have hno : ¬ (a.op = 1 ∨ a.op = 2) := by simpa [okOp] using hok
    by_cases c1 : (60 : Int) < l.length
    · simp (maxSteps := 1000000) (disch := first | (simp; done) | (simp only [IHeap.size_push', IHeap.size_set']; omega) | omega) [a0, a1, a2, hn, hd, undef, c1]
    · by_cases c2 : a.op < 1
      · have c2' : (a.op : Int) < 1 := by omega
        simp (maxSteps := 1000000) (disch := first | (simp; done) | (simp only [IHeap.size_push', IHeap.size_set']; omega) | omega) [a0, a1, a2, hn, hd, undef, c1, b1, g0, g0', rl, c2']
        refine FN.of known_c ?_
        simp (maxSteps := 1000000) (disch := first | (simp; done) | (simp only [IHeap.size_push', IHeap.size_set']; omega) | omega) [hn, hd, undef]
      · have c2' : ¬ (a.op : Int) < 1 := by omega
        have c3' : (2 : Int) < a.op := by omega
        simp (maxSteps := 1000000) (disch := first | (simp; done) | (simp only [IHeap.size_push', IHeap.size_set']; omega) | omega) [a0, a1, a2, hn, hd, undef, c1, b1, g0, g0', rl, c2', c3']
        refine FN.of known_c ?_
        simp (maxSteps := 1000000) (disch := first | (simp; done) | (simp only [IHeap.size_push', IHeap.size_set']; omega) | omega) [hn, hd, undef]
  · obtain ⟨r1, rfl, hr1, gr1⟩ : ∃ r, v1 = .tuple #[.slice (some ⟨r, 0, none⟩) 28 28, .int .i64 0] ∧ H.size ≤ r ∧ h1.get r = some (.row false 1 (bys a.wl)) := by
      rcases w1 with ⟨e, _⟩ | ⟨_, e⟩
      · rw [hok] at e; cases e
      · exact e
    have r1z := IHeap.get_lt gr1
    by_cases c1 : (60 : Int) < l.length
    · simp (maxSteps := 1000000) (disch := first | (simp; done) | (simp only [IHeap.size_push', IHeap.size_set']; omega) | omega) [a0, a1, a2, hn, hd, undef, c1]
    · have c1' : l.length ≤ 60 := by omega
      have q1 : h1.get 0 = some (.row true 0 (bys l)) := by rw [o1 _ (by omega)]; exact Hr
      have w1' : h1.get (h.size + 1) = some (.row false 0 (bys own)) := by rw [o1 _ (by omega)]; exact H1
      obtain ⟨h2, j2, ap2, r2, k2, z2, f2⟩ := app33 (h := h1.push (.row false 1 (bys []))) (i := h1.size) (n := 0) (m := 28) (cs := []) (news := a.wl) (x := .slice (some ⟨r1, 0, none⟩) 28 28) (src33 (by rw [IHeap.get_push_ne _ (by omega)]; exact gr1) (slots_full _ (by rw [bys_len, l28])) (by rw [bys_len, l28])) l28 (IHeap.get_pushed _ rfl) rfl (by omega)
      simp only [IHeap.size_push', Nat.zero_add, List.nil_append] at ap2 r2 k2 z2 f2
      have old2 : ∀ i, i < h1.size → h2.get i = h1.get i := fun i hi => by rw [k2 i (by omega) (by omega), IHeap.get_push_ne _ (by omega)]
      obtain ⟨h3, j3, ap3, r3, k3, z3, f3⟩ := app33 (h := h2) (i := j2) (n := 28) (m := l.length) (cs := a.wl) (news := l) (x := .slice A l.length cap) (src_arg sA (by rw [old2 _ (by omega)]; exact q1)) rfl r2 l28 (by omega)
      have old3 : ∀ i, i < h1.size → h3.get i = h1.get i := fun i hi => by rw [k3 i (by omega) (by omega), old2 i hi]
      have ez : zeros #[Value.int .u8 0] 0 = bys [] := rfl
      simp (maxSteps := 1000000) (disch := first | (simp; done) | (simp only [IHeap.size_push', IHeap.size_set']; omega) | omega) [a0, a1, a2, hn, hd, undef, c1, ez, ap2, ap3]
      have ll : 28 + l.length = (a.wl ++ l).length := by rw [List.length_append, l28]
      rw [ll]
      refine FN.mono (read_c (A := some ⟨j3, 0, none⟩) (l := a.wl ++ l) (c := (a.wl ++ l).length) (fun b hb' => by
        rcases List.mem_append.1 hb' with hb' | hb'
        · exact hab hok b hb'
        · exact hb b hb') (Nat.le_refl _) (fun _ => ⟨j3, false, 1, rfl, r3, .inr rfl⟩)) ?_
      rintro _ h4 ⟨rfl, z4, o4⟩
      rw [read_wl a hok l]
      have old4 : ∀ i, i < h1.size → h4.get i = h1.get i := fun i hi => by rw [o4 i (by omega), old3 i hi]
      have az : splice zAR.row 0 a.row = a.row := splice_all (by rw [rl]; rfl)
      have zl := zAR.row_len
      obtain ⟨K, hK⟩ : ∃ K, h4.push (.row false 0 a.row) = K := ⟨_, rfl⟩
      have Kz : K.size = h4.size + 1 := by rw [← hK]; exact IHeap.size_push' _ _
      have Kx : K.get h4.size = some (.row false 0 a.row) := by rw [← hK]; exact IHeap.get_pushed _ rfl
      have oK : ∀ i, i < h1.size → K.get i = h1.get i := fun i hi => by rw [← hK, IHeap.get_push_ne _ (by omega), old4 i hi]
      have Kb : K.get h.size = some (.row false 0 a.row) := by rw [oK _ (by omega)]; exact b1
      simp (maxSteps := 1000000) (disch := first | (simp; done) | (simp only [IHeap.size_push', IHeap.size_set']; omega) | omega) [a0, a1, a2, hn, hd, AR.val, rl, a.row_one, az, zl, hK, Kb, s21]
      refine FN.mono (frame_c a hop) ?_
      rintro v5 h5 ⟨z5, o5, w5⟩
      obtain ⟨r5, rfl, hr5, gr5⟩ : ∃ r, v5 = .tuple #[.slice (some ⟨r, 0, none⟩) 42 42, .int .i64 0] ∧ K.size ≤ r ∧ h5.get r = some (.row false 1 (bys (a.er.wl a.wl))) := by
        rcases w5 with ⟨e, _⟩ | ⟨_, e⟩
        · rw [hok] at e; cases e
        · exact e
      have l42 : (a.er.wl a.wl).length = 42 := by simp [ER.wl, a.er.l1, a.er.l2, l28]
      simp (maxSteps := 1000000) (disch := first | (simp; done) | (simp only [IHeap.size_push', IHeap.size_set']; omega) | omega) [a0, a1, a2, hn, hd]
      refine FN.mono (eread_c a.er (l := a.wl) l42 (by omega) gr5) ?_
      rintro _ h6 ⟨q, rfl, gq, z6, o6⟩
      have el := a.er.row_len
      have eo := a.er.row_one
      have ez13 : splice Z13 0 a.er.row = a.er.row := splice_all (by rw [el]; rfl)
      have zl13 : Z13.length = 13 := rfl
      obtain ⟨M, hM⟩ : ∃ M, h6.push (.row false 0 a.er.row) = M := ⟨_, rfl⟩
      have Mz : M.size = h6.size + 1 := by rw [← hM]; exact IHeap.size_push' _ _
      have Me : M.get h6.size = some (.row false 0 a.er.row) := by rw [← hM]; exact IHeap.get_pushed _ rfl
      have oM : ∀ i, i < h6.size → M.get i = h6.get i := fun i hi => by rw [← hM]; exact IHeap.get_push_ne _ (by omega)
      have upK : ∀ i, i < K.size → M.get i = K.get i := fun i hi => by rw [oM i (by omega), o6 i (by omega), o5 i hi]
      have Mb : M.get h.size = some (.row false 0 a.row) := by rw [upK _ (by omega)]; exact Kb
      have Mx : M.get h4.size = some (.row false 0 a.row) := by rw [upK _ (by omega)]; exact Kx
      have Mr : M.get r1 = some (.row false 1 (bys a.wl)) := by rw [upK _ (by omega), oK _ r1z]; exact gr1
      have Mw : M.get (h.size + 1) = some (.row false 0 (bys own)) := by rw [upK _ (by omega), oK _ (by omega)]; exact w1'
      have Mq : M.get q = some (.row false 1 (bys a.wl)) := by rw [oM _ (IHeap.get_lt gq)]; exact gq
      have e26 := eq26 a
      simp only [AR.val] at e26
      have g12 := a.er.get12
      have g12' : ∀ hh, a.er.row[12]'hh = .int .u16 2054 := fun hh => by rw [List.getElem?_eq_getElem hh] at g12; injection g12
      have ess := a.er.ssrc
      rw [show a.er.src = a.fr from rfl] at ess
      have e23 := eq23 a.l1 a.l1
      obtain ⟨kr, sr⟩ := str_row (c := 28) l28 Mr
      obtain ⟨kq, sq⟩ := str_row (c := 28) l28 Mq
      have so : slots (bys own) 0 6 = some (bys own) := slots_full _ (by rw [bo])
      have bs27 := bsl27 (h := M) a.l4
      rw [show 42 - 14 = 28 from rfl]
      simp (maxSteps := 1000000) (disch := first | (simp; done) | (simp only [IHeap.size_push', IHeap.size_set']; omega) | omega) [-ibuildSlice, a0, a1, a2, hn, hd, ER.val, el, eo, ez13, zl13, hM, Me, Mb, Mx, Mw, s21, e26, g12, g12', ess, a.sfr, e23, sr, sq, beqS, undef, so, a.sip, bs27]
      have an := answer_c (h := M.push (.row false 4 (bys a.ip))) (r := M.size) a ho (IHeap.get_pushed _ rfl)
      simp only [AR.val] at an
      refine FN.mono an ?_
      rintro _ h7 ⟨rfl, z7, o7⟩
      rw [IHeap.size_push'] at z7 o7
      obtain ⟨R, hR⟩ : ∃ R, ansR a own ho = R := ⟨_, rfl⟩
      have Rl := R.row_len
      have Ro := R.row_one
      have Rz : splice zAR.row 0 R.row = R.row := splice_all (by rw [Rl]; rfl)
      have b7 : h7.get h.size = some (.row false 0 a.row) := by rw [o7 _ (by omega), IHeap.get_push_ne _ (by omega)]; exact Mb
      have w7 : h7.get (h.size + 1) = some (.row false 0 (bys own)) := by rw [o7 _ (by omega), IHeap.get_push_ne _ (by omega)]; exact Mw
      have x7 : (h7.push (.row false 0 R.row)).get h.size = some (.row false 0 a.row) := by rw [IHeap.get_push_ne _ (by omega)]; exact b7
      have y7 : (h7.push (.row false 0 R.row)).get (h.size + 1) = some (.row false 0 (bys own)) := by rw [IHeap.get_push_ne _ (by omega)]; exact w7
      have e7 : (h7.push (.row false 0 R.row)).get h7.size = some (.row false 0 R.row) := IHeap.get_pushed _ rfl
      rw [hR]
      cases hB : ansB a
      · have hc : ¬ a.op = 1 ∨ a.ip = a.fip := by
          simp [ansB] at hB
          by_cases c : a.op = 1
          · exact .inr (hB c)
          · exact .inl c
        by_cases c2 : a.op = 2
        · have c2' : ((a.op : Int) = 2) = True := eq_true (by omega)
          simp (maxSteps := 1000000) (disch := first | (simp; done) | (simp only [IHeap.size_push', IHeap.size_set']; omega) | omega) [AR.val, a0, a1, a2, hn, hd, Rl, Ro, Rz, zl, x7, g0, g0', rl, c2', undef]
          refine FN.of known_c ?_
          simp (maxSteps := 1000000) (disch := first | (simp; done) | (simp only [IHeap.size_push', IHeap.size_set']; omega) | omega) [hn, hd]
        · have c2' : ¬ (a.op : Int) = 2 := by omega
          have hop1 : a.op = 1 := by
            have : a.op = 1 ∨ a.op = 2 := by simpa [okOp] using hok
            omega
          have hip : a.ip = a.fip := hc.resolve_left (fun h => h hop1)
          have e24 := eq24 a.l4 a.l3
          have ed : decide (a.ip = a.fip) = true := by simp [hip]
          rw [ed] at e24
          simp (maxSteps := 1000000) (disch := first | (simp; done) | (simp only [IHeap.size_push', IHeap.size_set']; omega) | omega) [AR.val, a0, a1, a2, hn, hd, Rl, Ro, Rz, zl, x7, g0, g0', rl, c2', undef, a.sip, a.sfip, e24]
          refine FN.of known_c ?_
          simp (maxSteps := 1000000) (disch := first | (simp; done) | (simp only [IHeap.size_push', IHeap.size_set']; omega) | omega) [hn, hd]
      · have hRe : R = repl a own ho := by rw [← hR]; simp [ansR, hB]
        have t1 := R.sto
        have t2 := R.sip
        have t3 := R.sfip
        have t4 := R.sfr
        rw [show R.to = a.fr by rw [hRe]; rfl] at t1
        rw [show R.ip = a.fip by rw [hRe]; rfl] at t2
        rw [show R.fip = a.ip by rw [hRe]; rfl] at t3
        rw [show R.fr = own by rw [hRe]; rfl] at t4
        have e1 := eq23 a.l1 a.l1
        have e2 := eq24 a.l3 a.l3
        have e3 := eq24 a.l4 a.l4
        have e4 := eq23 ho ho
        simp (maxSteps := 1000000) (disch := first | (simp; done) | (simp only [IHeap.size_push', IHeap.size_set']; omega) | omega) [AR.val, a0, a1, a2, hn, hd, Rl, Ro, Rz, zl, x7, y7, e7, t1, t2, t3, t4, e1, e2, e3, e4, a.sfr, a.sfip, a.sip, so, undef]
        refine FN.of known_c ?_
        simp (maxSteps := 1000000) (disch := first | (simp; done) | (simp only [IHeap.size_push', IHeap.size_set']; omega) | omega) [hn, hd]
end Go.Proofs.Yteokdllmandleaa.Ideal
