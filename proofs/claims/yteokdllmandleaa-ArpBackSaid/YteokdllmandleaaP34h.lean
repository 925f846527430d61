import Derived.Test.YteokdllmandleaaP34g
noncomputable section
open Go.Proofs
namespace Go.Proofs.Yteokdllmandleaa.Ideal
open Go.RowKit
set_option linter.unusedSimpArgs false
set_option linter.unusedVariables false
set_option linter.unusedSectionVars false
set_option maxRecDepth 100000
set_option maxHeartbeats 4000000
attribute [-simp] IHeap.size_set IHeap.size_push
attribute [local simp ↓] Hid.ap_mk
attribute [local simp] scopeQ_normal scopeQ_ret scopeQ_exit WP_skip WP_label WP_exit WP_goto WP_ret WP_region WP_seq WP_cond WP_block WP_scope WP_loop WP_range thenQ_normal thenQ_ret thenQ_exit thenQ_goto loopQ_normal loopQ_ret loopQ_exit invQ_normal invQ_ret invQ_exit outOf_normal outOf_ret outOf_goto outOf_exit ev_tmp ev_const ev_func
  wops_nil wops_cons wantedE_none wantedE_some jgd_some wnx_eq niC_false wdo_move wdo_assign wdo_pick wdo_load wdo_store wdo_alloc wdo_box wdo_fieldAddr wdo_indexAddr wdo_field wdo_extract wdo_build wdo_buildSlice wdo_makeSlice wdo_binOp wdo_unOp wdo_makeFunc wdo_nilCheck wdo_callV wdo_len wdo_append wdo_copy wdo_delete wdo_max wdo_min wdo_convert jcvt_int
  xput_get put_n put_none put_dfr ibin finQ_n finQ_r finD_nil splice_one ires_nil ires_one ires_two ires_three ires1_tmp ires1_cell jcell_ptr rowLoad_row wrap64 wrapU64 wrapU8 wrapU16 wrapU32 callV_fn buildOf Instr.fill Value.cells Value.oneCell' kindOf slots_all splice_all IHeap.size_set' IHeap.size_push' IHeap.get_set_same IHeap.get_set_ne IHeap.get_pushed IHeap.get_push_ne IHeap.set_set IHeap.set_push IHeap.set_pushed IHeap.set_set3 getU_nil getU_same getU_ne jif_true jif_false pushH_eq setH_eq forceL_eq forceV_eq ibuildSlice
attribute [local simp] wdo_index jopt_some wdo_cut33 wdo_all23 wdo_all24 arrAll wdo_toArr
attribute [-simp] Value.oneCell'
attribute [local simp] one_int' one_slc'
attribute [-simp] ze26
attribute [local simp] ze26'
/-- A message's cells, of any lists. -/
def arow (op : Nat) (f t fi i : List Nat) : List Value := Value.int .u16 (op : Nat) :: bys (f ++ (t ++ (fi ++ i)))
theorem arow_len {op : Nat} {f t fi i : List Nat} (h1 : f.length = 6) (h2 : t.length = 6) (h3 : fi.length = 4) (h4 : i.length = 4) : (arow op f t fi i).length = 21 := by simp [arow, bys_len, h1, h2, h3, h4]
theorem arow_one (op : Nat) (f t fi i : List Nat) : (arow op f t fi i).all (·.oneCell') = true := by
  unfold arow
  rw [List.all_cons, bys_all]
  rfl
theorem arow_set {op : Nat} {f t fi i : List Nat} {j x : Nat} (h : j < (f ++ (t ++ (fi ++ i))).length) : splice (arow op f t fi i) (1 + j) [.int .u8 x] = Value.int .u16 (op : Nat) :: bys ((f ++ (t ++ (fi ++ i))).set j x) := by
  unfold arow
  rw [splice_one _ (by simp only [List.length_cons, bys_len]; omega), show 1 + j = j + 1 by omega, List.set_cons_succ]
  simp [bys, List.map_set]
theorem arow_f {op : Nat} {f t fi i : List Nat} {j x : Nat} (h : j < f.length) : splice (arow op f t fi i) (1 + j) [.int .u8 x] = arow op (f.set j x) t fi i := by
  rw [arow_set (by rw [List.length_append]; omega), List.set_append_left _ _ h]
  rfl
theorem arow_t {op : Nat} {f t fi i : List Nat} {j x : Nat} (h1 : f.length = 6) (h : j < t.length) : splice (arow op f t fi i) (7 + j) [.int .u8 x] = arow op f (t.set j x) fi i := by
  rw [show 7 + j = 1 + (6 + j) by omega, arow_set (by simp only [List.length_append]; omega), List.set_append_right _ _ (by omega), h1, show 6 + j - 6 = j by omega, List.set_append_left _ _ h]
  rfl
theorem arow_fi {op : Nat} {f t fi i : List Nat} {j x : Nat} (h1 : f.length = 6) (h2 : t.length = 6) (h : j < fi.length) : splice (arow op f t fi i) (13 + j) [.int .u8 x] = arow op f t (fi.set j x) i := by
  rw [show 13 + j = 1 + (12 + j) by omega, arow_set (by simp only [List.length_append]; omega), List.set_append_right _ _ (by omega), List.set_append_right _ _ (by omega), h1, h2, show 12 + j - 6 - 6 = j by omega, List.set_append_left _ _ h]
  rfl
theorem arow_i {op : Nat} {f t fi i : List Nat} {j x : Nat} (h1 : f.length = 6) (h2 : t.length = 6) (h3 : fi.length = 4) (h : j < i.length) : splice (arow op f t fi i) (17 + j) [.int .u8 x] = arow op f t fi (i.set j x) := by
  rw [show 17 + j = 1 + (16 + j) by omega, arow_set (by simp only [List.length_append]; omega), List.set_append_right _ _ (by omega), List.set_append_right _ _ (by omega), List.set_append_right _ _ (by omega), h1, h2, h3, show 16 + j - 6 - 6 - 4 = j by omega]
  rfl
theorem bld26a (op : Nat) : buildOf Try.prog 26 [(0, .int .u16 op)] = some (.agg (arow op [0, 0, 0, 0, 0, 0] [0, 0, 0, 0, 0, 0] [0, 0, 0, 0] [0, 0, 0, 0]).toArray) := by
  kernel_rfl
theorem bld26z : buildOf Try.prog 26 [] = some (.agg zAR.row.toArray) := by
  kernel_rfl
theorem sub_at {l : List Nat} {o k j : Nat} (h : o + k ≤ l.length) (hj : j < k) : (sub l o k)[j]'(by rw [sub_len h]; exact hj) = l[o + j]'(by omega) := by
  simp [sub]
theorem rread_c {h : IHeap} {A : Option Addr} {l : List Nat} {c : Nat} (hb : ∀ b ∈ l, b < 256) (hA : 28 ≤ l.length → ∃ p ro z, A = some ⟨p, 0, none⟩ ∧ h.get p = some (.row ro z (bys l))) :
    FN Try.prog 11 #[.slice A l.length c] h (Q := ⟨fun v h' => RdV h l v h'⟩) := by
  refine FN.enter mixed (fn := Try.f11) (by kernel_rfl) rfl (by kernel_rfl) fun e hn hg hd => ?_
  simp [Try.f11] at hn
  have a0 : e.get 0 = .slice A l.length c := hg 0 (by omega)
  clear hg
  have zs := zAR.s21
  have zl := zAR.row_len
  have zo := zAR.row_one
  have spz : splice zAR.row 0 zAR.row = zAR.row := splice_all rfl
  by_cases h28 : 28 ≤ l.length
  · obtain ⟨p, ro, z, rfl, gp⟩ := hA h28
    have pz := IHeap.get_lt gp
    have c1 : ¬ (l.length : Int) < 28 := by omega
    have hr : readR l = (if sub l 0 6 ≠ hd6 then (zAR, 10) else if l.getD 6 0 = 0 ∧ (l.getD 7 0 = 1 ∨ l.getD 7 0 = 2) then (arOf l h28, 0) else (zAR, 5)) := by
      unfold readR
      rw [dif_pos h28]
    have bl := bys_len l
    have er : [Value.int .u8 0, .int .u8 1, .int .u8 8, .int .u8 0, .int .u8 6, .int .u8 4] = bys hd6 := rfl
    simp (maxSteps := 1000000) (disch := first | (simp; done) | (simp only [IHeap.size_push', IHeap.size_set']; omega) | omega) [-buildOf, a0, hn, hd, c1, bld26z, zl, zo, spz, zeros]
    rw [er]
    obtain ⟨H, hH⟩ : ∃ H, ((h.push (.row false 0 zAR.row)).push (.row false 0 zAR.row)).push (.row false 1 (bys hd6)) = H := ⟨_, rfl⟩
    rw [hH]
    have Hz : H.size = h.size + 3 := by rw [← hH]; simp only [IHeap.size_push']
    have H0 : H.get h.size = some (.row false 0 zAR.row) := by rw [← hH]; simp (maxSteps := 1000000) (disch := first | (simp; done) | (simp only [IHeap.size_push', IHeap.size_set']; omega) | omega) []
    have H1 : H.get (h.size + 1) = some (.row false 0 zAR.row) := by rw [← hH]; simp (maxSteps := 1000000) (disch := first | (simp; done) | (simp only [IHeap.size_push', IHeap.size_set']; omega) | omega) []
    have H2 : H.get (h.size + 1 + 1) = some (.row false 1 (bys hd6)) := by rw [← hH]; simp (maxSteps := 1000000) (disch := first | (simp; done) | (simp only [IHeap.size_push', IHeap.size_set']; omega) | omega) []
    have Hp : H.get p = some (.row ro z (bys l)) := by rw [← hH]; simp (maxSteps := 1000000) (disch := first | (simp; done) | (simp only [IHeap.size_push', IHeap.size_set']; omega) | omega) [gp]
    have Ho : ∀ i, i < h.size → H.get i = h.get i := fun i hi => by rw [← hH]; simp (maxSteps := 1000000) (disch := first | (simp; done) | (simp only [IHeap.size_push', IHeap.size_set']; omega) | omega) []
    clear hH
    refine WPL.by_inv mixed (by kernel_rfl) (fun y e h' => ∃ j : Nat, j + y = 6 ∧ e.n = 93 ∧ e.dfr = [] ∧ e.get 0 = .slice (some ⟨p, 0, none⟩) l.length c ∧ e.get 2 = .pointer (some ⟨h.size, 0, none⟩) ∧ e.get 4 = .pointer (some ⟨h.size + 1, 0, none⟩) ∧ e.get 5 = .slice (some ⟨h.size + 1 + 1, 0, none⟩) 6 6 ∧ e.get 6 = .int .i64 j ∧ h' = H ∧ (sub l 0 6).take j = hd6.take j) 6 ?_ ?_
    · refine ⟨0, ?_⟩
      simp (maxSteps := 1000000) (disch := first | (simp; done) | (simp only [IHeap.size_push', IHeap.size_set']; omega) | omega) [a0, hn, hd]
    clear hn hd a0 e
    rintro y e h1 ⟨j, hj, hn, hd, e0, e2, e4, e5, e6, hh, tk⟩
    subst hh
    cases y with
    | succ y =>
      have hlt : j < 6 := by omega
      have hlt2 : (j : Int) < 6 := by omega
      have jl : j < l.length := by omega
      have j6 : j < hd6.length := hlt
      have gl := bys_at jl
      have gh := bys_at j6
      have gl' : ∀ hh, (bys l)[j]'hh = .int .u8 (l[j] : Nat) := fun hh => by rw [List.getElem?_eq_getElem hh] at gl; injection gl
      have sl6 : (sub l 0 6).length = 6 := sub_len' l 0 6 h28 (by omega)
      have sj : (sub l 0 6)[j]'(by omega) = l[j] := by simp [sub]
      have hl6 : (bys hd6).length = 6 := rfl
      have tk1 : l[j] = hd6[j] → (sub l 0 6).take (j + 1) = hd6.take (j + 1) := fun e => by
        rw [List.take_succ_eq_append_getElem (by omega), List.take_succ_eq_append_getElem j6, tk, sj, e]
      have hne : l[j] ≠ hd6[j] → sub l 0 6 ≠ hd6 := fun e h => e (by rw [← sj]; simp only [h])
      obtain ⟨lv, hlv⟩ : ∃ v, l[j] = v := ⟨_, rfl⟩
      obtain ⟨hv, hhv⟩ : ∃ v, hd6[j] = v := ⟨_, rfl⟩
      rw [hlv] at gl gl' tk1 hne
      rw [hhv] at gh tk1 hne
      have gh' : ∀ hh, (bys hd6)[j]'hh = .int .u8 (hv : Nat) := fun hh => by rw [List.getElem?_eq_getElem hh] at gh; injection gh
      by_cases e : lv = hv
      · have e' : (lv : Int) = hv := by rw [e]
        simp (maxSteps := 1000000) (disch := first | (simp; done) | (simp only [IHeap.size_push', IHeap.size_set']; omega) | omega) [e0, e2, e4, e5, e6, hn, hd, hlt, hlt2, jl, Hp, H2, gl, gl', gh, gh', bl, hl6, e', wrap64, show (j : Int) < l.length by omega]
        exact ⟨niC_pend [] (by kernel_rfl) trivial, y, by omega, j + 1, by omega, by omega, tk1 e⟩
      · have e' : ¬ (lv : Int) = hv := by omega
        have hne := hne e
        simp (maxSteps := 1000000) (disch := first | (simp; done) | (simp only [IHeap.size_push', IHeap.size_set']; omega) | omega) [e0, e2, e4, e5, e6, hn, hd, hlt, hlt2, jl, Hp, H2, H0, H1, gl, gl', gh, gh', bl, hl6, e', zs, zl, zo, spz, show (j : Int) < l.length by omega]
        have hr2 : readR l = (zAR, 10) := by rw [hr, if_pos hne]
        refine ⟨niC_pend [] (by kernel_rfl) trivial, by rw [hr2]; rfl, by rw [IHeap.size_set]; omega, fun i hi => ?_⟩
        rw [IHeap.get_set_ne _ (by omega), Ho i hi]
    | zero =>
      obtain rfl : j = 6 := by omega
      have c2 : sub l 0 6 = hd6 := by
        rw [List.take_of_length_le (by rw [sub_len' l 0 6 h28 (by omega)]; omega)] at tk
        exact tk
      have b6l : 6 < l.length := by omega
      have b7l : 7 < l.length := by omega
      have g6 := bys_at b6l
      have g7 := bys_at b7l
      have q6 : l.getD 6 0 = l[6] := by simp [b6l]
      have q7 : l.getD 7 0 = l[7] := by simp [b7l]
      have x6 := hb _ (List.getElem_mem b6l)
      have x7 := hb _ (List.getElem_mem b7l)
      have hr1 : readR l = (if l.getD 6 0 = 0 ∧ (l.getD 7 0 = 1 ∨ l.getD 7 0 = 2) then (arOf l h28, 0) else (zAR, 5)) := by
        rw [hr, if_neg (by simpa using c2)]
      have ea : arOf l h28 = ⟨l[7], sub l 8 6, sub l 18 6, sub l 14 4, sub l 24 4, sub_len' l 8 6 h28 (by omega), sub_len' l 18 6 h28 (by omega), sub_len' l 14 4 h28 (by omega), sub_len' l 24 4 h28 (by omega)⟩ := by unfold arOf; simp only [q7]
      rw [q6, q7] at hr1
      obtain ⟨u, hu⟩ : ∃ u, l[6] = u := ⟨_, rfl⟩
      obtain ⟨v, hv⟩ : ∃ v, l[7] = v := ⟨_, rfl⟩
      rw [hu] at g6 hr1 x6
      rw [hv] at g7 hr1 x7 ea
      have g6' : ∀ hh, (bys l)[6]'hh = .int .u8 (u : Nat) := fun hh => by rw [List.getElem?_eq_getElem hh] at g6; injection g6
      have g7' : ∀ hh, (bys l)[7]'hh = .int .u8 (v : Nat) := fun hh => by rw [List.getElem?_eq_getElem hh] at g7; injection g7
      have i6 : (6 : Int) < l.length := by omega
      have i7 : (7 : Int) < l.length := by omega
      by_cases d6 : u = 0
      · by_cases d7 : v = 1 ∨ v = 2
        · have hr2 : readR l = (arOf l h28, 0) := by rw [hr1, if_pos ⟨d6, d7⟩]
          have e1' : (u : Int) = 0 := by omega
          have bld := bld26a v
          have a21 := arow_len (op := v) (f := [0, 0, 0, 0, 0, 0]) (t := [0, 0, 0, 0, 0, 0]) (fi := [0, 0, 0, 0]) (i := [0, 0, 0, 0]) rfl rfl rfl rfl
          have a1 := arow_one v [0, 0, 0, 0, 0, 0] [0, 0, 0, 0, 0, 0] [0, 0, 0, 0] [0, 0, 0, 0]
          have spA : splice zAR.row 0 (arow v [0, 0, 0, 0, 0, 0] [0, 0, 0, 0, 0, 0] [0, 0, 0, 0] [0, 0, 0, 0]) = arow v [0, 0, 0, 0, 0, 0] [0, 0, 0, 0, 0, 0] [0, 0, 0, 0] [0, 0, 0, 0] := splice_all (by rw [zl, a21])
          have w7 : IntKind.u16.wrap (v : Int) = v := wrapU16 (by omega) (by omega)
          by_cases f1 : v = 1
          case' pos =>
            have f1' : (v : Int) = 1 := by omega
            have f1'' : ((v : Int) = 1) = True := eq_true f1'
            simp (maxSteps := 1000000) (disch := first | (simp; done) | (simp only [IHeap.size_push', IHeap.size_set']; omega) | omega) [-buildOf, -Instr.fill, e0, e2, e4, e5, e6, hn, hd, undef, Hp, g6, g6', g7, g7', bl, b6l, b7l, i6, i7, e1', f1'', w7, bld, a21, a1, spA, zl]
          case' neg =>
            have f1' : ¬ (v : Int) = 1 := by omega
            have f2' : (v : Int) = 2 := by omega
            have f2'' : ((v : Int) = 2) = True := eq_true f2'
            simp (maxSteps := 1000000) (disch := first | (simp; done) | (simp only [IHeap.size_push', IHeap.size_set']; omega) | omega) [-buildOf, -Instr.fill, e0, e2, e4, e5, e6, hn, hd, undef, Hp, g6, g6', g7, g7', bl, b6l, b7l, i6, i7, e1', f1', f2'', w7, bld, a21, a1, spA, zl]
          all_goals
            obtain ⟨F, hF⟩ : ∃ F, sub l 8 6 = F := ⟨_, rfl⟩
            obtain ⟨T, hT⟩ : ∃ F, sub l 18 6 = F := ⟨_, rfl⟩
            obtain ⟨Y, hY⟩ : ∃ F, sub l 14 4 = F := ⟨_, rfl⟩
            obtain ⟨Z, hZ⟩ : ∃ F, sub l 24 4 = F := ⟨_, rfl⟩
            have Fl : F.length = 6 := by rw [← hF]; exact sub_len' l 8 6 h28 (by omega)
            have Tl : T.length = 6 := by rw [← hT]; exact sub_len' l 18 6 h28 (by omega)
            have Yl : Y.length = 4 := by rw [← hY]; exact sub_len' l 14 4 h28 (by omega)
            have Zl : Z.length = 4 := by rw [← hZ]; exact sub_len' l 24 4 h28 (by omega)
            have st0 : arow v [0, 0, 0, 0, 0, 0] [0, 0, 0, 0, 0, 0] [0, 0, 0, 0] [0, 0, 0, 0] = arow v (fillT [] F 0 []) (fillT [] T 0 []) [0, 0, 0, 0] [0, 0, 0, 0] := by
              unfold fillT
              rw [Fl, Tl]
              rfl
            rw [st0]
            refine WPL.by_inv mixed (by kernel_rfl) (fun y e h' => ∃ j : Nat, j + y = 6 ∧ e.n = 93 ∧ e.dfr = [] ∧ e.get 0 = .slice (some ⟨p, 0, none⟩) l.length c ∧ e.get 2 = .pointer (some ⟨h.size, 0, none⟩) ∧ e.get 7 = .pointer (some ⟨h1.size, 0, none⟩) ∧ e.get 8 = .int .i64 j ∧ h'.size = h1.size + 1 ∧ (∀ i, i < h1.size → h'.get i = h1.get i) ∧ h'.get h1.size = some (.row false 0 (arow v (fillT [] F j []) (fillT [] T j []) [0, 0, 0, 0] [0, 0, 0, 0]))) 6 ?_ ?_
            · refine ⟨0, ?_⟩
              simp (maxSteps := 1000000) (disch := first | (simp; done) | (simp only [IHeap.size_push', IHeap.size_set']; omega) | omega) [e0, e2, e4, e5, e6, hn, hd]
              exact fun i hi => IHeap.get_push_ne _ (by omega)
            clear hn hd e0 e2 e4 e5 e6
            rintro y e h2 ⟨j, hj, hn, hd, e0, e2, e7, e8, z2, o2, g2⟩
            have p2 : h2.get p = some (.row ro z (bys l)) := by rw [o2 p (by omega)]; exact Hp
            cases y with
            | succ y =>
              have hlt : j < 6 := by omega
              have hlt2 : (j : Int) < 6 := by omega
              obtain ⟨w1, hw1⟩ : ∃ w, 8 + j = w := ⟨_, rfl⟩
              obtain ⟨w2, hw2⟩ : ∃ w, 18 + j = w := ⟨_, rfl⟩
              have cw1 : (8 : Int) + j = w1 := by omega
              have cw2 : (18 : Int) + j = w2 := by omega
              have r1 : w1 < l.length := by omega
              have r2 : w2 < l.length := by omega
              have a1 := bys_at r1
              have a2 := bys_at r2
              have a1' : ∀ hh, (bys l)[w1]'hh = .int .u8 (l[w1] : Nat) := fun hh => by rw [List.getElem?_eq_getElem hh] at a1; injection a1
              have a2' : ∀ hh, (bys l)[w2]'hh = .int .u8 (l[w2] : Nat) := fun hh => by rw [List.getElem?_eq_getElem hh] at a2; injection a2
              have jF : j < F.length := by omega
              have jT : j < T.length := by omega
              have eF : F[j] = l[w1] := by simp only [← hF, ← hw1]; exact sub_at (by omega) hlt
              have eT : T[j] = l[w2] := by simp only [← hT, ← hw2]; exact sub_at (by omega) hlt
              have sF := fillT_set (b := []) (x := F) (rest := []) (n := 0) rfl jF
              have sT := fillT_set (b := []) (x := T) (rest := []) (n := 0) rfl jT
              rw [Nat.zero_add, eF] at sF
              rw [Nat.zero_add, eT] at sT
              have lF : (fillT [] F j []).length = 6 := by rw [fillT_len (by omega), Fl]; rfl
              have lT : (fillT [] T j []).length = 6 := by rw [fillT_len (by omega), Tl]; rfl
              have lF' : (fillT [] F (j + 1) []).length = 6 := by rw [fillT_len (by omega), Fl]; rfl
              have s1 : splice (arow v (fillT [] F j []) (fillT [] T j []) [0, 0, 0, 0] [0, 0, 0, 0]) (1 + j) [.int .u8 (l[w1] : Nat)] = arow v (fillT [] F (j + 1) []) (fillT [] T j []) [0, 0, 0, 0] [0, 0, 0, 0] := by rw [arow_f (by omega), sF]
              have s2 : splice (arow v (fillT [] F (j + 1) []) (fillT [] T j []) [0, 0, 0, 0] [0, 0, 0, 0]) (7 + j) [.int .u8 (l[w2] : Nat)] = arow v (fillT [] F (j + 1) []) (fillT [] T (j + 1) []) [0, 0, 0, 0] [0, 0, 0, 0] := by rw [arow_t lF' (by omega), sT]
              have n1 := arow_len (op := v) lF lT (fi := [0, 0, 0, 0]) (i := [0, 0, 0, 0]) rfl rfl
              have n2 := arow_len (op := v) lF' lT (fi := [0, 0, 0, 0]) (i := [0, 0, 0, 0]) rfl rfl
              simp (maxSteps := 1000000) (disch := first | (simp; done) | (simp only [IHeap.size_push', IHeap.size_set']; omega) | omega) [e0, e2, e7, e8, hn, hd, hlt, hlt2, cw1, cw2, p2, r1, r2, a1, a2, a1', a2', bl, g2, s1, s2, n1, n2, z2, wrap64, show (w1 : Int) < l.length by omega, show (w2 : Int) < l.length by omega, show 1 + j + 1 ≤ 21 by omega, show 7 + j + 1 ≤ 21 by omega]
              exact ⟨y, by omega, j + 1, by omega, by omega, fun i hi => by rw [IHeap.get_set_ne _ (by omega)]; exact o2 i hi, rfl⟩
            | zero =>
              obtain rfl : j = 6 := by omega
              rw [fillT_all Fl, fillT_all Tl, List.nil_append, List.append_nil, List.nil_append, List.append_nil] at g2
              have st1 : arow v F T [0, 0, 0, 0] [0, 0, 0, 0] = arow v F T (fillT [] Y 0 []) (fillT [] Z 0 []) := by
                unfold fillT
                rw [Yl, Zl]
                rfl
              rw [st1] at g2
              simp (maxSteps := 1000000) (disch := first | (simp; done) | (simp only [IHeap.size_push', IHeap.size_set']; omega) | omega) [e0, e2, e7, e8, hn, hd]
              refine WPL.by_inv mixed (by kernel_rfl) (fun y e h' => ∃ j : Nat, j + y = 4 ∧ e.n = 93 ∧ e.dfr = [] ∧ e.get 0 = .slice (some ⟨p, 0, none⟩) l.length c ∧ e.get 2 = .pointer (some ⟨h.size, 0, none⟩) ∧ e.get 7 = .pointer (some ⟨h1.size, 0, none⟩) ∧ e.get 9 = .int .i64 j ∧ h'.size = h1.size + 1 ∧ (∀ i, i < h1.size → h'.get i = h1.get i) ∧ h'.get h1.size = some (.row false 0 (arow v F T (fillT [] Y j []) (fillT [] Z j [])))) 4 ?_ ?_
              · refine ⟨0, ?_⟩
                simp (maxSteps := 1000000) (disch := first | (simp; done) | (simp only [IHeap.size_push', IHeap.size_set']; omega) | omega) [e0, e2, e7, e8, hn, hd, z2, g2]
                exact o2
              clear hn hd e0 e2 e7 e8 z2 o2 g2 p2
              rintro y e h3 ⟨j, hj, hn, hd, e0, e2, e7, e9, z2, o2, g2⟩
              have p2 : h3.get p = some (.row ro z (bys l)) := by rw [o2 p (by omega)]; exact Hp
              cases y with
              | succ y =>
                have hlt : j < 4 := by omega
                have hlt2 : (j : Int) < 4 := by omega
                obtain ⟨w1, hw1⟩ : ∃ w, 14 + j = w := ⟨_, rfl⟩
                obtain ⟨w2, hw2⟩ : ∃ w, 24 + j = w := ⟨_, rfl⟩
                have cw1 : (14 : Int) + j = w1 := by omega
                have cw2 : (24 : Int) + j = w2 := by omega
                have r1 : w1 < l.length := by omega
                have r2 : w2 < l.length := by omega
                have a1 := bys_at r1
                have a2 := bys_at r2
                have a1' : ∀ hh, (bys l)[w1]'hh = .int .u8 (l[w1] : Nat) := fun hh => by rw [List.getElem?_eq_getElem hh] at a1; injection a1
                have a2' : ∀ hh, (bys l)[w2]'hh = .int .u8 (l[w2] : Nat) := fun hh => by rw [List.getElem?_eq_getElem hh] at a2; injection a2
                have jY : j < Y.length := by omega
                have jZ : j < Z.length := by omega
                have eY : Y[j] = l[w1] := by simp only [← hY, ← hw1]; exact sub_at (by omega) hlt
                have eZ : Z[j] = l[w2] := by simp only [← hZ, ← hw2]; exact sub_at (by omega) hlt
                have sY := fillT_set (b := []) (x := Y) (rest := []) (n := 0) rfl jY
                have sZ := fillT_set (b := []) (x := Z) (rest := []) (n := 0) rfl jZ
                rw [Nat.zero_add, eY] at sY
                rw [Nat.zero_add, eZ] at sZ
                have lY : (fillT [] Y j []).length = 4 := by rw [fillT_len (by omega), Yl]; rfl
                have lZ : (fillT [] Z j []).length = 4 := by rw [fillT_len (by omega), Zl]; rfl
                have lY' : (fillT [] Y (j + 1) []).length = 4 := by rw [fillT_len (by omega), Yl]; rfl
                have s1 : splice (arow v F T (fillT [] Y j []) (fillT [] Z j [])) (13 + j) [.int .u8 (l[w1] : Nat)] = arow v F T (fillT [] Y (j + 1) []) (fillT [] Z j []) := by rw [arow_fi Fl Tl (by omega), sY]
                have s2 : splice (arow v F T (fillT [] Y (j + 1) []) (fillT [] Z j [])) (17 + j) [.int .u8 (l[w2] : Nat)] = arow v F T (fillT [] Y (j + 1) []) (fillT [] Z (j + 1) []) := by rw [arow_i Fl Tl lY' (by omega), sZ]
                have n1 := arow_len (op := v) Fl Tl lY lZ
                have n2 := arow_len (op := v) Fl Tl lY' lZ
                simp (maxSteps := 1000000) (disch := first | (simp; done) | (simp only [IHeap.size_push', IHeap.size_set']; omega) | omega) [e0, e2, e7, e9, hn, hd, hlt, hlt2, cw1, cw2, p2, r1, r2, a1, a2, a1', a2', bl, g2, s1, s2, n1, n2, z2, wrap64, show (w1 : Int) < l.length by omega, show (w2 : Int) < l.length by omega, show 13 + j + 1 ≤ 21 by omega, show 17 + j + 1 ≤ 21 by omega]
                exact ⟨y, by omega, j + 1, by omega, by omega, fun i hi => by rw [IHeap.get_set_ne _ (by omega)]; exact o2 i hi, rfl⟩
              | zero =>
                obtain rfl : j = 4 := by omega
                rw [fillT_all Yl, fillT_all Zl, List.nil_append, List.append_nil, List.nil_append, List.append_nil] at g2
                have er2 : arow v F T Y Z = (arOf l h28).row := by
                  rw [ea]
                  simp only [AR.row, arow, hF, hT, hY, hZ]
                rw [er2] at g2
                have t0 : h3.get h.size = some (.row false 0 zAR.row) := by rw [o2 _ (by omega)]; exact H0
                have sA := (arOf l h28).s21
                have oA := (arOf l h28).row_one
                have nA := (arOf l h28).row_len
                have spB : splice zAR.row 0 (arOf l h28).row = (arOf l h28).row := splice_all (by rw [zl, nA])
                simp (maxSteps := 1000000) (disch := first | (simp; done) | (simp only [IHeap.size_push', IHeap.size_set']; omega) | omega) [e0, e2, e7, e9, hn, hd, g2, t0, sA, oA, nA, spB, zl, z2]
                refine ⟨by rw [hr2]; rfl, by rw [IHeap.size_set]; omega, fun i hi => ?_⟩
                rw [IHeap.get_set_ne _ (by omega), o2 i (by omega), Ho i hi]
        · have hr2 : readR l = (zAR, 5) := by rw [hr1, if_neg (fun h => d7 h.2)]
          have e1' : (u : Int) = 0 := by omega
          have f1 : ¬ (v : Int) = 1 := by omega
          have f2 : ¬ (v : Int) = 2 := by omega
          simp (maxSteps := 1000000) (disch := first | (simp; done) | (simp only [IHeap.size_push', IHeap.size_set']; omega) | omega) [e0, e2, e4, e5, e6, hn, hd, undef, Hp, H0, H1, g6, g6', g7, g7', bl, b6l, b7l, i6, i7, e1', f1, f2, zs, zl, zo, spz]
          refine ⟨by rw [hr2]; rfl, by rw [IHeap.size_set]; omega, fun i hi => ?_⟩
          rw [IHeap.get_set_ne _ (by omega), Ho i hi]
      · have hr2 : readR l = (zAR, 5) := by rw [hr1, if_neg (fun h => d6 h.1)]
        have e1' : ¬ (u : Int) = 0 := by omega
        simp (maxSteps := 1000000) (disch := first | (simp; done) | (simp only [IHeap.size_push', IHeap.size_set']; omega) | omega) [e0, e2, e4, e5, e6, hn, hd, undef, Hp, H0, H1, g6, g6', g7, g7', bl, b6l, b7l, i6, i7, e1', d6, zs, zl, zo, spz]
        refine ⟨by rw [hr2]; rfl, by rw [IHeap.size_set]; omega, fun i hi => ?_⟩
        rw [IHeap.get_set_ne _ (by omega), Ho i hi]
  · have hr2 : readR l = (zAR, 4) := by
      unfold readR
      rw [dif_neg h28]
    have c1 : (l.length : Int) < 28 := by omega
    simp (maxSteps := 1000000) (disch := first | (simp; done) | (simp only [IHeap.size_push', IHeap.size_set']; omega) | omega) [-buildOf, -Instr.fill, a0, hn, hd, c1, bld26z, zl, zo, spz, zs]
    exact ⟨by rw [hr2]; rfl, by simp only [IHeap.size_push']; omega, fun i hi => by rw [IHeap.get_push_ne _ (by simp only [IHeap.size_push']; omega), IHeap.get_push_ne _ (by omega)]⟩
end Go.Proofs.Yteokdllmandleaa.Ideal
