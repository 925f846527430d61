import Derived.Test.YteokdllmandleaaP34b
noncomputable section
open Go.Proofs
namespace Go.Proofs.Yteokdllmandleaa.Ideal
open Go.RowKit
set_option linter.unusedSimpArgs false
set_option linter.unusedVariables false
set_option linter.unusedSectionVars false
set_option maxRecDepth 100000
set_option maxHeartbeats 4000000
attribute [-simp] IHeap.size_set IHeap.size_push
attribute [local simp ↓] Hid.ap_mk
attribute [local simp] scopeQ_normal scopeQ_ret scopeQ_exit WP_skip WP_label WP_exit WP_goto WP_ret WP_region WP_seq WP_cond WP_block WP_scope WP_loop WP_range thenQ_normal thenQ_ret thenQ_exit thenQ_goto loopQ_normal loopQ_ret loopQ_exit invQ_normal invQ_ret invQ_exit outOf_normal outOf_ret outOf_goto outOf_exit ev_tmp ev_const ev_func
  wops_nil wops_cons wantedE_none wantedE_some jgd_some wnx_eq niC_false wdo_move wdo_assign wdo_pick wdo_load wdo_store wdo_alloc wdo_box wdo_fieldAddr wdo_indexAddr wdo_field wdo_extract wdo_build wdo_buildSlice wdo_makeSlice wdo_binOp wdo_unOp wdo_makeFunc wdo_nilCheck wdo_callV wdo_len wdo_append wdo_copy wdo_delete wdo_max wdo_min wdo_convert jcvt_int
  xput_get put_n put_none put_dfr ibin finQ_n finQ_r finD_nil splice_one ires_nil ires_one ires_two ires_three ires1_tmp ires1_cell jcell_ptr rowLoad_row wrap64 wrapU64 wrapU8 wrapU16 wrapU32 callV_fn buildOf Instr.fill Value.cells Value.oneCell' kindOf slots_all splice_all IHeap.size_set' IHeap.size_push' IHeap.get_set_same IHeap.get_set_ne IHeap.get_pushed IHeap.get_push_ne IHeap.set_set IHeap.set_push IHeap.set_pushed IHeap.set_set3 getU_nil getU_same getU_ne jif_true jif_false pushH_eq setH_eq forceL_eq forceV_eq ibuildSlice
attribute [local simp] wdo_index jopt_some wdo_cut33 wdo_all23 wdo_all24 arrAll
attribute [-simp] Value.oneCell'
attribute [local simp] one_int' one_slc'
theorem slots_at {cs vs : List Value} {q n j : Nat} (h : slots cs q n = some vs) (hj : j < n) : cs[q + j]? = vs[j]? := by
  unfold slots at h
  split at h
  · cases h
    rw [List.getElem?_take, if_pos hj, List.getElem?_drop]
  · cases h
def catT (b x : List Nat) (j : Nat) : List Nat := b ++ x.take j
theorem catT_zero (b x : List Nat) : catT b x 0 = b := by simp [catT]
theorem catT_succ {b x : List Nat} {j : Nat} (h : j < x.length) : catT b x (j + 1) = catT b x j ++ [x[j]] := by
  unfold catT
  rw [List.take_succ_eq_append_getElem h, List.append_assoc]
theorem catT_all {b x : List Nat} {n : Nat} (h : x.length = n) : catT b x n = b ++ x := by
  unfold catT
  rw [List.take_of_length_le (by omega)]
theorem catT_len {b x : List Nat} {j n : Nat} (hb : b.length = n) (h : j ≤ x.length) : (catT b x j).length = n + j := by
  unfold catT
  rw [List.length_append, List.length_take, hb]
  omega
/-- Where bytes are laid. -/
structure WrJ (h0 : IHeap) (a : AR) (L : List Nat) (r : Nat) (h : IHeap) : Prop where
  size : h0.size ≤ h.size
  old : ∀ i, i < h0.size → h.get i = h0.get i
  row : h.get h0.size = some (.row false 0 a.row)
  hr : h0.size < r
  out : h.get r = some (.row false 1 (bys L))
theorem WrJ.push {h0 h : IHeap} {a : AR} {L : List Nat} {r n : Nat} {x : Nat} (st : WrJ h0 a L r h) (hn : L.length = n) (hn2 : n ≤ 1000) :
    ∃ h3 j3, iappend Try.prog (h.push (.row false 1 [.int .u8 x])) 33 33 (.slice (some ⟨r, 0, none⟩) n n) (.slice (some ⟨h.size, 0, none⟩) 1 1) = some (.slice (some ⟨j3, 0, none⟩) (n + 1) (n + 1), h3) ∧ WrJ h0 a (L ++ [x]) j3 h3 := by
  have rz := IHeap.get_lt st.out
  have wz := IHeap.get_lt st.row
  have hr := st.hr
  have hs := st.size
  obtain ⟨h3, j3, ap, r3, k3, z3, f3⟩ := app33 (h := h.push (.row false 1 [.int .u8 x])) (i := r) (n := n) (m := 1) (cs := L) (news := [x]) (x := .slice (some ⟨h.size, 0, none⟩) 1 1) (src_row (IHeap.get_pushed _ rfl) (slots_full _ rfl) (by omega)) rfl (by rw [IHeap.get_push_ne _ (by omega)]; exact st.out) hn (by omega)
  simp only [IHeap.size_push'] at k3 z3 f3
  refine ⟨h3, j3, ap, by omega, fun i hi => ?_, ?_, by omega, r3⟩
  · rw [k3 i (by omega) (by omega), IHeap.get_push_ne _ (by omega)]; exact st.old i hi
  · rw [k3 _ (by omega) (by omega), IHeap.get_push_ne _ (by omega)]; exact st.row
theorem rwrite_c {h : IHeap} (a : AR) (hop : a.op < 65536) : FN Try.prog 13 #[a.val] h (Q := ⟨fun v h' => WrV h a v h'⟩) := by
  refine FN.enter mixed (fn := Try.f13) (by kernel_rfl) rfl (by kernel_rfl) fun e hn hg hd => ?_
  simp [Try.f13] at hn
  have a0 : e.get 0 = a.val := hg 0 (by omega)
  clear hg
  have g0 := a.get0
  have g0' : ∀ hh, a.row[0]'hh = .int .u16 (a.op : Nat) := fun _ => rfl
  have rl := a.row_len
  by_cases hok : okOp a = true
  · have hok2 := hok
    have hor : a.op = 1 ∨ a.op = 2 := by simpa [okOp] using hok
    have opw : IntKind.u8.wrap (a.op : Int) = a.op := wrapU8 (by omega) (by omega)
    obtain ⟨bo, hbo⟩ : ∃ bo, bo = [0, 1, 8, 0, 6, 4, 0, a.op] := ⟨_, rfl⟩
    have lb0 : bo.length = 8 := by rw [hbo]; rfl
    have st : WrJ h a (catT bo a.fr 0) (h.size + 1) ((h.push (.row false 0 a.row)).push (.row false 1 (bys (catT bo a.fr 0)))) :=
      ⟨by simp only [IHeap.size_push']; omega, fun i hi => by rw [IHeap.get_push_ne _ (by simp only [IHeap.size_push']; omega), IHeap.get_push_ne _ (by omega)], by rw [IHeap.get_push_ne _ (by simp only [IHeap.size_push']; omega)]; exact IHeap.get_pushed _ rfl, by omega, IHeap.get_pushed _ (by simp only [IHeap.size_push'])⟩
    by_cases o1 : a.op = 1
    case' pos =>
      have o2 : (a.op : Int) = 1 := by omega
      have hb : [Value.int .u8 0, .int .u8 1, .int .u8 8, .int .u8 0, .int .u8 6, .int .u8 4, .int .u8 0, .int .u8 1] = bys (catT bo a.fr 0) := by rw [catT_zero, hbo, o1]; rfl
      simp (maxSteps := 1000000) (disch := first | (simp; done) | (simp only [IHeap.size_push', IHeap.size_set']; omega) | omega) [a0, hn, hd, AR.val, a.row_one, g0, g0', undef, zeros, opw, o2]
      rw [hb]
    case' neg =>
      have o3 : ¬ (a.op : Int) = 1 := by omega
      have o2 : (a.op : Int) = 2 := by omega
      have hb : [Value.int .u8 0, .int .u8 1, .int .u8 8, .int .u8 0, .int .u8 6, .int .u8 4, .int .u8 0, .int .u8 2] = bys (catT bo a.fr 0) := by rw [catT_zero, hbo, show a.op = 2 by omega]; rfl
      simp (maxSteps := 1000000) (disch := first | (simp; done) | (simp only [IHeap.size_push', IHeap.size_set']; omega) | omega) [a0, hn, hd, AR.val, a.row_one, g0, g0', undef, zeros, opw, o2, o3]
      rw [hb]
    all_goals
      clear hb o2
      generalize (h.push (IObj.row false 0 a.row)).push (IObj.row false 1 (bys (catT bo a.fr 0))) = h1 at st ⊢
      refine WPL.by_inv mixed (by kernel_rfl) (fun y e h' => ∃ j r : Nat, j + y = 6 ∧ e.n = 66 ∧ e.dfr = [] ∧ e.get 1 = .pointer (some ⟨h.size, 0, none⟩) ∧ e.get 4 = .slice (some ⟨r, 0, none⟩) (8 + j) (8 + j) ∧ e.get 5 = .int .i64 j ∧ WrJ h a (catT bo a.fr j) r h') 6 ?_ ?_
      · refine ⟨0, h.size + 1, ?_⟩
        simp (maxSteps := 1000000) (disch := first | (simp; done) | (simp only [IHeap.size_push', IHeap.size_set']; omega) | omega) [a0, hn, hd]
        exact st
      clear hn hd a0 e st
      rintro y e h2 ⟨j, r, hj, hn, hd, e1, e4, e5, st⟩
      cases y with
      | succ y =>
        have hlt : j < 6 := by omega
        have hlt2 : (j : Int) < 6 := by omega
        have hl : j < a.fr.length := by rw [a.l1]; omega
        have gx := slots_at a.sfr (j := j) hlt
        rw [bys_at hl] at gx
        have gx' : ∀ hh, a.row[1 + j]'hh = .int .u8 (a.fr[j] : Nat) := fun hh => by rw [List.getElem?_eq_getElem hh] at gx; injection gx
        have gr := st.row
        have rl := a.row_len
        obtain ⟨h3, j3, ap, st3⟩ := st.push (x := a.fr[j]) (n := 8 + j) (catT_len lb0 (by omega)) (by omega)
        rw [← catT_succ hl] at st3
        simp (maxSteps := 1000000) (disch := first | (simp; done) | (simp only [IHeap.size_push', IHeap.size_set']; omega) | omega) [zeros, e1, e4, e5, hn, hd, hlt, hlt2, gr, gx, gx', rl, ap, wrap64, show 1 + j < 21 by omega, show 1 + j + 1 ≤ 21 by omega]
        exact ⟨y, by omega, j + 1, by omega, j3, ⟨rfl, by omega⟩, by omega, st3⟩
      | zero =>
        obtain rfl : j = 6 := by omega
        rw [catT_all a.l1] at st
        simp (maxSteps := 1000000) (disch := first | (simp; done) | (simp only [IHeap.size_push', IHeap.size_set']; omega) | omega) [e1, e4, e5, hn, hd]
        obtain ⟨b1, hb1⟩ : ∃ b, b = bo ++ a.fr := ⟨_, rfl⟩
        have lb1 : b1.length = 14 := by rw [hb1, List.length_append, lb0, a.l1]
        rw [← hb1, ← catT_zero b1 a.fip] at st
        refine WPL.by_inv mixed (by kernel_rfl) (fun y e h' => ∃ j r : Nat, j + y = 4 ∧ e.n = 66 ∧ e.dfr = [] ∧ e.get 1 = .pointer (some ⟨h.size, 0, none⟩) ∧ e.get 4 = .slice (some ⟨r, 0, none⟩) (14 + j) (14 + j) ∧ e.get 6 = .int .i64 j ∧ WrJ h a (catT b1 a.fip j) r h') 4 ?_ ?_
        · refine ⟨0, r, ?_⟩
          simp (maxSteps := 1000000) (disch := first | (simp; done) | (simp only [IHeap.size_push', IHeap.size_set']; omega) | omega) [e1, e4, hn, hd]
          exact st
        clear hn hd e1 e4 e5 e st
        rintro y e h2 ⟨j, r, hj, hn, hd, e1, e4, e6, st⟩
        cases y with
        | succ y =>
          have hlt : j < 4 := by omega
          have hlt2 : (j : Int) < 4 := by omega
          have hl : j < a.fip.length := by rw [a.l3]; omega
          have gx := slots_at a.sfip (j := j) hlt
          rw [bys_at hl] at gx
          have gx' : ∀ hh, a.row[13 + j]'hh = .int .u8 (a.fip[j] : Nat) := fun hh => by rw [List.getElem?_eq_getElem hh] at gx; injection gx
          have gr := st.row
          have rl := a.row_len
          obtain ⟨h3, j3, ap, st3⟩ := st.push (x := a.fip[j]) (n := 14 + j) (catT_len lb1 (by omega)) (by omega)
          rw [← catT_succ hl] at st3
          simp (maxSteps := 1000000) (disch := first | (simp; done) | (simp only [IHeap.size_push', IHeap.size_set']; omega) | omega) [zeros, e1, e4, e6, hn, hd, hlt, hlt2, gr, gx, gx', rl, ap, wrap64, show 13 + j < 21 by omega, show 13 + j + 1 ≤ 21 by omega]
          exact ⟨y, by omega, j + 1, by omega, j3, ⟨rfl, by omega⟩, by omega, st3⟩
        | zero =>
          obtain rfl : j = 4 := by omega
          rw [catT_all a.l3] at st
          simp (maxSteps := 1000000) (disch := first | (simp; done) | (simp only [IHeap.size_push', IHeap.size_set']; omega) | omega) [e1, e4, e6, hn, hd]
          obtain ⟨b2, hb2⟩ : ∃ b, b = b1 ++ a.fip := ⟨_, rfl⟩
          have lb2 : b2.length = 18 := by rw [hb2, List.length_append, lb1, a.l3]
          rw [← hb2, ← catT_zero b2 a.to] at st
          refine WPL.by_inv mixed (by kernel_rfl) (fun y e h' => ∃ j r : Nat, j + y = 6 ∧ e.n = 66 ∧ e.dfr = [] ∧ e.get 1 = .pointer (some ⟨h.size, 0, none⟩) ∧ e.get 4 = .slice (some ⟨r, 0, none⟩) (18 + j) (18 + j) ∧ e.get 7 = .int .i64 j ∧ WrJ h a (catT b2 a.to j) r h') 6 ?_ ?_
          · refine ⟨0, r, ?_⟩
            simp (maxSteps := 1000000) (disch := first | (simp; done) | (simp only [IHeap.size_push', IHeap.size_set']; omega) | omega) [e1, e4, hn, hd]
            exact st
          clear hn hd e1 e4 e6 e st
          rintro y e h2 ⟨j, r, hj, hn, hd, e1, e4, e7, st⟩
          cases y with
          | succ y =>
            have hlt : j < 6 := by omega
            have hlt2 : (j : Int) < 6 := by omega
            have hl : j < a.to.length := by rw [a.l2]; omega
            have gx := slots_at a.sto (j := j) hlt
            rw [bys_at hl] at gx
            have gx' : ∀ hh, a.row[7 + j]'hh = .int .u8 (a.to[j] : Nat) := fun hh => by rw [List.getElem?_eq_getElem hh] at gx; injection gx
            have gr := st.row
            have rl := a.row_len
            obtain ⟨h3, j3, ap, st3⟩ := st.push (x := a.to[j]) (n := 18 + j) (catT_len lb2 (by omega)) (by omega)
            rw [← catT_succ hl] at st3
            simp (maxSteps := 1000000) (disch := first | (simp; done) | (simp only [IHeap.size_push', IHeap.size_set']; omega) | omega) [zeros, e1, e4, e7, hn, hd, hlt, hlt2, gr, gx, gx', rl, ap, wrap64, show 7 + j < 21 by omega, show 7 + j + 1 ≤ 21 by omega]
            exact ⟨y, by omega, j + 1, by omega, j3, ⟨rfl, by omega⟩, by omega, st3⟩
          | zero =>
            obtain rfl : j = 6 := by omega
            rw [catT_all a.l2] at st
            simp (maxSteps := 1000000) (disch := first | (simp; done) | (simp only [IHeap.size_push', IHeap.size_set']; omega) | omega) [e1, e4, e7, hn, hd]
            obtain ⟨b3, hb3⟩ : ∃ b, b = b2 ++ a.to := ⟨_, rfl⟩
            have lb3 : b3.length = 24 := by rw [hb3, List.length_append, lb2, a.l2]
            rw [← hb3, ← catT_zero b3 a.ip] at st
            refine WPL.by_inv mixed (by kernel_rfl) (fun y e h' => ∃ j r : Nat, j + y = 4 ∧ e.n = 66 ∧ e.dfr = [] ∧ e.get 1 = .pointer (some ⟨h.size, 0, none⟩) ∧ e.get 4 = .slice (some ⟨r, 0, none⟩) (24 + j) (24 + j) ∧ e.get 8 = .int .i64 j ∧ WrJ h a (catT b3 a.ip j) r h') 4 ?_ ?_
            · refine ⟨0, r, ?_⟩
              simp (maxSteps := 1000000) (disch := first | (simp; done) | (simp only [IHeap.size_push', IHeap.size_set']; omega) | omega) [e1, e4, hn, hd]
              exact st
            clear hn hd e1 e4 e7 e st
            rintro y e h2 ⟨j, r, hj, hn, hd, e1, e4, e8, st⟩
            cases y with
            | succ y =>
              have hlt : j < 4 := by omega
              have hlt2 : (j : Int) < 4 := by omega
              have hl : j < a.ip.length := by rw [a.l4]; omega
              have gx := slots_at a.sip (j := j) hlt
              rw [bys_at hl] at gx
              have gx' : ∀ hh, a.row[17 + j]'hh = .int .u8 (a.ip[j] : Nat) := fun hh => by rw [List.getElem?_eq_getElem hh] at gx; injection gx
              have gr := st.row
              have rl := a.row_len
              obtain ⟨h3, j3, ap, st3⟩ := st.push (x := a.ip[j]) (n := 24 + j) (catT_len lb3 (by omega)) (by omega)
              rw [← catT_succ hl] at st3
              simp (maxSteps := 1000000) (disch := first | (simp; done) | (simp only [IHeap.size_push', IHeap.size_set']; omega) | omega) [zeros, e1, e4, e8, hn, hd, hlt, hlt2, gr, gx, gx', rl, ap, wrap64, show 17 + j < 21 by omega, show 17 + j + 1 ≤ 21 by omega]
              exact ⟨y, by omega, j + 1, by omega, j3, ⟨rfl, by omega⟩, by omega, st3⟩
            | zero =>
              obtain rfl : j = 4 := by omega
              rw [catT_all a.l4] at st
              simp (maxSteps := 1000000) (disch := first | (simp; done) | (simp only [IHeap.size_push', IHeap.size_set']; omega) | omega) [e1, e4, e8, hn, hd]
              rw [hb3, hb2, hb1, hbo] at st
              exact ⟨st.size, st.old, .inr ⟨hok2, r, rfl, Nat.le_of_lt st.hr, st.out⟩⟩
  · have o1 : ¬ (a.op : Int) = 1 := fun e => hok (by simp [okOp]; omega)
    have o2 : ¬ (a.op : Int) = 2 := fun e => hok (by simp [okOp]; omega)
    have hok2 : okOp a = false := by simpa using hok
    simp (maxSteps := 1000000) (disch := first | (simp; done) | (simp only [IHeap.size_push', IHeap.size_set']; omega) | omega) [a0, hn, hd, AR.val, a.row_one, g0, g0', undef, o1, o2]
    exact ⟨by rw [IHeap.size_push']; omega, fun i hi => IHeap.get_push_ne _ (by omega), .inl ⟨hok2, rfl⟩⟩
end Go.Proofs.Yteokdllmandleaa.Ideal
