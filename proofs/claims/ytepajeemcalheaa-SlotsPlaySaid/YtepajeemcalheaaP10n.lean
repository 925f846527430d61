import Derived.Test.YtepajeemcalheaaP10m
noncomputable section
open Go.Proofs
namespace Go.Proofs.Ytepajeemcalheaa.Ideal
open Go.RowKit
set_option linter.unusedSimpArgs false
set_option linter.unusedVariables false
set_option linter.unusedSectionVars false
set_option maxRecDepth 100000
set_option maxHeartbeats 4000000
attribute [-simp] IHeap.size_set IHeap.size_push
attribute [local simp ↓] Hid.ap_mk
attribute [local simp] scopeQ_normal scopeQ_ret scopeQ_exit WP_skip WP_label WP_exit WP_goto WP_ret WP_region WP_seq WP_cond WP_block WP_scope WP_loop WP_range thenQ_normal thenQ_ret thenQ_exit thenQ_goto loopQ_normal loopQ_ret loopQ_exit invQ_normal invQ_ret invQ_exit outOf_normal outOf_ret outOf_goto outOf_exit ev_tmp ev_const ev_func
  wops_nil wops_cons wantedE_none wantedE_some jgd_some wnx_eq niC_false wdo_move wdo_assign wdo_pick wdo_load wdo_store wdo_alloc wdo_box wdo_fieldAddr wdo_indexAddr wdo_field wdo_extract wdo_build wdo_buildSlice wdo_makeSlice wdo_binOp wdo_unOp wdo_makeFunc wdo_nilCheck wdo_callV wdo_len wdo_append wdo_copy wdo_delete wdo_max wdo_min wdo_convert jcvt_int
  xput_get put_n put_none put_dfr ibin finQ_n finQ_r finD_nil splice_one ires_nil ires_one ires_two ires_three ires1_tmp ires1_cell jcell_ptr rowLoad_row wrap64 wrapU64 wrapU8 wrapU16 wrapU32 callV_fn buildOf Instr.fill Value.cells Value.oneCell' kindOf slots_all splice_all IHeap.size_set' IHeap.size_push' IHeap.get_set_same IHeap.get_set_ne IHeap.get_pushed IHeap.get_push_ne IHeap.set_set IHeap.set_push IHeap.set_pushed IHeap.set_set3 getU_nil getU_same getU_ne jif_true jif_false pushH_eq setH_eq forceL_eq forceV_eq ibuildSlice
attribute [local simp] wdo_index jopt_some fb_known wdo_cut29
attribute [-simp] Value.oneCell'
attribute [local simp] one_int' one_bool' one_ptr' one_slc'
/-- The calls that are handed in. -/
abbrev OP := Int × Int × Int
def OpsAt (h : IHeap) (A : Option Addr) (ops : List OP) : Prop := ops ≠ [] → ∃ i o ro esz cs, A = some ⟨i, o, none⟩ ∧ h.get i = some (.row ro esz cs) ∧ ∀ j c, ops[j]? = some c → slots cs (o + j * 3) 3 = some [.int .i64 c.1, .int .i64 c.2.1, .int .i64 c.2.2]
/-- What lies in memory. -/
structure PlS (h0 : IHeap) (s k q w n m : Nat) (L : Nat → List Nat) (h : IHeap) : Prop where
  size : h0.size ≤ h.size
  old : ∀ i, i < h0.size → h.get i = h0.get i
  bo : Bo h s k q w n m L
  ls : h0.size ≤ k ∧ h0.size ≤ q ∧ h0.size ≤ w
theorem PlS.to {h0 h h' : IHeap} {s k q w n m : Nat} {L : Nat → List Nat} (st : PlS h0 s k q w n m L h) (z : h.size ≤ h'.size) (o : ∀ i, i < h.size → h'.get i = h.get i) : PlS h0 s k q w n m L h' :=
  ⟨by have := st.size; omega, fun i hi => by rw [o i (by have := st.size; omega)]; exact st.old i hi, st.bo.to o, st.ls⟩
theorem RIs.requ {h : IHeap} {w u q q' n m : Nat} {L : Nat → List Nat} {cs : Nat → Value} (y : RIs h w u q n m L cs) (hq : h.size ≤ q') : RIs h w u q' n m L cs :=
  ⟨y.gw, y.gu, fun l hl => by
    obtain ⟨A, h1, h2⟩ := y.at' l hl
    refine ⟨A, h1, fun hne => ?_⟩
    obtain ⟨r, h3, h4, h5⟩ := h2 hne
    exact ⟨r, h3, by have := IHeap.get_lt h5; omega, h5⟩, y.mz, y.nz, y.m1⟩
theorem RIs.prog2 {h h' : IHeap} {s k w u q q' n m : Nat} {L L' : Nat → List Nat} {b f : Nat → Nat} {t : Nat → Int} {cs : Nat → Value} (x : SIs h s k q n m L' b f t) (y : RIs h w u q n m L cs) (y' : RIs h w u q' n m L cs) (o : ∀ i, i < h.size → i ≠ k → i ≠ q → h'.get i = h.get i) : RIs h' w u q' n m L cs := by
  have z := RIs.prog x y o
  refine ⟨z.gw, z.gu, fun l hl => ?_, z.mz, z.nz, z.m1⟩
  obtain ⟨A, h1, h2⟩ := z.at' l hl
  obtain ⟨A', h1', h2'⟩ := y'.at' l hl
  rw [h1] at h1'
  have eA : A = A' := by injection h1'
  refine ⟨A, h1, fun hne => ?_⟩
  obtain ⟨r, h3, h4, h5⟩ := h2 hne
  obtain ⟨r', h3', h4', h5'⟩ := h2' hne
  rw [← eA, h3] at h3'
  have er : r = r' := by injection h3' with e; injection e
  exact ⟨r, h3, by rw [er]; exact h4', h5⟩
theorem popRes_form (m : Nat) (L : Nat → List Nat) (l : Int) : ∃ (a : Int) (z : Bool), (popRes m L l).1 = .tuple #[.int .i64 a, .bool z] := by
  unfold popRes
  split
  · unfold popV
    split
    · exact ⟨_, _, rfl⟩
    · exact ⟨_, _, rfl⟩
  · exact ⟨_, _, rfl⟩
theorem plays_c {h : IHeap} {li ce : Int} {A : Option Addr} {ops : List OP} {cap : Nat} (hb : OpsAt h A ops) :
    FN Try.prog 4 #[.int .i64 li, .int .i64 ce, .slice A ops.length cap] h (Q := ⟨fun v h' => v = .bool true⟩) := by
  refine FN.enter mixed (fn := Try.f4) (by kernel_rfl) rfl (by kernel_rfl) fun e hn hg hd => ?_
  simp [Try.f4] at hn
  have a0 : e.get 0 = .int .i64 li := hg 0 (by omega)
  have a1 : e.get 1 = .int .i64 ce := hg 1 (by omega)
  have a2 : e.get 2 = .slice A ops.length cap := hg 2 (by omega)
  clear hg
  by_cases g1 : (80 : Int) < ops.length
  · simp (maxSteps := 1000000) (disch := first | (simp; done) | (simp only [IHeap.size_push', IHeap.size_set']; omega) | omega) [a0, a1, a2, hn, hd, g1, undef]
    refine FN.of known_c ?_
    simp (maxSteps := 1000000) (disch := first | (simp; done) | (simp only [IHeap.size_push', IHeap.size_set']; omega) | omega) [hn, hd]
  by_cases g2 : 12 < li ∧ li ≤ 4096
  · simp (maxSteps := 1000000) (disch := first | (simp; done) | (simp only [IHeap.size_push', IHeap.size_set']; omega) | omega) [a0, a1, a2, hn, hd, g1, g2, g2.1, g2.2, undef]
    refine FN.of known_c ?_
    simp (maxSteps := 1000000) (disch := first | (simp; done) | (simp only [IHeap.size_push', IHeap.size_set']; omega) | omega) [hn, hd]
  by_cases g3 : 60 < ce ∧ ce ≤ 65536
  · by_cases g4 : 12 < li
    · have g5 : ¬ li ≤ 4096 := fun h => g2 ⟨g4, h⟩
      simp (maxSteps := 1000000) (disch := first | (simp; done) | (simp only [IHeap.size_push', IHeap.size_set']; omega) | omega) [a0, a1, a2, hn, hd, g1, g4, g5, g3.1, g3.2, undef]
      refine FN.of known_c ?_
      simp (maxSteps := 1000000) (disch := first | (simp; done) | (simp only [IHeap.size_push', IHeap.size_set']; omega) | omega) [hn, hd]
    · simp (maxSteps := 1000000) (disch := first | (simp; done) | (simp only [IHeap.size_push', IHeap.size_set']; omega) | omega) [a0, a1, a2, hn, hd, g1, g4, g3.1, g3.2, undef]
      refine FN.of known_c ?_
      simp (maxSteps := 1000000) (disch := first | (simp; done) | (simp only [IHeap.size_push', IHeap.size_set']; omega) | omega) [hn, hd]
  have pre : ∃ z : Bool, decide (12 < li) = z ∧ ∃ y : Bool, decide (60 < ce) = y := ⟨_, rfl, _, rfl⟩
  by_cases ok : (1 ≤ li ∧ li ≤ 4096) ∧ (1 ≤ ce ∧ ce ≤ 65536)
  · obtain ⟨m, rfl⟩ : ∃ m : Nat, li = m := ⟨li.toNat, by omega⟩
    obtain ⟨n, rfl⟩ : ∃ n : Nat, ce = n := ⟨ce.toNat, by omega⟩
    have u1 : ¬ (12 : Int) < m := by omega
    have u2 : ¬ (60 : Int) < n := by omega
    have u3 : ¬ (m : Int) < 1 := by omega
    have u4 : ¬ (4096 : Int) < m := by omega
    have u5 : ¬ (n : Int) < 1 := by omega
    have u6 : ¬ (65536 : Int) < n := by omega
    have m12 : m ≤ 12 := by omega
    have n60 : n ≤ 60 := by omega
    simp (maxSteps := 1000000) (disch := first | (simp; done) | (simp only [IHeap.size_push', IHeap.size_set']; omega) | omega) [a0, a1, a2, hn, hd, g1, u1, u2, undef]
    refine FN.mono (new_c (m := m) (n := n) (by omega) (by omega) (by omega) (by omega)) ?_
    rintro _ h1 ⟨s, k, q, rfl, ⟨b, f, t, x1⟩, ls, lk, lq, z1, o1⟩
    simp (maxSteps := 1000000) (disch := first | (simp; done) | (simp only [IHeap.size_push', IHeap.size_set']; omega) | omega) [a0, a1, a2, hn, hd, undef, u3, u4, u5, u6]
    refine FN.mono (rnew_c (q := q) (m := m) (n := n) (by omega) m12 n60) ?_
    rintro _ h2 ⟨rfl, ⟨cs, y2⟩, z2, o2⟩
    have st : PlS h s k q (h1.size + 1) n m (fun _ => []) h2 := ⟨by omega, fun i hi => by rw [o2 i (by omega)]; exact o1 i hi, ⟨⟨b, f, t, x1.to o2⟩, _, cs, y2⟩, by omega, by omega, by omega⟩
    simp (maxSteps := 1000000) (disch := first | (simp; done) | (simp only [IHeap.size_push', IHeap.size_set']; omega) | omega) [a0, a1, a2, hn, hd]
    refine WPL.by_inv mixed (by kernel_rfl) (fun y e h' => ∃ (j s k q w : Nat) (L : Nat → List Nat), j + y = ops.length ∧ e.n = 179 ∧ e.dfr = [] ∧ e.get 7 = .pointer (some ⟨s, 0, none⟩) ∧ e.get 9 = .pointer (some ⟨w, 0, none⟩) ∧ e.get 77 = .slice A ops.length cap ∧ e.get 78 = .int .i64 ops.length ∧ e.get 79 = .int .i64 j ∧ PlS h s k q w n m L h') ops.length ?_ ?_
    · refine ⟨0, s, k, q, h1.size + 1, fun _ => [], ?_⟩
      simp (maxSteps := 1000000) (disch := first | (simp; done) | (simp only [IHeap.size_push', IHeap.size_set']; omega) | omega) [a0, a1, a2, hn, hd]
      exact st
    clear hn hd a0 a1 a2 e st x1 y2 o1 o2 z1 z2 ls lk lq
    rintro y e h2 ⟨j, s, k, q, w, L, hj, hn, hd, e7, e9, e77, e78, e79, st⟩
    cases y with
    | zero =>
      obtain rfl : j = ops.length := by omega
      simp (maxSteps := 1000000) (disch := first | (simp; done) | (simp only [IHeap.size_push', IHeap.size_set']; omega) | omega) [e7, e9, e77, e78, e79, hn, hd]
      refine FN.of known_c ?_
      simp (maxSteps := 1000000) (disch := first | (simp; done) | (simp only [IHeap.size_push', IHeap.size_set']; omega) | omega) [hn, hd]
    | succ y =>
      have hlt : j < ops.length := by omega
      have hlt2 : (j : Int) < ops.length := by omega
      have one : ops ≠ [] := by intro e; rw [e] at hlt; simp at hlt
      obtain ⟨i', o, ro, esz, cs, rfl, hrow, hcs⟩ := hb one
      obtain ⟨c, hc⟩ : ∃ c, ops[j] = c := ⟨_, rfl⟩
      have g4 := hcs j c (by rw [← hc]; simp [hlt])
      have hiz := IHeap.get_lt hrow
      have g5 : h2.get i' = some (.row ro esz cs) := by rw [st.old i' hiz]; exact hrow
      obtain ⟨kd, la, ca⟩ := c
      simp only at g4
      have st3 : PlS h s k q w n m L (h2.push (.row false 0 [.int .i64 kd, .int .i64 la, .int .i64 ca])) := st.to (by rw [IHeap.size_push']; omega) (fun i hi => IHeap.get_push_ne _ (by omega))
      obtain ⟨⟨b, f, t, x3⟩, u3, cs3, y3⟩ := st3.bo
      have hlen := x3.rep.len n60
      obtain ⟨l1, l2, l3⟩ := st.ls
      have hsz := st.size
      have kz : k < h2.size := by
        obtain ⟨⟨_, _, _, x2⟩, _⟩ := st.bo
        exact IHeap.get_lt x2.gk
      have qz : q < h2.size := by
        obtain ⟨⟨_, _, _, x2⟩, _⟩ := st.bo
        exact IHeap.get_lt x2.gq
      have wz : w < h2.size := by
        obtain ⟨_, _, _, y2⟩ := st.bo
        exact IHeap.get_lt y2.gw
      have q3z := IHeap.get_lt x3.gq
      have o3 : ∀ i, i < h2.size → (h2.push (.row false 0 [.int .i64 kd, .int .i64 la, .int .i64 ca])).get i = h2.get i := fun i hi => IHeap.get_push_ne _ (by omega)
      have b3 : (h2.push (.row false 0 [.int .i64 kd, .int .i64 la, .int .i64 ca])).get h2.size = some (.row false 0 [.int .i64 kd, .int .i64 la, .int .i64 ca]) := IHeap.get_pushed _ rfl
      have z3 : (h2.push (.row false 0 [.int .i64 kd, .int .i64 la, .int .i64 ca])).size = h2.size + 1 := IHeap.size_push' _ _
      by_cases k1 : kd = 1
      · subst k1
        simp (maxSteps := 1000000) (disch := first | (simp; done) | (simp only [IHeap.size_push', IHeap.size_set']; omega) | omega) [e7, e9, e77, e78, e79, hn, hd, hlt, hlt2, g5, g4]
        refine FN.mono (pushA_c x3 n60 la ca) ?_
        rintro _ h4 ⟨rfl, ⟨b4, f4, t4, x4⟩, z4, o4⟩
        have y4 := RIs.prog x3 y3 o4
        have b4' := (o4 h2.size (by omega) (by omega) (by omega))
        have b4 := b4'.trans b3
        simp (maxSteps := 1000000) (disch := first | (simp; done) | (simp only [IHeap.size_push', IHeap.size_set']; omega) | omega) [e7, e9, e77, e78, e79, hn, hd, b4]
        refine FN.mono (rpushA_c y4 (by omega) hlen la ca) ?_
        rintro _ h5 ⟨rfl, ⟨u5, cs5, y5⟩, z5, o5⟩
        have x5 := SIs.ref x4 y4 o5
        have st5 : PlS h s k q w n m (pushRes n m L la ca).2 h5 := ⟨by omega, fun i hi => by rw [o5 i (by omega) (by omega), o4 i (by omega) (by omega) (by omega)]; exact st3.old i hi, ⟨⟨_, _, _, x5⟩, u5, cs5, y5⟩, l1, l2, l3⟩
        simp (maxSteps := 1000000) (disch := first | (simp; done) | (simp only [IHeap.size_push', IHeap.size_set']; omega) | omega) [e7, e9, e77, e78, e79, hn, hd, undef]
        refine ⟨niC_pend [(5, 8), (5, 10)] (by kernel_rfl) ⟨b4', b4', trivial⟩, ?_⟩
        refine FN.mono (same_c st5.bo n60) ?_
        rintro _ h9 ⟨rfl, z9, o9⟩
        simp (maxSteps := 1000000) (disch := first | (simp; done) | (simp only [IHeap.size_push', IHeap.size_set']; omega) | omega) [e7, e9, e77, e78, e79, hn, hd, undef]
        exact ⟨y, by omega, j + 1, by omega, by omega, _, _, _, st5.to z9 o9⟩
      by_cases k2 : kd = 2
      · subst k2
        obtain ⟨pa, pz, hp⟩ := popRes_form m L la
        simp (maxSteps := 1000000) (disch := first | (simp; done) | (simp only [IHeap.size_push', IHeap.size_set']; omega) | omega) [e7, e9, e77, e78, e79, hn, hd, hlt, hlt2, g5, g4]
        refine FN.mono (popA_c x3 n60 la) ?_
        rintro _ h4 ⟨rfl, ⟨b4, f4, t4, x4⟩, z4, o4⟩
        have y4 := RIs.prog x3 y3 o4
        have b4 := (o4 h2.size (by omega) (by omega) (by omega)).trans b3
        rw [hp]
        simp (maxSteps := 1000000) (disch := first | (simp; done) | (simp only [IHeap.size_push', IHeap.size_set']; omega) | omega) [e7, e9, e77, e78, e79, hn, hd, b4]
        refine FN.mono (rpopA_c y4 (by omega) hlen la) ?_
        rintro _ h5 ⟨rfl, ⟨u5, cs5, y5⟩, z5, o5⟩
        rw [hp]
        have x5 := SIs.ref x4 y4 o5
        have st5 : PlS h s k q w n m (popRes m L la).2 h5 := ⟨by omega, fun i hi => by rw [o5 i (by omega) (by omega), o4 i (by omega) (by omega) (by omega)]; exact st3.old i hi, ⟨⟨_, _, _, x5⟩, u5, cs5, y5⟩, l1, l2, l3⟩
        simp (maxSteps := 1000000) (disch := first | (simp; done) | (simp only [IHeap.size_push', IHeap.size_set']; omega) | omega) [e7, e9, e77, e78, e79, hn, hd, undef]
        refine FN.mono (same_c st5.bo n60) ?_
        rintro _ h9 ⟨rfl, z9, o9⟩
        simp (maxSteps := 1000000) (disch := first | (simp; done) | (simp only [IHeap.size_push', IHeap.size_set']; omega) | omega) [e7, e9, e77, e78, e79, hn, hd, undef]
        exact ⟨y, by omega, j + 1, by omega, by omega, _, _, _, st5.to z9 o9⟩
      by_cases k3 : kd = 3
      · subst k3
        simp (maxSteps := 1000000) (disch := first | (simp; done) | (simp only [IHeap.size_push', IHeap.size_set']; omega) | omega) [e7, e9, e77, e78, e79, hn, hd, hlt, hlt2, g5, g4]
        refine FN.mono (remA_c x3 n60 ca) ?_
        rintro _ h4 ⟨rfl, ⟨b4, f4, t4, x4⟩, z4, o4⟩
        have y4 := RIs.prog x3 y3 o4
        have b4' := (o4 h2.size (by omega) (by omega) (by omega))
        have b4 := b4'.trans b3
        simp (maxSteps := 1000000) (disch := first | (simp; done) | (simp only [IHeap.size_push', IHeap.size_set']; omega) | omega) [e7, e9, e77, e78, e79, hn, hd, b4]
        refine FN.mono (rremA_c y4 x3.rep (by omega) hlen ca) ?_
        rintro _ h5 ⟨rfl, ⟨u5, cs5, y5⟩, z5, o5⟩
        have x5 := SIs.ref x4 y4 o5
        have st5 : PlS h s k q w n m (remRes n m L ca).2 h5 := ⟨by omega, fun i hi => by rw [o5 i (by omega) (by omega), o4 i (by omega) (by omega) (by omega)]; exact st3.old i hi, ⟨⟨_, _, _, x5⟩, u5, cs5, y5⟩, l1, l2, l3⟩
        simp (maxSteps := 1000000) (disch := first | (simp; done) | (simp only [IHeap.size_push', IHeap.size_set']; omega) | omega) [e7, e9, e77, e78, e79, hn, hd, undef]
        refine ⟨niC_pend [(3, 6)] (by kernel_rfl) ⟨b4', trivial⟩, ?_⟩
        refine FN.mono (same_c st5.bo n60) ?_
        rintro _ h9 ⟨rfl, z9, o9⟩
        simp (maxSteps := 1000000) (disch := first | (simp; done) | (simp only [IHeap.size_push', IHeap.size_set']; omega) | omega) [e7, e9, e77, e78, e79, hn, hd, undef]
        exact ⟨y, by omega, j + 1, by omega, by omega, _, _, _, st5.to z9 o9⟩
      by_cases k4 : kd = 4
      · subst k4
        simp (maxSteps := 1000000) (disch := first | (simp; done) | (simp only [IHeap.size_push', IHeap.size_set']; omega) | omega) [e7, e9, e77, e78, e79, hn, hd, hlt, hlt2, g5, g4]
        refine FN.mono (emptied_c st3.bo n60 la) ?_
        rintro _ h4 ⟨rfl, bo4, z4, o4⟩
        have st5 : PlS h s k q w n m (emL L m la) h4 := ⟨by omega, fun i hi => by rw [o4 i (by omega) (by omega) (by omega) (by omega)]; exact st3.old i hi, bo4, l1, l2, l3⟩
        simp (maxSteps := 1000000) (disch := first | (simp; done) | (simp only [IHeap.size_push', IHeap.size_set']; omega) | omega) [e7, e9, e77, e78, e79, hn, hd, undef]
        refine FN.mono (same_c st5.bo n60) ?_
        rintro _ h9 ⟨rfl, z9, o9⟩
        simp (maxSteps := 1000000) (disch := first | (simp; done) | (simp only [IHeap.size_push', IHeap.size_set']; omega) | omega) [e7, e9, e77, e78, e79, hn, hd, undef]
        exact ⟨y, by omega, j + 1, by omega, by omega, _, _, _, st5.to z9 o9⟩
      by_cases k5 : kd = 5
      · subst k5
        simp (maxSteps := 1000000) (disch := first | (simp; done) | (simp only [IHeap.size_push', IHeap.size_set']; omega) | omega) [e7, e9, e77, e78, e79, hn, hd, hlt, hlt2, g5, g4]
        refine FN.mono (copy_c x3 m12 n60) ?_
        rintro _ h4 ⟨s', k', q', rfl, x', ls', lk', lq', z4, o4⟩
        have x4 := x3.to o4
        have y4 := y3.to o4
        have y4' := (y3.requ (q' := q') lq').to o4
        have b4 := (o4 h2.size (by omega)).trans b3
        simp (maxSteps := 1000000) (disch := first | (simp; done) | (simp only [IHeap.size_push', IHeap.size_set']; omega) | omega) [e7, e9, e77, e78, e79, hn, hd, b4]
        refine FN.mono (pushA_c x4 n60 la ca) ?_
        rintro _ h5 ⟨rfl, _, z5, o5⟩
        have y5 := RIs.prog2 x4 y4 y4' o5
        have x5 : SIs h5 s' k' q' n m L b f t := by
          have e1 := IHeap.get_lt x'.gs
          have e2 := IHeap.get_lt x'.gk
          have e3 := IHeap.get_lt x'.gq
          exact ⟨by rw [o5 _ e1 (by omega) (by omega)]; exact x'.gs, by rw [o5 _ e2 (by omega) (by omega)]; exact x'.gk, by rw [o5 _ e3 (by omega) (by omega)]; exact x'.gq, x'.rep, x'.n1, x'.m1, x'.nz, x'.mz⟩
        simp (maxSteps := 1000000) (disch := first | (simp; done) | (simp only [IHeap.size_push', IHeap.size_set']; omega) | omega) [e7, e9, e77, e78, e79, hn, hd]
        refine FN.of (rcopy_c y5) ?_
        have o6 : ∀ i, i < h5.size → (h5.push (.row false 0 [.slice (some ⟨u3, 0, none⟩) m m, .int .i64 n])).get i = h5.get i := fun i hi => IHeap.get_push_ne _ (by omega)
        have y6 := y5.to o6
        have st5 : PlS h s' k' q' h5.size n m L (h5.push (.row false 0 [.slice (some ⟨u3, 0, none⟩) m m, .int .i64 n])) := ⟨by rw [IHeap.size_push']; omega, fun i hi => by rw [o6 i (by omega), o5 i (by omega) (by omega) (by omega), o4 i (by omega)]; exact st3.old i hi, ⟨⟨_, _, _, x5.to o6⟩, u3, cs3, IHeap.get_pushed _ rfl, y6.gu, y6.at', y6.mz, y6.nz, y6.m1⟩, by omega, by omega, by omega⟩
        simp (maxSteps := 1000000) (disch := first | (simp; done) | (simp only [IHeap.size_push', IHeap.size_set']; omega) | omega) [e7, e9, e77, e78, e79, hn, hd, undef]
        refine FN.mono (same_c st5.bo n60) ?_
        rintro _ h9 ⟨rfl, z9, o9⟩
        simp (maxSteps := 1000000) (disch := first | (simp; done) | (simp only [IHeap.size_push', IHeap.size_set']; omega) | omega) [e7, e9, e77, e78, e79, hn, hd, undef]
        exact ⟨y, by omega, j + 1, by omega, by omega, _, _, _, st5.to z9 o9⟩
      by_cases k6 : kd = 6
      · subst k6
        simp (maxSteps := 1000000) (disch := first | (simp; done) | (simp only [IHeap.size_push', IHeap.size_set']; omega) | omega) [e7, e9, e77, e78, e79, hn, hd, hlt, hlt2, g5, g4]
        refine FN.mono (copy_c x3 m12 n60) ?_
        rintro _ h4 ⟨s', k', q', rfl, x', ls', lk', lq', z4, o4⟩
        have b4 := (o4 h2.size (by omega)).trans b3
        simp (maxSteps := 1000000) (disch := first | (simp; done) | (simp only [IHeap.size_push', IHeap.size_set']; omega) | omega) [e7, e9, e77, e78, e79, hn, hd, b4]
        refine FN.mono (pushA_c x' n60 la ca) ?_
        rintro _ h5 ⟨rfl, ⟨b5, f5, t5, x5⟩, z5, o5⟩
        have b5 := (o5 h2.size (by omega) (by omega) (by omega)).trans b4
        simp (maxSteps := 1000000) (disch := first | (simp; done) | (simp only [IHeap.size_push', IHeap.size_set']; omega) | omega) [e7, e9, e77, e78, e79, hn, hd, b5]
        refine FN.mono (popA_c x5 n60 la) ?_
        rintro _ h6 ⟨rfl, _, z6, o6⟩
        have st5 : PlS h s k q w n m L h6 := st3.to (by omega) (fun i hi => by rw [o6 i (by omega) (by omega) (by omega), o5 i (by omega) (by omega) (by omega), o4 i hi])
        simp (maxSteps := 1000000) (disch := first | (simp; done) | (simp only [IHeap.size_push', IHeap.size_set']; omega) | omega) [e7, e9, e77, e78, e79, hn, hd, undef]
        refine FN.mono (same_c st5.bo n60) ?_
        rintro _ h9 ⟨rfl, z9, o9⟩
        simp (maxSteps := 1000000) (disch := first | (simp; done) | (simp only [IHeap.size_push', IHeap.size_set']; omega) | omega) [e7, e9, e77, e78, e79, hn, hd, undef]
        exact ⟨y, by omega, j + 1, by omega, by omega, _, _, _, st5.to z9 o9⟩
      simp (maxSteps := 1000000) (disch := first | (simp; done) | (simp only [IHeap.size_push', IHeap.size_set']; omega) | omega) [e7, e9, e77, e78, e79, hn, hd, hlt, hlt2, g5, g4, k1, k2, k3, k4, k5, k6]
      refine FN.mono (same_c st3.bo n60) ?_
      rintro _ h9 ⟨rfl, z9, o9⟩
      simp (maxSteps := 1000000) (disch := first | (simp; done) | (simp only [IHeap.size_push', IHeap.size_set']; omega) | omega) [e7, e9, e77, e78, e79, hn, hd, undef]
      exact ⟨y, by omega, j + 1, by omega, by omega, _, _, _, st3.to z9 o9⟩
  · have bad := new_bad (h := h) ok
    by_cases w1 : 12 < li
    · have w2 : ¬ li ≤ 4096 := by omega
      have w3 : (4096 : Int) < li := by omega
      have w4 : ¬ li < 1 := by omega
      by_cases w5 : 60 < ce
      · have w6 : ¬ ce ≤ 65536 := by omega
        simp (maxSteps := 1000000) (disch := first | (simp; done) | (simp only [IHeap.size_push', IHeap.size_set']; omega) | omega) [a0, a1, a2, hn, hd, g1, w1, w2, w5, w6, undef]
        refine FN.of bad ?_
        simp (maxSteps := 1000000) (disch := first | (simp; done) | (simp only [IHeap.size_push', IHeap.size_set']; omega) | omega) [a0, a1, a2, hn, hd, undef, w3, w4]
        refine FN.of known_c ?_
        simp (maxSteps := 1000000) (disch := first | (simp; done) | (simp only [IHeap.size_push', IHeap.size_set']; omega) | omega) [hn, hd]
      · simp (maxSteps := 1000000) (disch := first | (simp; done) | (simp only [IHeap.size_push', IHeap.size_set']; omega) | omega) [a0, a1, a2, hn, hd, g1, w1, w2, w5, undef]
        refine FN.of bad ?_
        simp (maxSteps := 1000000) (disch := first | (simp; done) | (simp only [IHeap.size_push', IHeap.size_set']; omega) | omega) [a0, a1, a2, hn, hd, undef, w3, w4]
        refine FN.of known_c ?_
        simp (maxSteps := 1000000) (disch := first | (simp; done) | (simp only [IHeap.size_push', IHeap.size_set']; omega) | omega) [hn, hd]
    · by_cases w5 : 60 < ce
      · have w6 : ¬ ce ≤ 65536 := by omega
        simp (maxSteps := 1000000) (disch := first | (simp; done) | (simp only [IHeap.size_push', IHeap.size_set']; omega) | omega) [a0, a1, a2, hn, hd, g1, w1, w5, w6, undef]
        refine FN.of bad ?_
        by_cases w7 : li < 1
        · simp (maxSteps := 1000000) (disch := first | (simp; done) | (simp only [IHeap.size_push', IHeap.size_set']; omega) | omega) [a0, a1, a2, hn, hd, undef, w7]
          refine FN.of known_c ?_
          simp (maxSteps := 1000000) (disch := first | (simp; done) | (simp only [IHeap.size_push', IHeap.size_set']; omega) | omega) [hn, hd]
        · have w8 : ¬ (4096 : Int) < li := by omega
          have w9 : ¬ ce < 1 := by omega
          have w10 : (65536 : Int) < ce := by omega
          simp (maxSteps := 1000000) (disch := first | (simp; done) | (simp only [IHeap.size_push', IHeap.size_set']; omega) | omega) [a0, a1, a2, hn, hd, undef, w7, w8, w9, w10]
          refine FN.of known_c ?_
          simp (maxSteps := 1000000) (disch := first | (simp; done) | (simp only [IHeap.size_push', IHeap.size_set']; omega) | omega) [hn, hd]
      · simp (maxSteps := 1000000) (disch := first | (simp; done) | (simp only [IHeap.size_push', IHeap.size_set']; omega) | omega) [a0, a1, a2, hn, hd, g1, w1, w5, undef]
        refine FN.of bad ?_
        by_cases w7 : li < 1
        · simp (maxSteps := 1000000) (disch := first | (simp; done) | (simp only [IHeap.size_push', IHeap.size_set']; omega) | omega) [a0, a1, a2, hn, hd, undef, w7]
          refine FN.of known_c ?_
          simp (maxSteps := 1000000) (disch := first | (simp; done) | (simp only [IHeap.size_push', IHeap.size_set']; omega) | omega) [hn, hd]
        · have w8 : ¬ (4096 : Int) < li := by omega
          have w9 : ce < 1 := by omega
          simp (maxSteps := 1000000) (disch := first | (simp; done) | (simp only [IHeap.size_push', IHeap.size_set']; omega) | omega) [a0, a1, a2, hn, hd, undef, w7, w8, w9]
          refine FN.of known_c ?_
          simp (maxSteps := 1000000) (disch := first | (simp; done) | (simp only [IHeap.size_push', IHeap.size_set']; omega) | omega) [hn, hd]
end Go.Proofs.Ytepajeemcalheaa.Ideal
