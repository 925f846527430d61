import Derived.Test.YteokdllmandleaaP34f
noncomputable section
open Go.Proofs
namespace Go.Proofs.Yteokdllmandleaa.Ideal
open Go.RowKit
set_option linter.unusedSimpArgs false
set_option linter.unusedVariables false
set_option linter.unusedSectionVars false
set_option maxRecDepth 100000
set_option maxHeartbeats 4000000
attribute [-simp] IHeap.size_set IHeap.size_push
attribute [local simp ↓] Hid.ap_mk
attribute [local simp] scopeQ_normal scopeQ_ret scopeQ_exit WP_skip WP_label WP_exit WP_goto WP_ret WP_region WP_seq WP_cond WP_block WP_scope WP_loop WP_range thenQ_normal thenQ_ret thenQ_exit thenQ_goto loopQ_normal loopQ_ret loopQ_exit invQ_normal invQ_ret invQ_exit outOf_normal outOf_ret outOf_goto outOf_exit ev_tmp ev_const ev_func
  wops_nil wops_cons wantedE_none wantedE_some jgd_some wnx_eq niC_false wdo_move wdo_assign wdo_pick wdo_load wdo_store wdo_alloc wdo_box wdo_fieldAddr wdo_indexAddr wdo_field wdo_extract wdo_build wdo_buildSlice wdo_makeSlice wdo_binOp wdo_unOp wdo_makeFunc wdo_nilCheck wdo_callV wdo_len wdo_append wdo_copy wdo_delete wdo_max wdo_min wdo_convert jcvt_int
  xput_get put_n put_none put_dfr ibin finQ_n finQ_r finD_nil splice_one ires_nil ires_one ires_two ires_three ires1_tmp ires1_cell jcell_ptr rowLoad_row wrap64 wrapU64 wrapU8 wrapU16 wrapU32 callV_fn buildOf Instr.fill Value.cells Value.oneCell' kindOf slots_all splice_all IHeap.size_set' IHeap.size_push' IHeap.get_set_same IHeap.get_set_ne IHeap.get_pushed IHeap.get_push_ne IHeap.set_set IHeap.set_push IHeap.set_pushed IHeap.set_set3 getU_nil getU_same getU_ne jif_true jif_false pushH_eq setH_eq forceL_eq forceV_eq ibuildSlice
attribute [local simp] wdo_index jopt_some wdo_cut33 wdo_all23 wdo_all24 arrAll wdo_toArr
attribute [-simp] Value.oneCell'
attribute [local simp] one_int' one_slc'
def zAR : AR := ⟨0, [0, 0, 0, 0, 0, 0], [0, 0, 0, 0, 0, 0], [0, 0, 0, 0], [0, 0, 0, 0], rfl, rfl, rfl, rfl⟩
theorem sub_len' (l : List Nat) (o k : Nat) (h : 28 ≤ l.length) (h2 : o + k ≤ 28) : (sub l o k).length = k := sub_len (by omega)
/-- The message that bytes are. -/
def arOf (l : List Nat) (h : 28 ≤ l.length) : AR := ⟨l.getD 7 0, sub l 8 6, sub l 18 6, sub l 14 4, sub l 24 4, sub_len' l 8 6 h (by omega), sub_len' l 18 6 h (by omega), sub_len' l 14 4 h (by omega), sub_len' l 24 4 h (by omega)⟩
def hd6 : List Nat := [0, 1, 8, 0, 6, 4]
/-- What Read tells. -/
def readR (l : List Nat) : AR × Int := if h : 28 ≤ l.length then (if sub l 0 6 ≠ hd6 then (zAR, 10) else if l.getD 6 0 = 0 ∧ (l.getD 7 0 = 1 ∨ l.getD 7 0 = 2) then (arOf l h, 0) else (zAR, 5)) else (zAR, 4)
def RdV (h : IHeap) (l : List Nat) (v : Value) (h' : IHeap) : Prop := v = .tuple #[(readR l).1.val, .int .i64 (readR l).2] ∧ h.size ≤ h'.size ∧ ∀ i, i < h.size → h'.get i = h.get i
theorem ze26' : zeroOf Try.prog 26 = some zAR.row.toArray := by kernel_rfl
attribute [-simp] ze26
attribute [local simp] ze26'
theorem bld26 {f t fi i : List Nat} (op : Nat) (h1 : f.length = 6) (h2 : t.length = 6) (h3 : fi.length = 4) (h4 : i.length = 4) : buildOf Try.prog 26 [(0, .int .u16 op), (1, .agg (bys f).toArray), (3, .agg (bys fi).toArray), (2, .agg (bys t).toArray), (4, .agg (bys i).toArray)] = some (AR.val ⟨op, f, t, fi, i, h1, h2, h3, h4⟩) := by
  obtain ⟨a, b, c, e, f, g, rfl⟩ := len6 h1
  obtain ⟨a', b', c', e', f', g', rfl⟩ := len6 h2
  obtain ⟨x, y, z, w, rfl⟩ := len4 h3
  obtain ⟨x', y', z', w', rfl⟩ := len4 h4
  kernel_rfl
theorem op16 {x y : Nat} (hx : x < 256) (hy : y < 256) : IntKind.u16.wrap (((IntKind.u16.wrap (IntKind.u16.wrap (x : Int) * 2 ^ min 8 IntKind.u16.bits) % 2 ^ IntKind.u16.bits).toNat ||| (IntKind.u16.wrap (y : Int) % 2 ^ IntKind.u16.bits).toNat : Nat) : Int) = ((256 * x + y : Nat) : Int) := by
  have w1 : IntKind.u16.wrap (x : Int) = x := wrapU16 (by omega) (by omega)
  have w2 : IntKind.u16.wrap (y : Int) = y := wrapU16 (by omega) (by omega)
  have e1 : (2 : Int) ^ min 8 IntKind.u16.bits = 256 := rfl
  have e2 : (2 : Int) ^ IntKind.u16.bits = 65536 := rfl
  have w3 : IntKind.u16.wrap ((x : Int) * 256) = x * 256 := wrapU16 (by omega) (by omega)
  rw [w1, w2, e1, e2, w3]
  have t1 : ((x : Int) * 256 % 65536).toNat = x <<< 8 := by rw [Nat.shiftLeft_eq]; omega
  have t2 : ((y : Int) % 65536).toNat = y := by omega
  rw [t1, t2, ← Nat.shiftLeft_add_eq_or_of_lt (by omega : y < 2 ^ 8), Nat.shiftLeft_eq]
  rw [show x * 2 ^ 8 + y = 256 * x + y by omega]
  exact wrapU16 (by omega) (by omega)
theorem cut_hi {H : IHeap} {p n c u z : Nat} {ro : Bool} {cs : List Value} (g : H.get p = some (.row ro z cs)) (he : z = 0 ∨ z = 1) (hu : u ≤ c) : islice Try.prog H 33 (.slice (some ⟨p, 0, none⟩) n c) none (some (.int .i64 (u : Nat))) none = some (.slice (some ⟨p, 0, none⟩) u c, H, .read p) := by
  have := islice_eq (P := Try.prog) (h := H) (t := 33) sl33 g he (q := 0) (bounds_hi (n := n) (c := c) (u := u) (k := .i64) hu)
  simpa using this
theorem cut_lo {H : IHeap} {p n c l z : Nat} {ro : Bool} {cs : List Value} (g : H.get p = some (.row ro z cs)) (he : z = 0 ∨ z = 1) (hl : l ≤ n) (hn : n ≤ c) : islice Try.prog H 33 (.slice (some ⟨p, 0, none⟩) n c) (some (.int .i64 (l : Nat))) none none = some (.slice (some ⟨p, l, none⟩) (n - l) (c - l), H, .read p) := by
  have := islice_eq (P := Try.prog) (h := H) (t := 33) sl33 g he (q := 0) (bounds_lo (n := n) (c := c) (l := l) (k := .i64) hl hn)
  simpa using this
theorem cut_both {H : IHeap} {p n c l u z : Nat} {ro : Bool} {cs : List Value} (g : H.get p = some (.row ro z cs)) (he : z = 0 ∨ z = 1) (hl : l ≤ u) (hu : u ≤ c) : islice Try.prog H 33 (.slice (some ⟨p, 0, none⟩) n c) (some (.int .i64 (l : Nat))) (some (.int .i64 (u : Nat))) none = some (.slice (some ⟨p, l, none⟩) (u - l) (c - l), H, .read p) := by
  have := islice_eq (P := Try.prog) (h := H) (t := 33) sl33 g he (q := 0) (bounds_both (n := n) (c := c) (l := l) (u := u) (k := .i64) (k' := .i64) hl hu)
  simpa using this
theorem read_c {h : IHeap} {A : Option Addr} {l : List Nat} {c : Nat} (hb : ∀ b ∈ l, b < 256) (hc : l.length ≤ c) (hA : 28 ≤ l.length → ∃ p ro z, A = some ⟨p, 0, none⟩ ∧ h.get p = some (.row ro z (bys l)) ∧ (z = 0 ∨ z = 1)) :
    FN Try.prog 10 #[.slice A l.length c] h (Q := ⟨fun v h' => RdV h l v h'⟩) := by
  refine FN.enter mixed (fn := Try.f10) (by kernel_rfl) rfl (by kernel_rfl) fun e hn hg hd => ?_
  simp [Try.f10] at hn
  have a0 : e.get 0 = .slice A l.length c := hg 0 (by omega)
  clear hg
  have zs := zAR.s21
  have zl := zAR.row_len
  by_cases h28 : 28 ≤ l.length
  · obtain ⟨p, ro, z, rfl, gp, hz⟩ := hA h28
    have pz := IHeap.get_lt gp
    have c1 : ¬ (l.length : Int) < 28 := by omega
    obtain ⟨H, hH⟩ : ∃ H, h.push (.row false 0 zAR.row) = H := ⟨_, rfl⟩
    have gp1 : H.get p = some (.row ro z (bys l)) := by rw [← hH, IHeap.get_push_ne _ (by omega)]; exact gp
    have hz1 : H.size = h.size + 1 := by rw [← hH]; exact IHeap.size_push' _ _
    have b6l : 6 < l.length := by omega
    have b7l : 7 < l.length := by omega
    have g6 := bys_at b6l
    have g7 := bys_at b7l
    have g6' : ∀ hh, (bys l)[6]'hh = .int .u8 (l[6] : Nat) := fun hh => by rw [List.getElem?_eq_getElem hh] at g6; injection g6
    have g7' : ∀ hh, (bys l)[7]'hh = .int .u8 (l[7] : Nat) := fun hh => by rw [List.getElem?_eq_getElem hh] at g7; injection g7
    have bl := bys_len l
    simp (maxSteps := 1000000) (disch := first | (simp; done) | (simp only [IHeap.size_push', IHeap.size_set']; omega) | omega) [a0, hn, hd, c1, hH, gp1, g6, g7, g6', g7', bl, b6l, b7l, wrapU16, hz1, show (6 : Int) < l.length by omega, show (7 : Int) < l.length by omega]
    have k1 := cut_hi (n := l.length) (c := c) (u := 6) gp1 hz (by omega)
    rw [show ((6 : Nat) : Int) = 6 from rfl] at k1
    refine ⟨niC_pend [] (by kernel_rfl) trivial, ?_⟩
    simp (maxSteps := 1000000) (disch := first | (simp; done) | (simp only [IHeap.size_push', IHeap.size_set']; omega) | omega) [a0, hn, hd, cutN, cutV, kindOf, k1]
    refine FN.of kind_c ?_
    have gp2 : (H.push (.row false 1 (bys [0, 1, 8, 0, 6, 4]))).get p = some (.row ro z (bys l)) := by rw [IHeap.get_push_ne _ (by omega)]; exact gp1
    have eqc := equal_c (h := H.push (.row false 1 (bys [0, 1, 8, 0, 6, 4]))) (p := p) (q := H.size) (op := 0) (oq := 0) (c1 := c) (c2 := 6) (l := sub l 0 6) (m := hd6) gp2 (IHeap.get_pushed _ rfl) (by rw [sub_len' l 0 6 h28 (by omega)]; rfl) (by rw [sub_len' l 0 6 h28 (by omega)]; omega) (fun j hj => by
      rw [sub_len' l 0 6 h28 (by omega)] at hj
      rw [Nat.zero_add, bys_at (show j < l.length by omega)]
      simp [sub]) (fun j hj => by
      rw [Nat.zero_add]
      exact bys_at hj)
    rw [sub_len' l 0 6 h28 (by omega), show hd6.length = 6 from rfl] at eqc
    simp (maxSteps := 1000000) (disch := first | (simp; done) | (simp only [IHeap.size_push', IHeap.size_set']; omega) | omega) [a0, hn, hd]
    refine FN.of eqc ?_
    have gH : H.get h.size = some (.row false 0 zAR.row) := by rw [← hH]; exact IHeap.get_pushed _ rfl
    have oH : ∀ i, i < h.size → H.get i = h.get i := fun i hi => by rw [← hH]; exact IHeap.get_push_ne _ (by omega)
    have hr : readR l = (if sub l 0 6 ≠ hd6 then (zAR, 10) else if l.getD 6 0 = 0 ∧ (l.getD 7 0 = 1 ∨ l.getD 7 0 = 2) then (arOf l h28, 0) else (zAR, 5)) := by
      unfold readR
      rw [dif_pos h28]
    have e6 : l.getD 6 0 = l[6] := by simp [b6l]
    have e7 : l.getD 7 0 = l[7] := by simp [b7l]
    have x6 := hb _ (List.getElem_mem b6l)
    have x7 := hb _ (List.getElem_mem b7l)
    have opv := op16 x6 x7
    rw [show IntKind.u16.wrap ((l[6] : Nat) : Int) = l[6] from wrapU16 (by omega) (by omega), show IntKind.u16.wrap ((l[7] : Nat) : Int) = l[7] from wrapU16 (by omega) (by omega)] at opv
    have oK : ∀ i, i < h.size → (H.push (.row false 1 (bys [0, 1, 8, 0, 6, 4]))).get i = h.get i := fun i hi => by rw [IHeap.get_push_ne _ (by omega), oH i hi]
    have gK : (H.push (.row false 1 (bys [0, 1, 8, 0, 6, 4]))).get h.size = some (.row false 0 zAR.row) := by rw [IHeap.get_push_ne _ (by omega)]; exact gH
    have hKz : (H.push (.row false 1 (bys [0, 1, 8, 0, 6, 4]))).size = h.size + 2 := by rw [IHeap.size_push']; omega
    have kp : (H.push (.row false 1 (bys [0, 1, 8, 0, 6, 4]))).get p = H.get p := IHeap.get_push_ne _ (by omega)
    by_cases c2 : sub l 0 6 = hd6
    · simp (maxSteps := 1000000) (disch := first | (simp; done) | (simp only [IHeap.size_push', IHeap.size_set']; omega) | omega) [a0, hn, hd, c2]
      refine ⟨niC_pend [(1, 2)] (by kernel_rfl) ⟨kp, trivial⟩, ?_⟩
      rw [opv]
      by_cases c3 : 256 * l[6] + l[7] = 1 ∨ 256 * l[6] + l[7] = 2
      · have e8 : 256 * l[6] + l[7] = l[7] := by omega
        have hr2 : readR l = (arOf l h28, 0) := by
          rw [hr, if_neg (by simpa using c2), if_pos ⟨by omega, by omega⟩]
        have k8 := cut_both (n := l.length) (c := c) (l := 8) (u := 14) gp2 hz (by omega) (by omega)
        have k14 := cut_both (n := l.length) (c := c) (l := 14) (u := 18) gp2 hz (by omega) (by omega)
        have k18 := cut_both (n := l.length) (c := c) (l := 18) (u := 24) gp2 hz (by omega) (by omega)
        have k24 := cut_both (n := l.length) (c := c) (l := 24) (u := 28) gp2 hz (by omega) (by omega)
        have s8 := slots_bys (l := l) (o := 8) (k := 6) (by omega)
        have s14 := slots_bys (l := l) (o := 14) (k := 4) (by omega)
        have s18 := slots_bys (l := l) (o := 18) (k := 6) (by omega)
        have s24 := slots_bys (l := l) (o := 24) (k := 4) (by omega)
        have bl26 := bld26 l[7] (sub_len' l 8 6 h28 (by omega)) (sub_len' l 18 6 h28 (by omega)) (sub_len' l 14 4 h28 (by omega)) (sub_len' l 24 4 h28 (by omega))
        rw [show (⟨l[7], sub l 8 6, sub l 18 6, sub l 14 4, sub l 24 4, sub_len' l 8 6 h28 (by omega), sub_len' l 18 6 h28 (by omega), sub_len' l 14 4 h28 (by omega), sub_len' l 24 4 h28 (by omega)⟩ : AR) = arOf l h28 by unfold arOf; simp only [e7], AR.val] at bl26
        have al := (arOf l h28).row_len
        have ao := (arOf l h28).row_one
        have aS := (arOf l h28).s21
        have spA : splice zAR.row 0 (arOf l h28).row = (arOf l h28).row := splice_all (by rw [zl, al])
        rw [e8]
        rw [show ((8 : Nat) : Int) = 8 from rfl, show ((14 : Nat) : Int) = 14 from rfl] at k8
        rw [show ((14 : Nat) : Int) = 14 from rfl, show ((18 : Nat) : Int) = 18 from rfl] at k14
        rw [show ((18 : Nat) : Int) = 18 from rfl, show ((24 : Nat) : Int) = 24 from rfl] at k18
        rw [show ((24 : Nat) : Int) = 24 from rfl, show ((28 : Nat) : Int) = 28 from rfl] at k24
        generalize H.push (.row false 1 (bys [0, 1, 8, 0, 6, 4])) = K at gK oK hKz gp2 k8 k14 k18 k24 ⊢
        refine FN.of (isOp_c l[7]) ?_
        have c4 : l[7] = 1 ∨ l[7] = 2 := by omega
        simp (maxSteps := 1000000) (disch := first | (simp; done) | (simp only [IHeap.size_push', IHeap.size_set']; omega) | omega) [-buildOf, -Instr.fill, a0, hn, hd, c4, cutN, cutV, kindOf, k8, k14, k18, k24, toArrV, gp2, s8, s14, s18, s24, bl26, gK, zl, al, ao, aS, spA]
        refine ⟨niC_pend [] (by kernel_rfl) trivial, by rw [hr2]; rfl, by rw [IHeap.size_set]; omega, fun i hi => ?_⟩
        rw [IHeap.get_set_ne _ (by omega), oK i hi]
      · have c5 : ¬ (l.getD 6 0 = 0 ∧ (l.getD 7 0 = 1 ∨ l.getD 7 0 = 2)) := by omega
        have hr2 : readR l = (zAR, 5) := by
          rw [hr, if_neg (by simpa using c2), if_neg c5]
        refine FN.of (isOp_c (256 * l[6] + l[7])) ?_
        generalize H.push (.row false 1 (bys [0, 1, 8, 0, 6, 4])) = K at gK oK hKz gp2 ⊢
        have Kz := IHeap.get_lt gK
        simp (maxSteps := 1000000) (disch := first | (simp; done) | (simp only [IHeap.size_push', IHeap.size_set']; omega) | omega) [a0, hn, hd, c3, gK, zs, zl, zAR.row_one]
        refine ⟨by rw [hr2]; rfl, by rw [IHeap.size_set]; omega, fun i hi => ?_⟩
        rw [IHeap.get_set_ne _ (by omega), oK i hi]
    · have hr2 : readR l = (zAR, 10) := by rw [hr, if_pos c2]
      simp (maxSteps := 1000000) (disch := first | (simp; done) | (simp only [IHeap.size_push', IHeap.size_set']; omega) | omega) [a0, hn, hd, c2, gH, zs, zl, zAR.row_one]
      refine ⟨niC_pend [(1, 2)] (by kernel_rfl) ⟨kp, trivial⟩, by rw [hr2]; rfl, by rw [IHeap.size_push', IHeap.size_set']; omega, fun i hi => ?_⟩
      rw [IHeap.get_push_ne _ (by rw [IHeap.size_set']; omega), IHeap.get_set_ne _ (by omega), oH i hi]
  · have hr2 : readR l = (zAR, 4) := by
      unfold readR
      rw [dif_neg h28]
    have c1 : (l.length : Int) < 28 := by omega
    simp (maxSteps := 1000000) (disch := first | (simp; done) | (simp only [IHeap.size_push', IHeap.size_set']; omega) | omega) [a0, hn, hd, c1, zs, zl, zAR.row_one]
    exact ⟨by rw [hr2]; rfl, by rw [IHeap.size_push']; omega, fun i hi => IHeap.get_push_ne _ (by omega)⟩
end Go.Proofs.Yteokdllmandleaa.Ideal
