import Derived.Test.YtfgaggpfdckggaaP18e
noncomputable section
open Go.Proofs
namespace Go.Proofs.Ytfgaggpfdckggaa.Ideal
open Go.RowKit
set_option linter.unusedSimpArgs false
set_option linter.unusedVariables false
set_option linter.unusedSectionVars false
set_option linter.unnecessarySimpa false
set_option maxRecDepth 100000
set_option maxHeartbeats 2000000
attribute [-simp] IHeap.size_set IHeap.size_push
attribute [local simp ↓] Hid.ap_mk
attribute [local simp] scopeQ_normal scopeQ_ret scopeQ_exit WP_skip WP_label WP_exit WP_goto WP_ret WP_region WP_seq WP_cond WP_block WP_scope WP_loop WP_range thenQ_normal thenQ_ret thenQ_exit thenQ_goto loopQ_normal loopQ_ret loopQ_exit invQ_normal invQ_ret invQ_exit outOf_normal outOf_ret outOf_goto outOf_exit ev_tmp ev_const ev_func
  wops_nil wops_cons wantedE_none wantedE_some jgd_some wnx_eq niC_false wdo_move wdo_assign wdo_pick wdo_load wdo_store wdo_alloc wdo_box wdo_fieldAddr wdo_indexAddr wdo_field wdo_extract wdo_build wdo_buildSlice wdo_makeSlice wdo_binOp wdo_unOp wdo_makeFunc wdo_nilCheck wdo_callV wdo_len wdo_append wdo_copy wdo_delete wdo_max wdo_min wdo_convert jcvt_int
  xput_get put_n put_none put_dfr ibin finQ_n finQ_r finD_nil splice_one ires_nil ires_one ires_two ires_three ires1_tmp ires1_cell jcell_ptr rowLoad_row wrap64 wrapU64 wrapU8 wrapU16 wrapU32 callV_fn buildOf Instr.fill Value.cells Value.oneCell' kindOf slots_all splice_all IHeap.size_set' IHeap.size_push' IHeap.get_set_same IHeap.get_set_ne IHeap.get_pushed IHeap.get_push_ne IHeap.set_set IHeap.set_push IHeap.set_pushed IHeap.set_set3 getU_nil getU_same getU_ne jif_true jif_false pushH_eq setH_eq forceL_eq forceV_eq ibuildSlice
attribute [-simp] Value.oneCell'
theorem arr_mk (l : List Value) : (⟨l⟩ : Array Value) = l.toArray := rfl
theorem ofMay {m : Int} (s : ByteArray) (h : sizeB m = true) : mayB (ofO m s) (ofS m s) m = true := by
  obtain ⟨m7, mm⟩ := size_ge h
  have b1 := Int.emod_nonneg (nameH 1 s : Int) (show m ≠ 0 by omega)
  have b2 := Int.emod_lt_of_pos (nameH 1 s : Int) (show 0 < m by omega)
  have b3 := Int.emod_nonneg (nameH 2 s : Int) (show m - 1 ≠ 0 by omega)
  have b4 := Int.emod_lt_of_pos (nameH 2 s : Int) (show 0 < m - 1 by omega)
  unfold mayB ofO ofS
  simp only [h, Bool.true_and, Bool.and_eq_true, decide_eq_true_eq]
  omega
/-- Which slots are seen. -/
def seenR (o s m : Int) (M k : Nat) : List Value := (List.range M).map fun y => .int .i64 (if (∃ j, j < k ∧ sq o s m j = (y : Nat)) then 1 else 0)
theorem seenR_zero (o s m : Int) (M : Nat) : List.replicate M (Value.int .i64 0) = seenR o s m M 0 := by
  apply List.ext_getElem? ; intro i
  by_cases h : i < M <;> simp [seenR, h]
theorem seenR_len (o s m : Int) (M k : Nat) : (seenR o s m M k).length = M := by simp [seenR]
theorem seenR_get {o s m : Int} {M k X : Nat} (hX : X < M) : (seenR o s m M k)[X]? = some (.int .i64 (if (∃ j, j < k ∧ sq o s m j = (X : Nat)) then 1 else 0)) := by simp [seenR, hX]
theorem seenR_set {o s m : Int} {M k X : Nat} (hX : X < M) (h : sq o s m k = X) : splice (seenR o s m M k) X [.int .i64 1] = seenR o s m M (k + 1) := by
  rw [splice_one _ (by rw [seenR_len]; exact hX)]
  apply List.ext_getElem?
  intro i
  by_cases hi : i < M
  · by_cases hiX : X = i
    · subst hiX
      rw [List.getElem?_set_self (by rw [seenR_len]; exact hX), seenR_get hX, if_pos ⟨k, by omega, h⟩]
    · rw [List.getElem?_set_ne hiX, seenR_get hi, seenR_get hi]
      congr 3
      rw [eq_iff_iff]
      constructor
      · rintro ⟨j, h1, h2⟩; exact ⟨j, by omega, h2⟩
      · rintro ⟨j, h1, h2⟩
        refine ⟨j, ?_, h2⟩
        by_cases e : j = k
        · rw [e, h] at h2; omega
        · omega
  · rw [List.getElem?_eq_none (by simp [seenR_len]; omega), List.getElem?_eq_none (by simp [seenR_len]; omega)]
theorem once_c {h : IHeap} (st : ByteArray) (m i : Int) : FN Try.prog 4 #[.string st, .int .i64 m, .int .i64 i] h (Q := ⟨fun v h' => v = .bool true⟩) := by
  refine FN.enter mixed (fn := Try.f4) (by kernel_rfl) rfl (by kernel_rfl) fun e hn hg hd => ?_
  simp [Try.f4] at hn
  have a0 : e.get 0 = .string st := hg 0 (by omega)
  have a1 : e.get 1 = .int .i64 m := hg 1 (by omega)
  have a2 : e.get 2 = .int .i64 i := hg 2 (by omega)
  clear hg
  by_cases hs : (200 : Int) < st.size
  · simp (maxSteps := 1000000) (disch := first | (simp; done) | (simp only [IHeap.size_push', IHeap.size_set']; omega) | omega) [a0, a1, a2, hn, hd, hs]
    refine FN.of known_c ?_
    simp (maxSteps := 1000000) (disch := first | (simp; done) | (simp only [IHeap.size_push', IHeap.size_set']; omega) | omega) [hn, hd]
  by_cases hm3 : (3000 : Int) < m
  · simp (maxSteps := 1000000) (disch := first | (simp; done) | (simp only [IHeap.size_push', IHeap.size_set']; omega) | omega) [a0, a1, a2, hn, hd, hs, hm3]
    refine FN.of known_c ?_
    simp (maxSteps := 1000000) (disch := first | (simp; done) | (simp only [IHeap.size_push', IHeap.size_set']; omega) | omega) [hn, hd]
  by_cases hi0 : i < 0
  · simp (maxSteps := 1000000) (disch := first | (simp; done) | (simp only [IHeap.size_push', IHeap.size_set']; omega) | omega) [a0, a1, a2, hn, hd, hs, hm3, hi0]
    refine FN.of known_c ?_
    simp (maxSteps := 1000000) (disch := first | (simp; done) | (simp only [IHeap.size_push', IHeap.size_set']; omega) | omega) [hn, hd]
  by_cases hi1 : 1099511627776 < i
  · simp (maxSteps := 1000000) (disch := first | (simp; done) | (simp only [IHeap.size_push', IHeap.size_set']; omega) | omega) [a0, a1, a2, hn, hd, hs, hm3, hi0, hi1]
    refine FN.of known_c ?_
    simp (maxSteps := 1000000) (disch := first | (simp; done) | (simp only [IHeap.size_push', IHeap.size_set']; omega) | omega) [hn, hd]
  simp (maxSteps := 1000000) (disch := first | (simp; done) | (simp only [IHeap.size_push', IHeap.size_set']; omega) | omega) [a0, a1, a2, hn, hd, hs, hm3, hi0, hi1]
  refine FN.ct (of_c st m (by omega)) ?_
  intro h2 fr
  cases hz : sizeB m
  · simp (maxSteps := 1000000) (disch := first | (simp; done) | (simp only [IHeap.size_push', IHeap.size_set']; omega) | omega) [a0, a1, a2, hn, hd, hs, ofV, hz, one_int, pmV, arr_mk, eq23]
    refine FN.of known_c ?_
    simp (maxSteps := 1000000) (disch := first | (simp; done) | (simp only [IHeap.size_push', IHeap.size_set']; omega) | omega) [hn, hd]
  · have hmay := ofMay st hz
    generalize hO : ofO m st = o at hmay
    generalize hS : ofS m st = s at hmay
    have hV : ofV m st = .tuple #[.agg #[.int .i64 o, .int .i64 s, .int .i64 m], .int .i64 0] := by rw [ofV, if_pos hz, hO, hS]; rfl
    obtain ⟨m7, mm, o0, o1, s1, s2⟩ := may_ge hmay
    obtain ⟨M, rfl⟩ : ∃ M : Nat, m = M := ⟨m.toNat, by omega⟩
    rw [hV]
    have mk := fun h => mk_ints (h := h) M (by omega)
    simp (maxSteps := 1000000) (disch := first | (simp; done) | (simp only [IHeap.size_push', IHeap.size_set']; omega) | omega) [a0, a1, a2, hn, hd, hs, one_int, mk]
    rw [seenR_zero o s M M]
    have hz2 := fr.size
    have hK : allK o s M M = M := by
      unfold allK
      rw [if_pos hmay]; simp
    refine FN.mono (all_c o s M M (by omega)) ?_
    rintro v h3 ⟨fr3, r, rfl, hr⟩
    rw [hK] at hr ⊢
    obtain ⟨hr1, hr2⟩ := hr (by omega)
    simp only [IHeap.size_push'] at hr1
    rw [slcI_eq, seqL_len]
    have hne : seqL o s M M ≠ [] := fun h => by have := congrArg List.length h; rw [seqL_len] at this; simp at this; omega
    have ad : adrI (seqL o s M M) r = some ⟨r, 0, none⟩ := by simp [adrI, hne]
    rw [ad]
    have hz3 := fr3.size
    simp only [IHeap.size_push'] at hz3
    have g3 : h3.get h2.size = some (.row false 0 [.int .i64 o, .int .i64 s, .int .i64 M]) := by
      rw [fr3.get _ (by (try simp only [IHeap.size_push', IHeap.size_set']); omega)]
      simp (maxSteps := 1000000) (disch := first | (simp; done) | (simp only [IHeap.size_push', IHeap.size_set']; omega) | omega) []
    have g4 : h3.get (h2.size + 1) = some (.row false 1 (seenR o s M M 0)) := by
      rw [fr3.get _ (by (try simp only [IHeap.size_push', IHeap.size_set']); omega)]
      simp (maxSteps := 1000000) (disch := first | (simp; done) | (simp only [IHeap.size_push', IHeap.size_set']; omega) | omega) []
    clear fr3 hr
    simp (maxSteps := 1000000) (disch := first | (simp; done) | (simp only [IHeap.size_push', IHeap.size_set']; omega) | omega) [a0, a1, a2, hn, hd, hs, one_int]
    refine WPL.by_inv mixed (by kernel_rfl) (fun k e h' => ∃ j : Nat, j + k = M ∧ e.n = 160 ∧ e.dfr = [] ∧ e.get 1 = .int .i64 M ∧ e.get 2 = .int .i64 i ∧ e.get 7 = .pointer (some ⟨h2.size, 0, none⟩) ∧ e.get 9 = .slice (some ⟨h2.size + 1, 0, none⟩) M M ∧ e.get 10 = .slice (some ⟨r, 0, none⟩) M M ∧ e.get 63 = .slice (some ⟨r, 0, none⟩) M M ∧ e.get 64 = .int .i64 M ∧ e.get 65 = .int .i64 j ∧ h'.get h2.size = some (.row false 0 [.int .i64 o, .int .i64 s, .int .i64 M]) ∧ h'.get (h2.size + 1) = some (.row false 1 (seenR o s M M j)) ∧ h'.get r = some (.row false 1 (ints (seqL o s M M)))) M ?_ ?_
    · refine ⟨0, ?_⟩
      simp (maxSteps := 1000000) (disch := first | (simp; done) | (simp only [IHeap.size_push', IHeap.size_set']; omega) | omega) [a0, a1, a2, hn, hd, g3, g4, hr2]
    clear hn hd a0 a1 a2 g3 g4 hr2 hz3 e h3
    rintro k e h3 ⟨j, hj, hn, hd, e1, e2, e7, e9, e10, e63, e64, e65, g3, g4, hr2⟩
    cases k with
    | zero =>
      obtain rfl : j = M := by omega
      clear hj
      obtain ⟨T, hT⟩ : ∃ T : Nat, i % (j : Int) = T := ⟨(i % (j : Int)).toNat, by have := Int.emod_nonneg i (show (j : Int) ≠ 0 by omega); omega⟩
      have hTj : T < j := by have := Int.emod_lt_of_pos i (show (0 : Int) < j by omega); omega
      have hTj2 : (T : Int) < j := by omega
      have et : i.tmod (j : Int) = T := by rw [Int.tmod_eq_emod_of_nonneg (by omega)]; exact hT
      have j0 : (j : Int) ≠ 0 := by omega
      have j0' : j ≠ 0 := by omega
      simp (maxSteps := 1000000) (disch := first | (simp; done) | (simp only [IHeap.size_push', IHeap.size_set']; omega) | omega) [e1, e2, e7, e9, e10, e63, e64, e65, hn, hd, g3, et, j0, j0']
      have hK2 : allK o s j T = T + 1 := by
        unfold allK
        rw [if_pos hmay]; simp; omega
      refine FN.mono (all_c o s j T (by omega)) ?_
      rintro v h4 ⟨fr4, q, rfl, hq⟩
      rw [hK2] at hq ⊢
      obtain ⟨hq1, hq2⟩ := hq (by omega)
      rw [slcI_succ]
      have hr3 : h4.get r = some (.row false 1 (ints (seqL o s j j))) := by rw [fr4.get _ (IHeap.get_lt hr2)]; exact hr2
      have hsz3 := IHeap.get_lt g3
      have hz4 := fr4.size
      have g5 : h4.get h2.size = some (.row false 0 [.int .i64 o, .int .i64 s, .int .i64 j]) := by
        rw [fr4.get _ (by (try simp only [IHeap.size_push', IHeap.size_set']); omega)]
        simp (maxSteps := 1000000) (disch := first | (simp; done) | (simp only [IHeap.size_push', IHeap.size_set']; omega) | omega) [g3]
      simp (maxSteps := 1000000) (disch := first | (simp; done) | (simp only [IHeap.size_push', IHeap.size_set']; omega) | omega) [e1, e2, e7, e9, e10, e63, e64, e65, hn, hd, g5, et, j0, j0', one_slc]
      refine ⟨niC_pend [] (by kernel_rfl) trivial, ?_⟩
      clear hq fr4 g3 g4 hr2
      refine WPL.by_inv mixed (by kernel_rfl) (fun k e h' => ∃ l : Nat, l + k = T + 1 ∧ e.n = 160 ∧ e.dfr = [] ∧ e.get 1 = .int .i64 j ∧ e.get 2 = .int .i64 i ∧ e.get 7 = .pointer (some ⟨h2.size, 0, none⟩) ∧ e.get 10 = .slice (some ⟨r, 0, none⟩) j j ∧ e.get 11 = .bool true ∧ e.get 96 = .slice (some ⟨q, 0, none⟩) (T + 1) (T + 1) ∧ e.get 97 = .int .i64 (T + 1) ∧ e.get 98 = .int .i64 l ∧ h' = h4) (T + 1) ?_ ?_
      · refine ⟨0, ?_⟩
        simp (maxSteps := 1000000) (disch := first | (simp; done) | (simp only [IHeap.size_push', IHeap.size_set']; omega) | omega) [e1, e2, e7, e9, e10, e63, e64, e65, hn, hd]
      clear hn hd e1 e2 e7 e9 e10 e63 e64 e65 e
      rintro k e h' ⟨l, hl, hn, hd, e1, e2, e7, e10, e11, e96, e97, e98, rfl⟩
      cases k with
      | zero =>
        obtain rfl : l = T + 1 := by omega
        have i0 : 0 ≤ i := by omega
        have v1 : atV o s j i = sq o s j T := by unfold atV; rw [if_pos ⟨i0, hmay⟩, hT]; rfl
        have v2 : atV o s j (i + j) = sq o s j T := by unfold atV; rw [if_pos ⟨by omega, hmay⟩, Int.add_emod_right, hT]; rfl
        have v3 : whereV o s j (sq o s j T) = T := whereV_hit hmay (by simpa using hTj) rfl (fun a ha h => by have := sq_inj hmay (by simp; omega) (by simpa using hTj) h; omega)
        have v4 : whereV o s j j = -1 := whereV_miss (fun a ha h => by have := (sq_rng (o := o) (s := s) m7 a).2; omega)
        have gT := ints_get (seqL_get o s j hTj)
        simp (maxSteps := 1000000) (disch := first | (simp; done) | (simp only [IHeap.size_push', IHeap.size_set']; omega) | omega) [e1, e2, e7, e10, e11, e96, e97, e98, hn, hd, g5]
        refine FN.ct (at_c o s j i) ?_
        intro h5 fr5
        have hz5 := fr5.size
        have hs5 := IHeap.get_lt g5
        have g6 : h5.get h2.size = some (.row false 0 [.int .i64 o, .int .i64 s, .int .i64 j]) := by
          rw [fr5.get _ (by (try simp only [IHeap.size_push', IHeap.size_set']); omega)]
          simp (maxSteps := 1000000) (disch := first | (simp; done) | (simp only [IHeap.size_push', IHeap.size_set']; omega) | omega) [g5]
        have r6 : h5.get r = some (.row false 1 (ints (seqL o s j j))) := by rw [fr5.get _ (IHeap.get_lt hr3)]; exact hr3
        rw [v1]
        simp (maxSteps := 1000000) (disch := first | (simp; done) | (simp only [IHeap.size_push', IHeap.size_set']; omega) | omega) [e1, e2, e7, e10, e11, e96, e97, e98, hn, hd, g6, r6, et, j0, j0', hTj, hTj2, gT, wrap64]
        refine FN.ct (at_c o s j (i + j)) ?_
        intro h6 fr6
        have hz6 := fr6.size
        have g7 : h6.get h2.size = some (.row false 0 [.int .i64 o, .int .i64 s, .int .i64 j]) := by
          rw [fr6.get _ (by (try simp only [IHeap.size_push', IHeap.size_set']); omega)]
          simp (maxSteps := 1000000) (disch := first | (simp; done) | (simp only [IHeap.size_push', IHeap.size_set']; omega) | omega) [g6]
        have r7 : h6.get r = some (.row false 1 (ints (seqL o s j j))) := by rw [fr6.get _ (IHeap.get_lt r6)]; exact r6
        rw [v2]
        simp (maxSteps := 1000000) (disch := first | (simp; done) | (simp only [IHeap.size_push', IHeap.size_set']; omega) | omega) [e1, e2, e7, e10, e11, e96, e97, e98, hn, hd, g7, r7, et, j0, j0', hTj, hTj2, gT, wrap64]
        refine FN.ct (where_c o s j (sq o s j T)) ?_
        intro h7 fr7
        have hz7 := fr7.size
        have g8 : h7.get h2.size = some (.row false 0 [.int .i64 o, .int .i64 s, .int .i64 j]) := by
          rw [fr7.get _ (by (try simp only [IHeap.size_push', IHeap.size_set']); omega)]
          simp (maxSteps := 1000000) (disch := first | (simp; done) | (simp only [IHeap.size_push', IHeap.size_set']; omega) | omega) [g7]
        have r8 : h7.get r = some (.row false 1 (ints (seqL o s j j))) := by rw [fr7.get _ (IHeap.get_lt r7)]; exact r7
        rw [v3]
        simp (maxSteps := 1000000) (disch := first | (simp; done) | (simp only [IHeap.size_push', IHeap.size_set']; omega) | omega) [e1, e2, e7, e10, e11, e96, e97, e98, hn, hd, g8, r8, et, j0, j0', hTj, hTj2, gT, wrap64]
        refine FN.ct (where_c o s j j) ?_
        intro h8 fr8
        have hz8 := fr8.size
        rw [v4]
        simp (maxSteps := 1000000) (disch := first | (simp; done) | (simp only [IHeap.size_push', IHeap.size_set']; omega) | omega) [e1, e2, e7, e10, e11, e96, e97, e98, hn, hd, et, j0, j0']
        refine FN.of known_c ?_
        simp (maxSteps := 1000000) (disch := first | (simp; done) | (simp only [IHeap.size_push', IHeap.size_set']; omega) | omega) [e1, e2, e7, e10, e11, e96, e97, e98, hn, hd, et, j0, j0']
        have k1 : h5.get r = h'.get r := by rw [r6, hr3]
        have k2 : h6.get r = h5.get r := by rw [r7, r6]
        exact niC_pend [(4, 10), (18, 24)] (by kernel_rfl) ⟨k1, k2, trivial⟩
      | succ k =>
        have hlt : (l : Int) < T + 1 := by omega
        have hlt2 : l < T + 1 := by omega
        have hlj : (l : Int) < j := by omega
        have hlj2 : l < j := by omega
        have gl := ints_get (seqL_get o s j hlt2)
        have gl2 := ints_get (seqL_get o s j hlj2)
        simp (maxSteps := 1000000) (disch := first | (simp; done) | (simp only [IHeap.size_push', IHeap.size_set']; omega) | omega) [e1, e2, e7, e10, e11, e96, e97, e98, hn, hd, g5, hlt, hlt2, hlj, hlj2, hq2, hr3, gl, gl2, wrap64]
        exact ⟨k, by omega, l + 1, by omega, by omega⟩
    | succ k =>
      have hlt : (j : Int) < M := by omega
      have hlt2 : j < M := by omega
      have gj := ints_get (seqL_get o s M hlt2)
      have rg := sq_rng (o := o) (s := s) (m := M) m7 j
      obtain ⟨X, hX⟩ : ∃ X : Nat, sq o s M j = X := ⟨(sq o s M j).toNat, by omega⟩
      have hXM : (X : Int) < M := by omega
      have hXM2 : X < M := by omega
      have gX := seenR_get (o := o) (s := s) (m := M) (k := j) hXM2
      rw [if_neg (fun ⟨i, i1, i2⟩ => by have := sq_inj hmay (by simp; omega) (by simp; omega) (i2.trans hX.symm); omega)] at gX
      have sX := seenR_set hXM2 hX
      rw [hX] at gj
      have hXn : ¬ (X : Int) < 0 := by omega
      have hsz4 := IHeap.get_lt g4
      have hXg : ¬ (M : Int) ≤ X := by omega
      have gX2 := seenR_get (o := o) (s := s) (m := M) (k := j + 1) hXM2
      rw [if_pos ⟨j, by omega, hX⟩] at gX2
      simp (maxSteps := 1000000) (disch := first | (simp; done) | (simp only [IHeap.size_push', IHeap.size_set']; omega) | omega) [e1, e2, e7, e9, e10, e63, e64, e65, hn, hd, g3, g4, hr2, hlt, hlt2, gj, hXM, hXM2, gX, sX, one_int, hXn, hXg, wrap64, gX2, seenR_len, show X + 1 ≤ M by omega]
      refine ⟨k, by omega, j + 1, by omega, ?_⟩
      simp (maxSteps := 1000000) (disch := first | (simp; done) | (simp only [IHeap.size_push', IHeap.size_set']; omega) | omega) [e1, e2, e7, e9, e10, e63, e64, e65, hn, hd, g3, hr2]
end Go.Proofs.Ytfgaggpfdckggaa.Ideal
