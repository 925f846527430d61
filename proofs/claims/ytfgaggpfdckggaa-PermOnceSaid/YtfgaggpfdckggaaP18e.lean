import Derived.Test.YtfgaggpfdckggaaP18p
import Derived.Test.YtfgaggpfdckggaaI35
noncomputable section
open Go.Proofs
namespace Go.Proofs.Ytfgaggpfdckggaa.Ideal
open Go.RowKit
set_option linter.unusedSimpArgs false
set_option linter.unusedVariables false
set_option linter.unusedSectionVars false
set_option linter.unnecessarySimpa false
set_option maxRecDepth 100000
set_option maxHeartbeats 2000000
attribute [-simp] IHeap.size_set IHeap.size_push
attribute [local simp ↓] Hid.ap_mk
attribute [local simp] scopeQ_normal scopeQ_ret scopeQ_exit WP_skip WP_label WP_exit WP_goto WP_ret WP_region WP_seq WP_cond WP_block WP_scope WP_loop WP_range thenQ_normal thenQ_ret thenQ_exit thenQ_goto loopQ_normal loopQ_ret loopQ_exit invQ_normal invQ_ret invQ_exit outOf_normal outOf_ret outOf_goto outOf_exit ev_tmp ev_const ev_func
  wops_nil wops_cons wantedE_none wantedE_some jgd_some wnx_eq niC_false wdo_move wdo_assign wdo_pick wdo_load wdo_store wdo_alloc wdo_box wdo_fieldAddr wdo_indexAddr wdo_field wdo_extract wdo_build wdo_buildSlice wdo_makeSlice wdo_binOp wdo_unOp wdo_makeFunc wdo_nilCheck wdo_callV wdo_len wdo_append wdo_copy wdo_delete wdo_max wdo_min wdo_convert jcvt_int
  xput_get put_n put_none put_dfr ibin finQ_n finQ_r finD_nil splice_one ires_nil ires_one ires_two ires_three ires1_tmp ires1_cell jcell_ptr rowLoad_row wrap64 wrapU64 wrapU8 wrapU16 wrapU32 callV_fn buildOf Instr.fill Value.cells Value.oneCell' kindOf slots_all splice_all IHeap.size_set' IHeap.size_push' IHeap.get_set_same IHeap.get_set_ne IHeap.get_pushed IHeap.get_push_ne IHeap.set_set IHeap.set_push IHeap.set_pushed IHeap.set_set3 getU_nil getU_same getU_ne jif_true jif_false pushH_eq setH_eq forceL_eq forceV_eq ibuildSlice
attribute [-simp] Value.oneCell'
def kfns : List Nat := [5, 8, 12, 13, 18, 23, 14, 19, 24]
theorem kfns_ok : ∀ g ∈ kfns, fnB Try.prog g = true := by
  have : kfns.all (fnB Try.prog) = true := by kernel_rfl
  rwa [List.all_eq_true] at this
theorem known_c {h : IHeap} : ICall Try.prog 5 #[] h (.bool true) h := by
  refine ICall.of_below rfl fun ρ w args' ha hm => ?_
  obtain rfl : args' = #[] := Array.eq_empty_of_size_eq_zero ha.1.symm
  exact calls_run kfns_ok mixed (m := 100000) (n := 200) (by kernel_rfl) (by kernel_rfl) w
theorem fl23 : (fldsOf Try.prog 23).map (·.map fldSig) = some [(true, 3, 0), (true, 3, 1), (true, 3, 2)] := by kernel_rfl
theorem ag3 : pureVal Try.prog (isAgg 3) = some false := by kernel_rfl
theorem eq23 (a b c x y z : Int) : aggEq Try.prog 23 .eql (.agg #[.int .i64 a, .int .i64 b, .int .i64 c]) (.agg #[.int .i64 x, .int .i64 y, .int .i64 z]) = some (.bool (a == x && (b == y && c == z))) ∧ aggEq Try.prog 23 .neq (.agg #[.int .i64 a, .int .i64 b, .int .i64 c]) (.agg #[.int .i64 x, .int .i64 y, .int .i64 z]) = some (.bool (!(a == x && (b == y && c == z)))) := by
  obtain ⟨fs, h1, h2⟩ := Option.map_eq_some_iff.mp fl23
  have := aggEq_ints h1 (by kernel_rfl) (by kernel_rfl) [(3, .i64, a, x), (3, .i64, b, y), (3, .i64, c, z)] h2 (fun p hp => by
    simp only [List.mem_cons, List.not_mem_nil, or_false] at hp
    rcases hp with rfl | rfl | rfl <;> exact ⟨by simp, ag3⟩)
  simpa using this
def adrI (l : List Int) (r : Nat) : Option Addr := if l = [] then none else some ⟨r, 0, none⟩
theorem slcI_eq (l : List Int) (r : Nat) : slcI l r = .slice (adrI l r) l.length l.length := by
  unfold slcI adrI
  by_cases h : l = [] <;> simp [h]
def numN (o s m : Int) : Nat := if mayB o s m then m.toNat else 0
theorem allK_num (o s m : Int) : allK o s m (numN o s m) = numN o s m := by
  unfold allK numN
  cases mayB o s m
  · rfl
  · simp
    omega
theorem rslots2 {h : IHeap} (o s m : Int) : FN Try.prog 10 #[pmV o s m] h (Q := ⟨fun v h' => Fr h h' [] ∧ ∃ q, v = .slice (adrI (seqL o s m (numN o s m)) q) (numN o s m) (numN o s m) ∧ (numN o s m ≠ 0 → h.size ≤ q ∧ h'.get q = some (.row false 1 (ints (seqL o s m (numN o s m)))))⟩) := by
  refine FN.mono (rslots_c o s m) ?_
  rintro v h' ⟨fr, hq⟩
  refine ⟨fr, ?_⟩
  unfold numN
  cases hm : mayB o s m
  · rw [hm, if_neg (by simp)] at hq
    exact ⟨0, by rw [hq]; rfl, fun h => absurd rfl h⟩
  · rw [hm, if_pos rfl] at hq
    obtain ⟨q, q1, rfl, q3⟩ := hq
    obtain ⟨m7, _⟩ := may_ge hm
    refine ⟨q, ?_, fun _ => ⟨q1, q3⟩⟩
    have : seqL o s m m.toNat ≠ [] := fun h => by have := congrArg List.length h; rw [seqL_len] at this; simp at this; omega
    simp [adrI, this]
theorem ints_get {l : List Int} {j : Nat} {x : Int} (h : l[j]? = some x) : (ints l)[j]? = some (.int .i64 x) := by simp [ints, h]
def WhI (o s M x : Int) (j : Nat) (wh : Int) : Prop := (∃ k, k < j ∧ sq o s M k = x ∧ wh = (k : Nat)) ∨ ((∀ k, k < j → sq o s M k ≠ x) ∧ wh = -1)
theorem WhI.hit {o s M x : Int} {j : Nat} (h : sq o s M j = x) : WhI o s M x (j + 1) j := .inl ⟨j, by omega, h, rfl⟩
theorem WhI.miss {o s M x : Int} {j : Nat} {wh : Int} (w : WhI o s M x j wh) (h : ¬ sq o s M j = x) : WhI o s M x (j + 1) wh := by
  rcases w with ⟨k, h1, h2, h3⟩ | ⟨h1, h2⟩
  · exact .inl ⟨k, by omega, h2, h3⟩
  · refine .inr ⟨fun k hk => ?_, h2⟩
    by_cases e : k = j
    · rw [e]; exact h
    · exact h1 k (by omega)
theorem WhI.done {o s M x : Int} {wh : Int} (w : WhI o s M x (numN o s M) wh) : wh = whereV o s M x := by
  unfold numN at w
  cases hm : mayB o s M
  · rw [hm] at w
    rcases w with ⟨k, h1, _⟩ | ⟨_, h2⟩
    · simp at h1
    · simp [whereV, hm, h2]
  · rw [hm, if_pos rfl] at w
    rcases w with ⟨k, h1, h2, h3⟩ | ⟨h1, h2⟩
    · rw [h3, whereV_hit hm h1 h2 (fun j hj h => by have := sq_inj hm (by omega) h1 (h.trans h2.symm); omega)]
    · rw [h2, whereV_miss h1]
def AtI (o s M i : Int) (N j : Nat) (a : Int) : Prop := a = if 0 ≤ i ∧ i % N < j then sq o s M (i % N).toNat else -1
theorem AtI.hit {o s M i : Int} {N j : Nat} (h0 : 0 ≤ i) (h : i % N = j) : AtI o s M i N (j + 1) (sq o s M j) := by
  unfold AtI
  rw [if_pos ⟨h0, by omega⟩, h]
  simp
theorem AtI.miss {o s M i : Int} {N j : Nat} {a : Int} (w : AtI o s M i N j a) (h : ¬ (0 ≤ i ∧ i % N = j)) : AtI o s M i N (j + 1) a := by
  unfold AtI at *
  rw [w]
  by_cases h1 : 0 ≤ i ∧ i % N < j
  · rw [if_pos h1, if_pos ⟨h1.1, by omega⟩]
  · rw [if_neg h1, if_neg (fun h2 => h1 ⟨h2.1, by have := h2.2; have : i % (N : Int) ≠ j := fun e => h ⟨h2.1, e⟩; omega⟩)]
theorem AtI.done {o s M i : Int} {a : Int} (w : AtI o s M i (numN o s M) (numN o s M) a) : a = atV o s M i := by
  unfold AtI at w
  rw [w]
  unfold numN atV
  cases hm : mayB o s M
  · simp
    omega
  · obtain ⟨m7, mm, _⟩ := may_ge hm
    have e : ((M.toNat : Nat) : Int) = M := by omega
    have := Int.emod_lt_of_pos i (show 0 < M by omega)
    by_cases hi : 0 ≤ i
    · simp [hi, e, this]
    · simp [hi]
theorem tells_c {h : IHeap} (st : ByteArray) (m o s M i x : Int) : FN Try.prog 3 #[.string st, .int .i64 m, pmV o s M, .int .i64 i, .int .i64 x] h (Q := ⟨fun v h' => v = .bool true⟩) := by
  refine FN.enter mixed (fn := Try.f3) (by kernel_rfl) rfl (by kernel_rfl) fun e hn hg hd => ?_
  simp [Try.f3] at hn
  have a0 : e.get 0 = .string st := hg 0 (by omega)
  have a1 : e.get 1 = .int .i64 m := hg 1 (by omega)
  have a2 : e.get 2 = pmV o s M := hg 2 (by omega)
  have a3 : e.get 3 = .int .i64 i := hg 3 (by omega)
  have a4 : e.get 4 = .int .i64 x := hg 4 (by omega)
  clear hg
  by_cases hs : (200 : Int) < st.size
  · simp (maxSteps := 1000000) (disch := first | (simp; done) | (simp only [IHeap.size_push', IHeap.size_set']; omega) | omega) [a0, a1, a2, hn, hd, hs, pmV]
    refine FN.of known_c ?_
    simp (maxSteps := 1000000) (disch := first | (simp; done) | (simp only [IHeap.size_push', IHeap.size_set']; omega) | omega) [hn, hd]
  simp (maxSteps := 1000000) (disch := first | (simp; done) | (simp only [IHeap.size_push', IHeap.size_set']; omega) | omega) [a0, a1, a2, a3, a4, hn, hd, hs, pmV]
  obtain ⟨A, B, C, er, hV⟩ : ∃ A B C er, ofV m st = .tuple #[.agg #[.int .i64 A, .int .i64 B, .int .i64 C], .int .i64 er] := by
    unfold ofV
    cases sizeB m
    · exact ⟨_, _, _, _, rfl⟩
    · exact ⟨_, _, _, _, rfl⟩
  refine FN.ct (of_c st m (by omega)) ?_
  intro h2 fr
  rw [hV]
  simp (maxSteps := 1000000) (disch := first | (simp; done) | (simp only [IHeap.size_push', IHeap.size_set']; omega) | omega) [a0, a1, a2, a3, a4, hn, hd, hs, one_int]
  refine FN.ct (rof_c st m (by omega)) ?_
  intro h3 fr3
  rw [hV]
  have hz2 := fr.size
  have hz3 := fr3.size
  simp only [IHeap.size_push'] at hz2 hz3
  have g2 : h2.get h.size = some (.row false 0 [.int .i64 o, .int .i64 s, .int .i64 M]) := by
    rw [fr.get _ (by (try simp only [IHeap.size_push', IHeap.size_set']); omega)]
    simp (maxSteps := 1000000) (disch := first | (simp; done) | (simp only [IHeap.size_push', IHeap.size_set']; omega) | omega) []
  have g3 : h3.get h.size = some (.row false 0 [.int .i64 o, .int .i64 s, .int .i64 M]) := by
    rw [fr3.get _ (by (try simp only [IHeap.size_push', IHeap.size_set']); omega)]
    simp (maxSteps := 1000000) (disch := first | (simp; done) | (simp only [IHeap.size_push', IHeap.size_set']; omega) | omega) [g2]
  have g4 : h3.get h2.size = some (.row false 0 [.int .i64 A, .int .i64 B, .int .i64 C]) := by
    rw [fr3.get _ (by (try simp only [IHeap.size_push', IHeap.size_set']); omega)]
    simp (maxSteps := 1000000) (disch := first | (simp; done) | (simp only [IHeap.size_push', IHeap.size_set']; omega) | omega) []
  have go : ∀ i, i < h.size → h3.get i = h.get i := fun i hi => by
    rw [fr3.get i (by simp only [IHeap.size_push']; omega)]
    simp (maxSteps := 1000000) (disch := first | (simp; done) | (simp only [IHeap.size_push', IHeap.size_set']; omega) | omega) []
    rw [fr.get i (by simp only [IHeap.size_push']; omega)]
    simp (maxSteps := 1000000) (disch := first | (simp; done) | (simp only [IHeap.size_push', IHeap.size_set']; omega) | omega) []
  clear fr fr3
  simp (maxSteps := 1000000) (disch := first | (simp; done) | (simp only [IHeap.size_push', IHeap.size_set']; omega) | omega) [a0, a1, a2, a3, a4, hn, hd, hs, one_int, g3, g4, eq23]
  refine FN.ct (may_c o s M) ?_
  intro h4 fr4
  have hz4 := fr4.size
  simp only [IHeap.size_push'] at hz4
  have g5 : h4.get h.size = some (.row false 0 [.int .i64 o, .int .i64 s, .int .i64 M]) := by
    rw [fr4.get _ (by (try simp only [IHeap.size_push', IHeap.size_set']); omega)]
    simp (maxSteps := 1000000) (disch := first | (simp; done) | (simp only [IHeap.size_push', IHeap.size_set']; omega) | omega) [g3]
  simp (maxSteps := 1000000) (disch := first | (simp; done) | (simp only [IHeap.size_push', IHeap.size_set']; omega) | omega) [a0, a1, a2, a3, a4, hn, hd, hs, one_int, g5]
  refine FN.ct (rmay_c o s M) ?_
  intro h5 fr5
  have hz5 := fr5.size
  have g6 : h5.get h.size = some (.row false 0 [.int .i64 o, .int .i64 s, .int .i64 M]) := by
    rw [fr5.get _ (by (try simp only [IHeap.size_push', IHeap.size_set']); omega)]
    simp (maxSteps := 1000000) (disch := first | (simp; done) | (simp only [IHeap.size_push', IHeap.size_set']; omega) | omega) [g5]
  simp (maxSteps := 1000000) (disch := first | (simp; done) | (simp only [IHeap.size_push', IHeap.size_set']; omega) | omega) [a0, a1, a2, a3, a4, hn, hd, hs, one_int, g6]
  have k1 : h4.get h.size = (h3.push (.row false 0 [.int .i64 A, .int .i64 B, .int .i64 C])).get h.size := by rw [g5]; simp (maxSteps := 1000000) (disch := first | (simp; done) | (simp only [IHeap.size_push', IHeap.size_set']; omega) | omega) [g3]
  refine ⟨niC_pend [(10, 11)] (by kernel_rfl) ⟨k1, trivial⟩, ?_⟩
  by_cases hM : 3000 < M
  · simp (maxSteps := 1000000) (disch := first | (simp; done) | (simp only [IHeap.size_push', IHeap.size_set']; omega) | omega) [hM]
    refine FN.of known_c ?_
    simp (maxSteps := 1000000) (disch := first | (simp; done) | (simp only [IHeap.size_push', IHeap.size_set']; omega) | omega) [hn, hd]
  simp (maxSteps := 1000000) (disch := first | (simp; done) | (simp only [IHeap.size_push', IHeap.size_set']; omega) | omega) [a0, a1, a2, a3, a4, hn, hd, hs, one_int, g6, hM]
  refine FN.mono (rslots2 o s M) ?_
  rintro v h6 ⟨fr6, q, rfl, hq⟩
  have hz6 := fr6.size
  have g7 : h6.get h.size = some (.row false 0 [.int .i64 o, .int .i64 s, .int .i64 M]) := by
    rw [fr6.get _ (by (try simp only [IHeap.size_push', IHeap.size_set']); omega)]
    simp (maxSteps := 1000000) (disch := first | (simp; done) | (simp only [IHeap.size_push', IHeap.size_set']; omega) | omega) [g6]
  simp (maxSteps := 1000000) (disch := first | (simp; done) | (simp only [IHeap.size_push', IHeap.size_set']; omega) | omega) [a0, a1, a2, a3, a4, hn, hd, hs, one_int, g7]
  refine FN.mono (all_c o s M (numN o s M) (by omega)) ?_
  rintro v h7 ⟨fr7, r, rfl, hr⟩
  rw [allK_num] at hr ⊢
  rw [slcI_eq, seqL_len]
  have hz7 := fr7.size
  have g8 : h7.get h.size = some (.row false 0 [.int .i64 o, .int .i64 s, .int .i64 M]) := by
    rw [fr7.get _ (by (try simp only [IHeap.size_push', IHeap.size_set']); omega)]
    simp (maxSteps := 1000000) (disch := first | (simp; done) | (simp only [IHeap.size_push', IHeap.size_set']; omega) | omega) [g7]
  have hl : numN o s M ≠ 0 → h7.get q = some (.row false 1 (ints (seqL o s M (numN o s M)))) := fun hne => by
    obtain ⟨q1, q2⟩ := hq hne
    have := IHeap.get_lt q2
    rw [fr7.get _ this]; exact q2
  generalize hN : numN o s M = N at hl hr hq ⊢
  have hN3 : N ≤ 3000 := by
    unfold numN at hN
    split at hN <;> omega
  clear fr4 fr5 fr6 k1 hq
  simp (maxSteps := 1000000) (disch := first | (simp; done) | (simp only [IHeap.size_push', IHeap.size_set']; omega) | omega) [a0, a1, a2, a3, a4, hn, hd, hs, one_int, g8]
  refine WPL.by_inv mixed (by kernel_rfl) (fun k e h' => ∃ (j : Nat) (at_ wh : Int), j + k = N ∧ e.n = 125 ∧ e.dfr = [] ∧ e.get 3 = .int .i64 i ∧ e.get 4 = .int .i64 x ∧ e.get 7 = .pointer (some ⟨h.size, 0, none⟩) ∧ e.get 15 = .slice (adrI (seqL o s M N) q) N N ∧ e.get 16 = .slice (adrI (seqL o s M N) r) N N ∧ e.get 18 = .int .i64 at_ ∧ e.get 19 = .int .i64 wh ∧ e.get 75 = .int .i64 N ∧ e.get 76 = .int .i64 j ∧ h' = h7 ∧ AtI o s M i N j at_ ∧ WhI o s M x j wh) N ?_ ?_
  · refine ⟨0, -1, -1, ?_⟩
    simp (maxSteps := 1000000) (disch := first | (simp; done) | (simp only [IHeap.size_push', IHeap.size_set']; omega) | omega) [a0, a1, a2, a3, a4, hn, hd]
    refine ⟨?_, .inr ⟨fun k hk => by omega, rfl⟩⟩
    unfold AtI
    rw [if_neg]
    rintro ⟨h1, h2⟩
    have := Int.emod_nonneg i (b := (N : Int))
    by_cases hN0 : N = 0
    · subst hN0; simp at h2; omega
    · have := this (by omega); omega
  clear hn hd a0 a1 a2 a3 a4 e
  rintro k e h' ⟨j, at_, wh, hj, hn, hd, e3, e4, e7, e15, e16, e18, e19, e75, e76, rfl, hat, hwh⟩
  cases k with
  | zero =>
    obtain rfl : j = N := by omega
    simp (maxSteps := 1000000) (disch := first | (simp; done) | (simp only [IHeap.size_push', IHeap.size_set']; omega) | omega) [e3, e4, e7, e15, e16, e18, e19, e75, e76, hn, hd, g8]
    refine FN.ct (at_c o s M i) ?_
    intro h8 fr8
    have hz8 := fr8.size
    have g9 : h8.get h.size = some (.row false 0 [.int .i64 o, .int .i64 s, .int .i64 M]) := by
      rw [fr8.get _ (by (try simp only [IHeap.size_push', IHeap.size_set']); omega)]
      simp (maxSteps := 1000000) (disch := first | (simp; done) | (simp only [IHeap.size_push', IHeap.size_set']; omega) | omega) [g8]
    rw [← hN] at hat hwh
    have ea := hat.done
    have ew := hwh.done
    subst ea; subst ew
    simp (maxSteps := 1000000) (disch := first | (simp; done) | (simp only [IHeap.size_push', IHeap.size_set']; omega) | omega) [e3, e4, e7, e15, e16, e18, e19, e75, e76, hn, hd, g9]
    refine FN.ct (where_c o s M x) ?_
    intro h9 fr9
    simp (maxSteps := 1000000) (disch := first | (simp; done) | (simp only [IHeap.size_push', IHeap.size_set']; omega) | omega) [e3, e4, e7, e15, e16, e18, e19, e75, e76, hn, hd, g9]
    refine FN.of known_c ?_
    simp (maxSteps := 1000000) (disch := first | (simp; done) | (simp only [IHeap.size_push', IHeap.size_set']; omega) | omega) [e3, e4, e7, e15, e16, e18, e19, e75, e76, hn, hd, g9]
  | succ k =>
    have hlt : (j : Int) < N := by omega
    have hlt2 : j < N := by omega
    have hne : seqL o s M N ≠ [] := fun h => by have := congrArg List.length h; rw [seqL_len] at this; simp at this; omega
    have ad : ∀ q, adrI (seqL o s M N) q = some ⟨q, 0, none⟩ := fun q => by simp [adrI, hne]
    rw [ad] at e15 e16
    have hr2 := (hr (by omega)).2
    have hl2 := hl (by omega)
    have gj := ints_get (seqL_get o s M hlt2)
    have N0 : (N : Int) ≠ 0 := by omega
    have N0' : N ≠ 0 := by omega
    by_cases hx : sq o s M j = x
    · have wh2 := WhI.hit hx
      by_cases hi : 0 ≤ i
      · have et : i.tmod N = i % N := Int.tmod_eq_emod_of_nonneg hi
        by_cases hij : i % N = j
        · simp (maxSteps := 1000000) (disch := first | (simp; done) | (simp only [IHeap.size_push', IHeap.size_set']; omega) | omega) [e3, e4, e7, e15, e16, e18, e19, e75, e76, hn, hd, g8, hlt, hlt2, hr2, hl2, gj, wrap64, N0, N0', hx, hi, et, hij]
          refine ⟨niC_pend [] (by kernel_rfl) trivial, k, by omega, j + 1, by omega, ?_⟩
          simp (maxSteps := 1000000) (disch := first | (simp; done) | (simp only [IHeap.size_push', IHeap.size_set']; omega) | omega) [e3, e4, e7, e15, e16, e18, e19, e75, e76, hn, hd, ad]
          exact ⟨hx ▸ AtI.hit hi hij, wh2⟩
        · simp (maxSteps := 1000000) (disch := first | (simp; done) | (simp only [IHeap.size_push', IHeap.size_set']; omega) | omega) [e3, e4, e7, e15, e16, e18, e19, e75, e76, hn, hd, g8, hlt, hlt2, hr2, hl2, gj, wrap64, N0, N0', hx, hi, et, hij]
          refine ⟨niC_pend [] (by kernel_rfl) trivial, k, by omega, j + 1, by omega, ?_⟩
          simp (maxSteps := 1000000) (disch := first | (simp; done) | (simp only [IHeap.size_push', IHeap.size_set']; omega) | omega) [e3, e4, e7, e15, e16, e18, e19, e75, e76, hn, hd, ad]
          exact ⟨AtI.miss hat (fun h => hij h.2), wh2⟩
      · simp (maxSteps := 1000000) (disch := first | (simp; done) | (simp only [IHeap.size_push', IHeap.size_set']; omega) | omega) [e3, e4, e7, e15, e16, e18, e19, e75, e76, hn, hd, g8, hlt, hlt2, hr2, hl2, gj, wrap64, N0, N0', hx, hi]
        refine ⟨niC_pend [] (by kernel_rfl) trivial, k, by omega, j + 1, by omega, ?_⟩
        simp (maxSteps := 1000000) (disch := first | (simp; done) | (simp only [IHeap.size_push', IHeap.size_set']; omega) | omega) [e3, e4, e7, e15, e16, e18, e19, e75, e76, hn, hd, ad]
        exact ⟨AtI.miss hat (fun h => hi h.1), wh2⟩
    · have wh2 := WhI.miss hwh hx
      by_cases hi : 0 ≤ i
      · have et : i.tmod N = i % N := Int.tmod_eq_emod_of_nonneg hi
        by_cases hij : i % N = j
        · simp (maxSteps := 1000000) (disch := first | (simp; done) | (simp only [IHeap.size_push', IHeap.size_set']; omega) | omega) [e3, e4, e7, e15, e16, e18, e19, e75, e76, hn, hd, g8, hlt, hlt2, hr2, hl2, gj, wrap64, N0, N0', hx, hi, et, hij]
          refine ⟨niC_pend [] (by kernel_rfl) trivial, k, by omega, j + 1, by omega, ?_⟩
          simp (maxSteps := 1000000) (disch := first | (simp; done) | (simp only [IHeap.size_push', IHeap.size_set']; omega) | omega) [e3, e4, e7, e15, e16, e18, e19, e75, e76, hn, hd, ad]
          exact ⟨AtI.hit hi hij, wh2⟩
        · simp (maxSteps := 1000000) (disch := first | (simp; done) | (simp only [IHeap.size_push', IHeap.size_set']; omega) | omega) [e3, e4, e7, e15, e16, e18, e19, e75, e76, hn, hd, g8, hlt, hlt2, hr2, hl2, gj, wrap64, N0, N0', hx, hi, et, hij]
          refine ⟨niC_pend [] (by kernel_rfl) trivial, k, by omega, j + 1, by omega, ?_⟩
          simp (maxSteps := 1000000) (disch := first | (simp; done) | (simp only [IHeap.size_push', IHeap.size_set']; omega) | omega) [e3, e4, e7, e15, e16, e18, e19, e75, e76, hn, hd, ad]
          exact ⟨AtI.miss hat (fun h => hij h.2), wh2⟩
      · simp (maxSteps := 1000000) (disch := first | (simp; done) | (simp only [IHeap.size_push', IHeap.size_set']; omega) | omega) [e3, e4, e7, e15, e16, e18, e19, e75, e76, hn, hd, g8, hlt, hlt2, hr2, hl2, gj, wrap64, N0, N0', hx, hi]
        refine ⟨niC_pend [] (by kernel_rfl) trivial, k, by omega, j + 1, by omega, ?_⟩
        simp (maxSteps := 1000000) (disch := first | (simp; done) | (simp only [IHeap.size_push', IHeap.size_set']; omega) | omega) [e3, e4, e7, e15, e16, e18, e19, e75, e76, hn, hd, ad]
        exact ⟨AtI.miss hat (fun h => hi h.1), wh2⟩
end Go.Proofs.Ytfgaggpfdckggaa.Ideal
