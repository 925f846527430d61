import Derived.Test.YtepajeemcalheaaP10h
noncomputable section
open Go.Proofs
namespace Go.Proofs.Ytepajeemcalheaa.Ideal
open Go.RowKit
set_option linter.unusedSimpArgs false
set_option linter.unusedVariables false
set_option linter.unusedSectionVars false
set_option maxRecDepth 100000
set_option maxHeartbeats 4000000
attribute [-simp] IHeap.size_set IHeap.size_push
attribute [local simp ↓] Hid.ap_mk
attribute [local simp] scopeQ_normal scopeQ_ret scopeQ_exit WP_skip WP_label WP_exit WP_goto WP_ret WP_region WP_seq WP_cond WP_block WP_scope WP_loop WP_range thenQ_normal thenQ_ret thenQ_exit thenQ_goto loopQ_normal loopQ_ret loopQ_exit invQ_normal invQ_ret invQ_exit outOf_normal outOf_ret outOf_goto outOf_exit ev_tmp ev_const ev_func
  wops_nil wops_cons wantedE_none wantedE_some jgd_some wnx_eq niC_false wdo_move wdo_assign wdo_pick wdo_load wdo_store wdo_alloc wdo_box wdo_fieldAddr wdo_indexAddr wdo_field wdo_extract wdo_build wdo_buildSlice wdo_makeSlice wdo_binOp wdo_unOp wdo_makeFunc wdo_nilCheck wdo_callV wdo_len wdo_append wdo_copy wdo_delete wdo_max wdo_min wdo_convert jcvt_int
  xput_get put_n put_none put_dfr ibin finQ_n finQ_r finD_nil splice_one ires_nil ires_one ires_two ires_three ires1_tmp ires1_cell jcell_ptr rowLoad_row wrap64 wrapU64 wrapU8 wrapU16 wrapU32 callV_fn buildOf Instr.fill Value.cells Value.oneCell' kindOf slots_all splice_all IHeap.size_set' IHeap.size_push' IHeap.get_set_same IHeap.get_set_ne IHeap.get_pushed IHeap.get_push_ne IHeap.set_set IHeap.set_push IHeap.set_pushed IHeap.set_set3 getU_nil getU_same getU_ne jif_true jif_false pushH_eq setH_eq forceL_eq forceV_eq ibuildSlice
attribute [local simp] wdo_index jopt_some fb_known wdo_cut29
attribute [-simp] Value.oneCell'
attribute [local simp] one_int' one_bool' one_ptr' one_slc'
variable {h : IHeap} {w u q n m : Nat} {L : Nat → List Nat} {cs : Nat → Value}
theorem SlAt.src {v : Value} {p : List Nat} (x : SlAt h q v p) : srcOf h 1 v = some (p.length, ints p) := by
  obtain ⟨A, rfl, hr⟩ := x
  by_cases c : p = []
  · subst c
    cases A with
    | none => rfl
    | some a => exact src_zero a 0
  · obtain ⟨r, rfl, _, gr⟩ := hr c
    exact src_row gr (slots_full _ (by rw [ints_len]; omega)) (fun e => c (List.eq_nil_of_length_eq_zero e))
theorem whv_no {c : Int} {v : Value} (h : WhV m L c v) (no : ∀ l, l < m → ∀ x, x ∈ L l → (x : Int) ≠ c) : v = .tuple #[.int .i64 0, .bool false] := by
  rcases h with ⟨l, h1, ⟨x, h2, h3⟩, _⟩ | h
  · exact absurd h3 (no l h1 x h2)
  · exact h.2
theorem whv_yes {c : Nat} {v : Value} {l : Nat} (h : WhV m L c v) (hl : l < m) (hc : c ∈ L l) (un : ∀ l', l' < m → c ∈ L l' → l' = l) : v = .tuple #[.int .i64 l, .bool true] := by
  rcases h with ⟨l', h1, ⟨x, h2, h3⟩, h4⟩ | h
  · have : x = c := by omega
    subst this
    rw [h4, un l' h1 h2]
  · exact absurd rfl (h.1 l hl c hc)
theorem rpush_bad (x : RIs h w u q n m L cs) (l c : Int) (hb : ¬ ((0 ≤ l ∧ l < m) ∧ (0 ≤ c ∧ c < n))) : ICall Try.prog 14 #[.pointer (some ⟨w, 0, none⟩), .int .i64 l, .int .i64 c] h (.int .i64 2) h := by
  refine ICall.of_FN ?_
  refine FN.enter mixed (fn := Try.f14) (by kernel_rfl) rfl (by kernel_rfl) fun e hn hg hd => ?_
  simp [Try.f14] at hn
  have a0 : e.get 0 = .pointer (some ⟨w, 0, none⟩) := hg 0 (by omega)
  have a1 : e.get 1 = .int .i64 l := hg 1 (by omega)
  have a2 : e.get 2 = .int .i64 c := hg 2 (by omega)
  clear hg
  have gw := x.gw
  by_cases c1 : l < 0
  · simp (maxSteps := 1000000) (disch := first | (simp; done) | (simp only [IHeap.size_push', IHeap.size_set']; omega) | omega) [a0, a1, a2, hn, hd, undef, gw, c1]
  by_cases c2 : (m : Int) ≤ l
  · simp (maxSteps := 1000000) (disch := first | (simp; done) | (simp only [IHeap.size_push', IHeap.size_set']; omega) | omega) [a0, a1, a2, hn, hd, undef, gw, c1, c2]
  by_cases c3 : c < 0
  · simp (maxSteps := 1000000) (disch := first | (simp; done) | (simp only [IHeap.size_push', IHeap.size_set']; omega) | omega) [a0, a1, a2, hn, hd, undef, gw, c1, c2, c3]
  have c4 : (n : Int) ≤ c := by omega
  simp (maxSteps := 1000000) (disch := first | (simp; done) | (simp only [IHeap.size_push', IHeap.size_set']; omega) | omega) [a0, a1, a2, hn, hd, undef, gw, c1, c2, c3, c4]
theorem rpush_c (x : RIs h w u q n m L cs) (hq : q < h.size) (hlen : ∀ l, l < m → (L l).length ≤ 1000) (l c : Nat) (hl : l < m) (hc : c < n) :
    FN Try.prog 14 #[.pointer (some ⟨w, 0, none⟩), .int .i64 l, .int .i64 c] h (Q := ⟨fun v h' => ((∃ l', l' < m ∧ c ∈ L l') ∧ v = .int .i64 8 ∧ h' = h) ∨ ((∀ l', l' < m → c ∉ L l') ∧ v = .int .i64 0 ∧ (∃ u' cs', RIs h' w u' q n m (putL L l (L l ++ [c])) cs') ∧ h.size ≤ h'.size ∧ ∀ i, i < h.size → i ≠ w → h'.get i = h.get i)⟩) := by
  refine FN.enter mixed (fn := Try.f14) (by kernel_rfl) rfl (by kernel_rfl) fun e hn hg hd => ?_
  simp [Try.f14] at hn
  have a0 : e.get 0 = .pointer (some ⟨w, 0, none⟩) := hg 0 (by omega)
  have a1 : e.get 1 = .int .i64 l := hg 1 (by omega)
  have a2 : e.get 2 = .int .i64 c := hg 2 (by omega)
  clear hg
  have gw := x.gw
  have gu := x.gu
  have hl2 : (l : Int) < m := by omega
  have hl3 : ¬ (l : Int) < 0 := by omega
  have hl4 : ¬ (m : Int) ≤ l := by omega
  have hc3 : ¬ (c : Int) < 0 := by omega
  have hc4 : ¬ (n : Int) ≤ c := by omega
  have hL := hlen l hl
  have wz := IHeap.get_lt gw
  have uz := IHeap.get_lt gu
  simp (maxSteps := 1000000) (disch := first | (simp; done) | (simp only [IHeap.size_push', IHeap.size_set']; omega) | omega) [a0, a1, a2, hn, hd, undef, gw, hl3, hl4, hc3, hc4]
  refine FN.mono (rwhere_c x hlen c) ?_
  rintro v h1 ⟨hv, e1⟩
  subst h1
  rcases hv with ⟨l', h1, ⟨y, h2, h3⟩, rfl⟩ | ⟨no, rfl⟩
  · have : y = c := by omega
    subst this
    simp (maxSteps := 1000000) (disch := first | (simp; done) | (simp only [IHeap.size_push', IHeap.size_set']; omega) | omega) [a0, a1, a2, hn, hd]
    exact ⟨l', h1, h2⟩
  · have gc := x.get hl
    have sv := x.at' l hl
    obtain ⟨h2, j2, ap, r2, k2, z2, f2⟩ := iapp_any (P := Try.prog) (h := h.push (.row false 1 [])) (t := 29) (t2 := 29) (i := h.size) (n := 0) (m := (L l).length) (cs := []) (news := ints (L l)) (x := cs l) sl29 ze3 bt3 (by rfl) (by omega) ni29 (sv.to (fun i hi _ _ => IHeap.get_push_ne _ (by omega))).src (ints_all _) (by rw [ints_len]; omega) (by omega) (IHeap.get_pushed _ rfl) rfl
    simp only [IHeap.size_push', Nat.zero_add, List.nil_append] at ap r2 k2 z2 f2
    have j2z := IHeap.get_lt r2
    obtain ⟨h3, j3, ap3, r3, k3, z3, f3⟩ := iapp_any (P := Try.prog) (h := h2.push (.row false 1 [.int .i64 c])) (t := 29) (t2 := 29) (i := j2) (n := (L l).length) (m := 1) (cs := ints (L l)) (news := ints [c]) (x := .slice (some ⟨h2.size, 0, none⟩) 1 1) sl29 ze3 bt3 (by rfl) (by omega) ni29 (src_row (IHeap.get_pushed _ rfl) (slots_full _ rfl) (by omega)) (ints_all _) rfl (by omega) (by rw [IHeap.get_push_ne _ (by omega)]; exact r2) (by rw [ints_len]; omega)
    simp only [IHeap.size_push', ints_app] at ap3 r3 k3 z3 f3
    have keep : ∀ i, i < h.size → h3.get i = h.get i := fun i hi => by rw [k3 i (by omega) (by omega), IHeap.get_push_ne _ (by omega), k2 i (by omega) (by omega), IHeap.get_push_ne _ (by omega)]
    have x3 : RIs h3 w u q n m L cs := ⟨by rw [keep _ (IHeap.get_lt x.gw)]; exact x.gw, by rw [keep _ (IHeap.get_lt x.gu)]; exact x.gu, fun l' hl' => (x.at' l' hl').to fun i hi _ _ => keep i hi, x.mz, x.nz, x.m1⟩
    have ll : (L l).length + 1 = (L l ++ [c]).length := by simp
    rw [ll] at ap3
    have s3 : SlAt h3 q (.slice (some ⟨j3, 0, none⟩) (L l ++ [c]).length (L l ++ [c]).length) (L l ++ [c]) := ⟨_, rfl, fun _ => ⟨j3, rfl, by omega, r3⟩⟩
    obtain ⟨A, hA, hr⟩ := sv
    rw [hA] at gc ap
    simp (maxSteps := 1000000) (disch := first | (simp; done) | (simp only [IHeap.size_push', IHeap.size_set']; omega) | omega) [a0, a1, a2, hn, hd, zeros, gw, gu, gc, hl, hl2, ap, ap3]
    rw [show (L l).length + 1 = (L l ++ [c]).length by simp]
    refine FN.mono (rset_c x3 l hl s3) ?_
    rintro _ h4 ⟨rfl, ⟨u', cs', x4, _⟩, z4, o4⟩
    simp (maxSteps := 1000000) (disch := first | (simp; done) | (simp only [IHeap.size_push', IHeap.size_set']; omega) | omega) [a0, a1, a2, hn, hd]
    exact ⟨fun l' hl' hc' => no l' hl' c hc' rfl, ⟨u', cs', x4⟩, by omega, fun i hi hw => by rw [o4 i (by omega) hw, keep i hi]⟩
theorem rremove_bad (x : RIs h w u q n m L cs) (c : Int) (hb : ¬ (0 ≤ c ∧ c < n)) : ICall Try.prog 16 #[.pointer (some ⟨w, 0, none⟩), .int .i64 c] h (.int .i64 2) h := by
  refine ICall.of_FN ?_
  refine FN.enter mixed (fn := Try.f16) (by kernel_rfl) rfl (by kernel_rfl) fun e hn hg hd => ?_
  simp [Try.f16] at hn
  have a0 : e.get 0 = .pointer (some ⟨w, 0, none⟩) := hg 0 (by omega)
  have a1 : e.get 1 = .int .i64 c := hg 1 (by omega)
  clear hg
  have gw := x.gw
  by_cases c3 : c < 0
  · simp (maxSteps := 1000000) (disch := first | (simp; done) | (simp only [IHeap.size_push', IHeap.size_set']; omega) | omega) [a0, a1, hn, hd, undef, gw, c3]
  have c4 : (n : Int) ≤ c := by omega
  simp (maxSteps := 1000000) (disch := first | (simp; done) | (simp only [IHeap.size_push', IHeap.size_set']; omega) | omega) [a0, a1, hn, hd, undef, gw, c3, c4]
theorem rremove_none (x : RIs h w u q n m L cs) (hlen : ∀ l, l < m → (L l).length ≤ 1000) (c : Nat) (hc : c < n) (no : ∀ l, l < m → c ∉ L l) : FN Try.prog 16 #[.pointer (some ⟨w, 0, none⟩), .int .i64 c] h (Q := ⟨fun v h' => v = .int .i64 7 ∧ h' = h⟩) := by
  refine FN.enter mixed (fn := Try.f16) (by kernel_rfl) rfl (by kernel_rfl) fun e hn hg hd => ?_
  simp [Try.f16] at hn
  have a0 : e.get 0 = .pointer (some ⟨w, 0, none⟩) := hg 0 (by omega)
  have a1 : e.get 1 = .int .i64 c := hg 1 (by omega)
  clear hg
  have gw := x.gw
  have hc3 : ¬ (c : Int) < 0 := by omega
  have hc4 : ¬ (n : Int) ≤ c := by omega
  simp (maxSteps := 1000000) (disch := first | (simp; done) | (simp only [IHeap.size_push', IHeap.size_set']; omega) | omega) [a0, a1, hn, hd, undef, gw, hc3, hc4]
  refine FN.mono (rwhere_c x hlen c) ?_
  rintro v h1 ⟨hv, e1⟩
  subst h1
  rw [whv_no hv (fun l hl x hx e => no l hl (by
    have : x = c := by omega
    rw [← this]; exact hx))]
  simp (maxSteps := 1000000) (disch := first | (simp; done) | (simp only [IHeap.size_push', IHeap.size_set']; omega) | omega) [a0, a1, hn, hd]
def fl (p : List Nat) (c j : Nat) : List Nat := (p.take j).filter (fun y => decide (y ≠ c))
theorem fl_all {p : List Nat} (c : Nat) (h : p.Nodup) : fl p c p.length = p.erase c := by
  unfold fl
  rw [List.take_length, h.erase_eq_filter]
  congr 1
  funext y
  by_cases e : y = c <;> simp [e]
theorem fl_out {p : List Nat} {c j : Nat} (hj : j < p.length) (e : p[j] = c) : fl p c (j + 1) = fl p c j := by
  unfold fl
  rw [List.take_succ_eq_append_getElem hj, List.filter_append]
  simp [e]
theorem fl_in {p : List Nat} {c j : Nat} (hj : j < p.length) (e : p[j] ≠ c) : fl p c (j + 1) = fl p c j ++ [p[j]] := by
  unfold fl
  rw [List.take_succ_eq_append_getElem hj, List.filter_append]
  simp [e]
theorem fl_le {p : List Nat} {c j : Nat} : (fl p c j).length ≤ j := by
  unfold fl
  have := List.length_filter_le (fun y => decide (y ≠ c)) (p.take j)
  rw [List.length_take] at this
  omega
theorem rremove_c (x : RIs h w u q n m L cs) (hq : q < h.size) (hlen : ∀ l, l < m → (L l).length ≤ 1000) (l c : Nat) (hl : l < m) (hc : c < n) (hcl : c ∈ L l) (un : ∀ l', l' < m → c ∈ L l' → l' = l) (hnd : (L l).Nodup) :
    FN Try.prog 16 #[.pointer (some ⟨w, 0, none⟩), .int .i64 c] h (Q := ⟨fun v h' => v = .int .i64 0 ∧ (∃ u' cs', RIs h' w u' q n m (putL L l ((L l).erase c)) cs') ∧ h.size ≤ h'.size ∧ ∀ i, i < h.size → i ≠ w → h'.get i = h.get i⟩) := by
  refine FN.enter mixed (fn := Try.f16) (by kernel_rfl) rfl (by kernel_rfl) fun e hn hg hd => ?_
  simp [Try.f16] at hn
  have a0 : e.get 0 = .pointer (some ⟨w, 0, none⟩) := hg 0 (by omega)
  have a1 : e.get 1 = .int .i64 c := hg 1 (by omega)
  clear hg
  have gw := x.gw
  have gu := x.gu
  have wz := IHeap.get_lt gw
  have uz := IHeap.get_lt gu
  have hl2 : (l : Int) < m := by omega
  have hc3 : ¬ (c : Int) < 0 := by omega
  have hc4 : ¬ (n : Int) ≤ c := by omega
  have hL := hlen l hl
  simp (maxSteps := 1000000) (disch := first | (simp; done) | (simp only [IHeap.size_push', IHeap.size_set']; omega) | omega) [a0, a1, hn, hd, undef, gw, hc3, hc4]
  refine FN.mono (rwhere_c x hlen c) ?_
  rintro v h1 ⟨hv, e1⟩
  subst h1
  rw [whv_yes hv hl hcl un]
  have gc := x.get hl
  obtain ⟨A, hA, hr⟩ := x.at' l hl
  rw [hA] at gc
  have lne : L l ≠ [] := List.ne_nil_of_mem hcl
  obtain ⟨r, rfl, rq, gr⟩ := hr lne
  have rz := IHeap.get_lt gr
  simp (maxSteps := 1000000) (disch := first | (simp; done) | (simp only [IHeap.size_push', IHeap.size_set']; omega) | omega) [a0, a1, hn, hd]
  refine WPL.by_inv mixed (by kernel_rfl) (fun y e h' => ∃ (j : Nat) (z : Nat), j + y = (L l).length ∧ h.size ≤ h'.size ∧ (∀ i, i < h.size → h'.get i = h.get i) ∧ e.n = 68 ∧ e.dfr = [] ∧ e.get 0 = .pointer (some ⟨w, 0, none⟩) ∧ e.get 1 = .int .i64 c ∧ e.get 5 = .int .i64 l ∧ e.get 7 = slcN (fl (L l) c j) z ∧ (fl (L l) c j ≠ [] → h.size ≤ z ∧ h'.get z = some (.row false 1 (ints (fl (L l) c j)))) ∧ e.get 8 = .int .i64 j) (L l).length ?_ ?_
  · refine ⟨0, 0, ?_⟩
    simp (maxSteps := 1000000) (disch := first | (simp; done) | (simp only [IHeap.size_push', IHeap.size_set']; omega) | omega) [a0, a1, hn, hd]
    exact ⟨rfl, fun h => absurd rfl h⟩
  clear hn hd a0 a1 e
  rintro y e h2 ⟨j, z, hj, z2, o2, hn, hd, e0, e1, e5, e7, hz, e8⟩
  have gw2 : h2.get w = some (.row false 0 [.slice (some ⟨u, 0, none⟩) m m, .int .i64 n]) := by rw [o2 w wz]; exact gw
  have gu2 : h2.get u = some (.row false 1 ((List.range m).map cs)) := by rw [o2 u uz]; exact gu
  have gr2 : h2.get r = some (.row false 1 (ints (L l))) := by rw [o2 r rz]; exact gr
  cases y with
  | zero =>
    obtain rfl : j = (L l).length := by omega
    rw [fl_all c hnd] at e7 hz
    have x2 : RIs h2 w u q n m L cs := ⟨gw2, gu2, fun l' hl' => (x.at' l' hl').to fun i hi _ _ => o2 i hi, x.mz, x.nz, x.m1⟩
    have s2 : SlAt h2 q (slcN ((L l).erase c) z) ((L l).erase c) := ⟨_, slcN_eq _ _, fun hne => ⟨z, adrN_at z hne, by have := (hz hne).1; omega, (hz hne).2⟩⟩
    simp (maxSteps := 1000000) (disch := first | (simp; done) | (simp only [IHeap.size_push', IHeap.size_set']; omega) | omega) [e0, e1, e5, e7, e8, hn, hd, gw2, gu2, gc, hl, hl2]
    refine FN.mono (rset_c x2 l hl s2) ?_
    rintro _ h4 ⟨rfl, ⟨u', cs', x4, _⟩, z4, o4⟩
    simp (maxSteps := 1000000) (disch := first | (simp; done) | (simp only [IHeap.size_push', IHeap.size_set']; omega) | omega) [e0, e1, e5, e7, e8, hn, hd]
    exact ⟨⟨u', cs', x4⟩, by omega, fun i hi hw => by rw [o4 i (by omega) hw, o2 i hi]⟩
  | succ y =>
    have hlt : j < (L l).length := by omega
    have hlt2 : (j : Int) < (L l).length := by omega
    have gi := ints_get (getk hlt)
    obtain ⟨d, hd1⟩ : ∃ d, (L l)[j] = d := ⟨_, rfl⟩
    rw [hd1] at gi
    by_cases e : d = c
    · have fe := fl_out hlt (hd1.trans e)
      have e' : (d : Int) = c := by omega
      simp (maxSteps := 1000000) (disch := first | (simp; done) | (simp only [IHeap.size_push', IHeap.size_set']; omega) | omega) [e0, e1, e5, e7, e8, hn, hd, gw2, gu2, gc, hl, hl2, gr2, gi, hlt, hlt2, e', wrap64]
      exact ⟨y, by omega, j + 1, by omega, z2, o2, z, by rw [fe], by rw [fe]; exact hz, by omega⟩
    · have fe := fl_in (p := L l) (c := c) hlt (by rw [hd1]; exact e)
      rw [hd1] at fe
      have e' : ¬ (d : Int) = c := by omega
      have hlen2 := fl_le (p := L l) (c := c) (j := j)
      generalize fl (L l) c j = F at e7 hz fe hlen2
      obtain ⟨h4, ap, z4, g4, o4⟩ := app29 (h := h2.push (.row false 1 [.int .i64 d])) (j := h2.size) (r := z) (l := F) (x := d) (fun hne => by
        have := IHeap.get_lt (hz hne).2
        rw [IHeap.get_push_ne _ (by omega)]; exact (hz hne).2) (IHeap.get_pushed _ rfl) (by omega)
      simp only [IHeap.size_push'] at z4 g4 o4 ap
      simp (maxSteps := 1000000) (disch := first | (simp; done) | (simp only [IHeap.size_push', IHeap.size_set']; omega) | omega) [zeros, e0, e1, e5, e7, e8, hn, hd, gw2, gu2, gc, hl, hl2, gr2, gi, hlt, hlt2, e', ap, wrap64]
      refine ⟨y, by omega, j + 1, by omega, by omega, fun i hi => ?_, h2.size + 1, by rw [fe], fun _ => ⟨by omega, by rw [fe]; exact g4⟩, by omega⟩
      rw [o4 i (by omega) (fun hne => by have := (hz hne).1; omega), IHeap.get_push_ne _ (by omega)]
      exact o2 i hi
end Go.Proofs.Ytepajeemcalheaa.Ideal
