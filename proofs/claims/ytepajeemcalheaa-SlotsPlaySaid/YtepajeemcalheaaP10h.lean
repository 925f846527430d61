import Derived.Test.YtepajeemcalheaaP10f
noncomputable section
open Go.Proofs
namespace Go.Proofs.Ytepajeemcalheaa.Ideal
open Go.RowKit
set_option linter.unusedSimpArgs false
set_option linter.unusedVariables false
set_option linter.unusedSectionVars false
set_option maxRecDepth 100000
set_option maxHeartbeats 4000000
attribute [-simp] IHeap.size_set IHeap.size_push
attribute [local simp ↓] Hid.ap_mk
attribute [local simp] scopeQ_normal scopeQ_ret scopeQ_exit WP_skip WP_label WP_exit WP_goto WP_ret WP_region WP_seq WP_cond WP_block WP_scope WP_loop WP_range thenQ_normal thenQ_ret thenQ_exit thenQ_goto loopQ_normal loopQ_ret loopQ_exit invQ_normal invQ_ret invQ_exit outOf_normal outOf_ret outOf_goto outOf_exit ev_tmp ev_const ev_func
  wops_nil wops_cons wantedE_none wantedE_some jgd_some wnx_eq niC_false wdo_move wdo_assign wdo_pick wdo_load wdo_store wdo_alloc wdo_box wdo_fieldAddr wdo_indexAddr wdo_field wdo_extract wdo_build wdo_buildSlice wdo_makeSlice wdo_binOp wdo_unOp wdo_makeFunc wdo_nilCheck wdo_callV wdo_len wdo_append wdo_copy wdo_delete wdo_max wdo_min wdo_convert jcvt_int
  xput_get put_n put_none put_dfr ibin finQ_n finQ_r finD_nil splice_one ires_nil ires_one ires_two ires_three ires1_tmp ires1_cell jcell_ptr rowLoad_row wrap64 wrapU64 wrapU8 wrapU16 wrapU32 callV_fn buildOf Instr.fill Value.cells Value.oneCell' kindOf slots_all splice_all IHeap.size_set' IHeap.size_push' IHeap.get_set_same IHeap.get_set_ne IHeap.get_pushed IHeap.get_push_ne IHeap.set_set IHeap.set_push IHeap.set_pushed IHeap.set_set3 getU_nil getU_same getU_ne jif_true jif_false pushH_eq setH_eq forceL_eq forceV_eq ibuildSlice
attribute [local simp] wdo_index jopt_some fb_known
attribute [-simp] Value.oneCell'
attribute [local simp] one_int' one_bool' one_ptr' one_slc'
theorem hz29 (lo hi : Option Value) (h1 : isZ lo = true) (h2 : isZ hi = true) : pureVal Try.prog (Instr.sliceAt 29 (.slice none 0 0) lo hi none) = some (.slice none 0 0) := by
  unfold isZ at h1 h2
  split at h1 <;> split at h2 <;> first | (cases h1; done) | (cases h2; done) | skip
  · kernel_rfl
  · simp at h2; subst h2; kernel_rfl
  · simp at h1; subst h1; kernel_rfl
  · simp at h1 h2; subst h1; subst h2; kernel_rfl
theorem wdo_cut29 {draw : Bool} {all : Array Oper} {os : List Oper} {e : XEnv} {h : IHeap} (d : Option Tmp) (ty : TypeId) (p : String) (af : Array Edge) (g : Option (Nat × Bool)) [Q : Hid (XEnv → IHeap → Prop)] [E : Hid (List Ent)] (x : Operand) (lo hi : Option Operand) :
    wdo Try.prog draw all ⟨d, .slice 29 x lo hi none, ty, p, af, g⟩ os e h = jopt (cutN Try.prog h 29 (e.ev x) (lo.map e.ev) (hi.map e.ev)) (R := ⟨jgen Try.prog e ⟨d, .slice 29 x lo hi none, ty, p, af, g⟩ h (K := ⟨fun v h' k => wnx Try.prog draw all os e d h v h' k⟩)⟩) (K := ⟨fun v k => wnx Try.prog draw all os e d h v h k⟩) := wdo_cutN d ty p af g 29 hz29 x lo hi
attribute [local simp] wdo_cut29
/-- A slice of these numbers, in a row that is not q. -/
def SlAt (h : IHeap) (q : Nat) (v : Value) (p : List Nat) : Prop := ∃ A, v = .slice A p.length p.length ∧ (p ≠ [] → ∃ r, A = some ⟨r, 0, none⟩ ∧ r ≠ q ∧ h.get r = some (.row false 1 (ints p)))
/-- The document's slots in memory. -/
structure RIs (h : IHeap) (w u q n m : Nat) (L : Nat → List Nat) (cs : Nat → Value) : Prop where
  gw : h.get w = some (.row false 0 [.slice (some ⟨u, 0, none⟩) m m, .int .i64 n])
  gu : h.get u = some (.row false 1 ((List.range m).map cs))
  at' : ∀ l, l < m → SlAt h q (cs l) (L l)
  mz : m ≤ 12
  nz : n ≤ 60
  m1 : 1 ≤ m
variable {h : IHeap} {w u q n m : Nat} {L : Nat → List Nat} {cs : Nat → Value}
theorem RIs.get (x : RIs h w u q n m L cs) {l : Nat} (hl : l < m) : ((List.range m).map cs)[l]? = some (cs l) := by simp [hl]
theorem SlAt.to {h h' : IHeap} {q : Nat} {v : Value} {p : List Nat} (x : SlAt h q v p) (o : ∀ i, i < h.size → i ≠ q → h.get i = some (.row false 1 (ints p)) → h'.get i = h.get i) : SlAt h' q v p := by
  obtain ⟨A, h1, h2⟩ := x
  refine ⟨A, h1, fun hne => ?_⟩
  obtain ⟨r, h3, h4, h5⟩ := h2 hne
  exact ⟨r, h3, h4, by rw [o r (IHeap.get_lt h5) h4 h5]; exact h5⟩
/-- Where a cell is: either way of telling it. -/
def WhV (m : Nat) (L : Nat → List Nat) (c : Int) (v : Value) : Prop := (∃ l, l < m ∧ (∃ x, x ∈ L l ∧ (x : Int) = c) ∧ v = .tuple #[.int .i64 l, .bool true]) ∨ ((∀ l, l < m → ∀ x, x ∈ L l → (x : Int) ≠ c) ∧ v = .tuple #[.int .i64 0, .bool false])
theorem rwhere_c (x : RIs h w u q n m L cs) (hlen : ∀ l, l < m → (L l).length ≤ 1000) (c : Int) : FN Try.prog 28 #[.pointer (some ⟨w, 0, none⟩), .int .i64 c] h (Q := ⟨fun v h' => WhV m L c v ∧ h' = h⟩) := by
  refine FN.enter mixed (fn := Try.f28) (by kernel_rfl) rfl (by kernel_rfl) fun e hn hg hd => ?_
  simp [Try.f28] at hn
  have a0 : e.get 0 = .pointer (some ⟨w, 0, none⟩) := hg 0 (by omega)
  have a1 : e.get 1 = .int .i64 c := hg 1 (by omega)
  clear hg
  have gw := x.gw
  have gu := x.gu
  have mz := x.mz
  simp (maxSteps := 1000000) (disch := first | (simp; done) | (simp only [IHeap.size_push', IHeap.size_set']; omega) | omega) [a0, a1, hn, hd]
  refine WPL.by_inv mixed (by kernel_rfl) (fun y e h' => ∃ i : Nat, i + y = m ∧ h' = h ∧ e.n = 42 ∧ e.dfr = [] ∧ e.get 0 = .pointer (some ⟨w, 0, none⟩) ∧ e.get 1 = .int .i64 c ∧ e.get 6 = .int .i64 i ∧ ∀ l, l < i → ∀ x, x ∈ L l → (x : Int) ≠ c) m ?_ ?_
  · refine ⟨0, ?_⟩
    simp (maxSteps := 1000000) (disch := first | (simp; done) | (simp only [IHeap.size_push', IHeap.size_set']; omega) | omega) [a0, a1, hn, hd]
  clear hn hd a0 a1 e
  rintro y e h1 ⟨i, hi, rfl, hn, hd, e0, e1, e6, no⟩
  cases y with
  | zero =>
    obtain rfl : i = m := by omega
    simp (maxSteps := 1000000) (disch := first | (simp; done) | (simp only [IHeap.size_push', IHeap.size_set']; omega) | omega) [e0, e1, e6, hn, hd, gw]
    exact .inr ⟨no, rfl⟩
  | succ y =>
    have hlt : i < m := by omega
    have hlt2 : (i : Int) < m := by omega
    obtain ⟨A, hA, hr⟩ := x.at' i hlt
    have gc := x.get hlt
    rw [hA] at gc
    have hL := hlen i hlt
    simp (maxSteps := 1000000) (disch := first | (simp; done) | (simp only [IHeap.size_push', IHeap.size_set']; omega) | omega) [e0, e1, e6, hn, hd, gw, hlt, hlt2]
    refine WPL.by_inv mixed (by kernel_rfl) (fun y e h' => ∃ j : Nat, j + y = (L i).length ∧ h' = h1 ∧ e.n = 42 ∧ e.dfr = [] ∧ e.get 0 = .pointer (some ⟨w, 0, none⟩) ∧ e.get 1 = .int .i64 c ∧ e.get 6 = .int .i64 i ∧ e.get 7 = .int .i64 j ∧ ∀ x, x ∈ (L i).take j → (x : Int) ≠ c) (L i).length ?_ ?_
    · refine ⟨0, ?_⟩
      simp (maxSteps := 1000000) (disch := first | (simp; done) | (simp only [IHeap.size_push', IHeap.size_set']; omega) | omega) [e0, e1, e6, hn, hd]
    clear hn hd e0 e1 e6 e
    rintro y e h2 ⟨j, hj, rfl, hn, hd, e0, e1, e6, e7, no2⟩
    cases y with
    | zero =>
      obtain rfl : j = (L i).length := by omega
      rw [List.take_length] at no2
      simp (maxSteps := 1000000) (disch := first | (simp; done) | (simp only [IHeap.size_push', IHeap.size_set']; omega) | omega) [e0, e1, e6, e7, hn, hd, gw, gu, gc, hlt, hlt2, wrap64]
      refine ⟨y, by omega, i + 1, by omega, by omega, fun l hl => ?_⟩
      by_cases e : l = i
      · subst e; exact no2
      · exact no l (by omega)
    | succ y =>
      have hjl : j < (L i).length := by omega
      have hjl2 : (j : Int) < (L i).length := by omega
      have lne : L i ≠ [] := by intro e; rw [e] at hjl; simp at hjl
      obtain ⟨r, rfl, rq, gr⟩ := hr lne
      have gi := ints_get (getk hjl)
      by_cases hc : ((L i)[j] : Int) = c
      · simp (maxSteps := 1000000) (disch := first | (simp; done) | (simp only [IHeap.size_push', IHeap.size_set']; omega) | omega) [e0, e1, e6, e7, hn, hd, gw, gu, gc, hlt, hlt2, hjl, hjl2, gr, gi, hc]
        exact .inl ⟨i, hlt, ⟨_, List.getElem_mem hjl, hc⟩, rfl⟩
      · simp (maxSteps := 1000000) (disch := first | (simp; done) | (simp only [IHeap.size_push', IHeap.size_set']; omega) | omega) [e0, e1, e6, e7, hn, hd, gw, gu, gc, hlt, hlt2, hjl, hjl2, gr, gi, hc, wrap64]
        refine ⟨y, by omega, j + 1, by omega, by omega, fun x hx => ?_⟩
        rw [List.take_succ_eq_append_getElem hjl] at hx
        rcases List.mem_append.1 hx with hx | hx
        · exact no2 x hx
        · simp at hx; subst hx; exact hc
theorem rof_c (x : RIs h w u q n m L cs) (l : Nat) (hl : l < m) : ICall Try.prog 30 #[.pointer (some ⟨w, 0, none⟩), .int .i64 l] h (cs l) h := by
  refine ICall.of_FN ?_
  refine FN.enter mixed (fn := Try.f30) (by kernel_rfl) rfl (by kernel_rfl) fun e hn hg hd => ?_
  simp [Try.f30] at hn
  have a0 : e.get 0 = .pointer (some ⟨w, 0, none⟩) := hg 0 (by omega)
  have a1 : e.get 1 = .int .i64 l := hg 1 (by omega)
  clear hg
  have gw := x.gw
  have gu := x.gu
  have gc := x.get hl
  obtain ⟨A, hA, hr⟩ := x.at' l hl
  rw [hA] at gc ⊢
  have hl2 : (l : Int) < m := by omega
  have hl3 : ¬ (l : Int) < 0 := by omega
  have hl4 : ¬ (m : Int) ≤ l := by omega
  simp (maxSteps := 1000000) (disch := first | (simp; done) | (simp only [IHeap.size_push', IHeap.size_set']; omega) | omega) [a0, a1, hn, hd, undef, gw, gu, gc, hl, hl2, hl3, hl4]
theorem rof_bad (x : RIs h w u q n m L cs) (l : Int) (hl : ¬ (0 ≤ l ∧ l < m)) : ICall Try.prog 30 #[.pointer (some ⟨w, 0, none⟩), .int .i64 l] h (.slice none 0 0) h := by
  refine ICall.of_FN ?_
  refine FN.enter mixed (fn := Try.f30) (by kernel_rfl) rfl (by kernel_rfl) fun e hn hg hd => ?_
  simp [Try.f30] at hn
  have a0 : e.get 0 = .pointer (some ⟨w, 0, none⟩) := hg 0 (by omega)
  have a1 : e.get 1 = .int .i64 l := hg 1 (by omega)
  clear hg
  have gw := x.gw
  by_cases c : l < 0
  · simp (maxSteps := 1000000) (disch := first | (simp; done) | (simp only [IHeap.size_push', IHeap.size_set']; omega) | omega) [a0, a1, hn, hd, undef, gw, c]
  · have c2 : (m : Int) ≤ l := by omega
    simp (maxSteps := 1000000) (disch := first | (simp; done) | (simp only [IHeap.size_push', IHeap.size_set']; omega) | omega) [a0, a1, hn, hd, undef, gw, c, c2]
theorem ni61 : notInt Try.prog 61 = true := by kernel_rfl
def putV (f : Nat → Value) (x : Nat) (v : Value) : Nat → Value := fun y => if y = x then v else f y
theorem range_put {m l : Nat} (cs : Nat → Value) (v : Value) : ((List.range m).map cs).set l v = (List.range m).map (putV cs l v) := by
  apply List.ext_getElem?
  intro j
  rw [List.getElem?_set]
  by_cases e : l = j
  · subst e
    by_cases h : l < m <;> simp [h, putV]
  · rw [if_neg e]
    by_cases h : j < m <;> simp [h, putV, Ne.symm e]
theorem SlAt.one {h : IHeap} {q : Nat} {v : Value} {p : List Nat} (x : SlAt h q v p) : v.oneCell' = true := by
  obtain ⟨A, rfl, _⟩ := x
  rfl
theorem rset_c (x : RIs h w u q n m L cs) (l : Nat) (hl : l < m) {v : Value} {p : List Nat} (hv : SlAt h q v p) :
    FN Try.prog 29 #[.pointer (some ⟨w, 0, none⟩), .int .i64 l, v] h (Q := ⟨fun v' h' => v' = .tuple #[] ∧ (∃ u' cs', RIs h' w u' q n m (putL L l p) cs' ∧ h.size ≤ u') ∧ h.size ≤ h'.size ∧ ∀ i, i < h.size → i ≠ w → h'.get i = h.get i⟩) := by
  refine FN.enter mixed (fn := Try.f29) (by kernel_rfl) rfl (by kernel_rfl) fun e hn hg hd => ?_
  simp [Try.f29] at hn
  have a0 : e.get 0 = .pointer (some ⟨w, 0, none⟩) := hg 0 (by omega)
  have a1 : e.get 1 = .int .i64 l := hg 1 (by omega)
  have a2 : e.get 2 = v := hg 2 (by omega)
  clear hg
  have gw := x.gw
  have gu := x.gu
  have m1 := x.m1
  have mz := x.mz
  have nz := x.nz
  have wz := IHeap.get_lt gw
  have uz := IHeap.get_lt gu
  have hl2 : (l : Int) < m := by omega
  have lenr : ((List.range m).map cs).length = m := by simp
  obtain ⟨h2, j2, ap, r2, k2, z2, f2⟩ := iapp_any (P := Try.prog) (h := h.push (.row false 1 [])) (t := 61) (t2 := 61) (i := h.size) (n := 0) (m := m) (cs := []) (news := (List.range m).map cs) (x := .slice (some ⟨u, 0, none⟩) m m) sl61 ze29 bt29 (by rfl) (by omega) ni61 (src_row (by rw [IHeap.get_push_ne _ (by omega)]; exact gu) (slots_full _ (by rw [lenr]; omega)) (by omega)) (by
    rw [List.all_eq_true]
    intro v hv
    obtain ⟨y, hy, rfl⟩ := List.mem_map.1 hv
    exact (x.at' y (List.mem_range.1 hy)).one) (by rw [lenr]; omega) (by omega) (IHeap.get_pushed _ rfl) rfl
  simp only [IHeap.size_push', Nat.zero_add, List.nil_append] at ap r2 k2 z2 f2
  have j2z := IHeap.get_lt r2
  have keep : ∀ i, i < h.size → h2.get i = h.get i := fun i hi => by rw [k2 i (by omega) (by omega), IHeap.get_push_ne _ (by omega)]
  have gw2 : h2.get w = some (.row false 0 [.slice (some ⟨u, 0, none⟩) m m, .int .i64 n]) := by rw [keep w wz]; exact gw
  have jw : j2 ≠ w := by
    intro e; rw [e, gw2] at r2; cases r2
  have one := hv.one
  have sp : splice ((List.range m).map cs) l [v] = (List.range m).map (putV cs l v) := by rw [splice_one _ (by rw [lenr]; exact hl), range_put]
  obtain ⟨A, hA, hr⟩ := hv
  subst hA
  simp (maxSteps := 1000000) (disch := first | (simp; done) | (simp only [IHeap.size_push', IHeap.size_set']; omega) | omega) [a0, a1, a2, hn, hd, zeros, gw, ap, gw2, wz, hl, hl2, r2, jw, Ne.symm jw, j2z, lenr, sp, show l + 1 ≤ m by omega]
  have hv' : SlAt h q (.slice A p.length p.length) p := ⟨A, rfl, hr⟩
  have all : ∀ i, i < h.size → i ≠ w → ((h2.set w (.row false 0 [.slice (some ⟨j2, 0, none⟩) m m, .int .i64 n])).set j2 (.row false 1 ((List.range m).map (putV cs l (.slice A p.length p.length))))).get i = h.get i := fun i hi hw => by
    rw [IHeap.get_set_ne _ (by omega), IHeap.get_set_ne _ (Ne.symm hw), keep i hi]
  have wl : ∀ (p : List Nat) i, h.get i = some (.row false 1 (ints p)) → i ≠ w := fun p i hi e => by rw [e, gw] at hi; cases hi
  refine ⟨⟨j2, ⟨_, ⟨by rw [IHeap.get_set_ne _ jw, IHeap.get_set_same _ (by omega)], by rw [IHeap.get_set_same _ (by rw [IHeap.size_set]; exact j2z)], fun l' hl' => ?_, mz, nz, m1⟩⟩, by omega⟩, by omega, all⟩
  by_cases e : l' = l
  · subst e
    simp only [putV, putL, if_true]
    exact hv'.to fun i hi _ g => all i hi (wl _ _ g)
  · simp only [putV, putL, e, if_false]
    exact (x.at' l' hl').to fun i hi _ g => all i hi (wl _ _ g)
theorem rpop_c (x : RIs h w u q n m L cs) (hq : q < h.size) (hlen : ∀ l, l < m → (L l).length ≤ 1000) (l : Nat) (hl : l < m) :
    FN Try.prog 15 #[.pointer (some ⟨w, 0, none⟩), .int .i64 l] h (Q := ⟨fun v h' => v = popV (L l) ∧ (∃ u' cs', RIs h' w u' q n m (putL L l (L l).tail) cs') ∧ h.size ≤ h'.size ∧ ∀ i, i < h.size → i ≠ w → h'.get i = h.get i⟩) := by
  refine FN.enter mixed (fn := Try.f15) (by kernel_rfl) rfl (by kernel_rfl) fun e hn hg hd => ?_
  simp [Try.f15] at hn
  have a0 : e.get 0 = .pointer (some ⟨w, 0, none⟩) := hg 0 (by omega)
  have a1 : e.get 1 = .int .i64 l := hg 1 (by omega)
  clear hg
  have hL := hlen l hl
  simp (maxSteps := 1000000) (disch := first | (simp; done) | (simp only [IHeap.size_push', IHeap.size_set']; omega) | omega) [a0, a1, hn, hd]
  refine FN.of (rof_c x l hl) ?_
  obtain ⟨A, hA, hr⟩ := x.at' l hl
  rw [hA]
  by_cases c : L l = []
  · have c0 : (L l).length = 0 := by rw [c]; rfl
    simp (maxSteps := 1000000) (disch := first | (simp; done) | (simp only [IHeap.size_push', IHeap.size_set']; omega) | omega) [a0, a1, hn, hd, c0]
    refine ⟨by rw [c]; rfl, u, cs, ?_⟩
    have e : putL L l (L l).tail = L := by
      have := putL_same L l
      rw [c] at this ⊢
      exact this
    rw [e]
    exact x
  · obtain ⟨r, rfl, rq, gr⟩ := hr c
    have rz := IHeap.get_lt gr
    obtain ⟨a, p, hp⟩ : ∃ a p, L l = a :: p := by
      cases hh : L l with
      | nil => exact absurd hh c
      | cons a p => exact ⟨a, p, rfl⟩
    have c0 : ¬ (L l).length = 0 := fun e => c (List.eq_nil_of_length_eq_zero e)
    have c1 : (0 : Int) < (L l).length := by omega
    have c1' : 0 < (L l).length := by omega
    have g0 : (ints (L l))[0]? = some (.int .i64 a) := by rw [hp]; rfl
    have isl := islice_eq (P := Try.prog) (h := h.push (.row false 1 [])) (t := 29) sl29 (show (h.push (.row false 1 [])).get r = _ by rw [IHeap.get_push_ne _ (by omega)]; exact gr) (.inr rfl) (q := 0) (bounds_lo (n := (L l).length) (c := (L l).length) (l := 1) (k := .i64) (by omega) (Nat.le_refl _))
    simp only [Nat.zero_add, Nat.mul_one] at isl
    rw [show ((1 : Nat) : Int) = 1 from rfl] at isl
    obtain ⟨h2, j2, ap, r2, k2, z2, f2⟩ := iapp_any (P := Try.prog) (h := h.push (.row false 1 [])) (t := 29) (t2 := 29) (i := h.size) (n := 0) (m := p.length) (cs := []) (news := ints p) (x := .slice (some ⟨r, 1, none⟩) p.length p.length) sl29 ze3 bt3 (by rfl) (by omega) ni29 (by
      by_cases h0 : p.length = 0
      · obtain rfl := List.eq_nil_of_length_eq_zero h0
        exact src_zero _ _
      · refine src_row (by rw [IHeap.get_push_ne _ (by omega)]; exact gr) ?_ h0
        rw [hp]
        unfold slots
        rw [if_pos (by rw [ints_len]; simp; omega), Nat.mul_one]
        congr 1
        rw [show (ints (a :: p)).drop 1 = ints p from rfl, List.take_of_length_le (by rw [ints_len]; omega)]) (ints_all p) (by rw [ints_len]; omega) (by rw [hp] at hL; simp at hL; omega) (IHeap.get_pushed _ rfl) rfl
    simp only [IHeap.size_push', Nat.zero_add, List.nil_append] at ap r2 k2 z2 f2
    have pl : (L l).length - 1 = p.length := by rw [hp]; rfl
    rw [pl] at isl
    have keep : ∀ i, i < h.size → h2.get i = h.get i := fun i hi => by rw [k2 i (by omega) (by omega), IHeap.get_push_ne _ (by omega)]
    have x2 : RIs h2 w u q n m L cs := ⟨by rw [keep _ (IHeap.get_lt x.gw)]; exact x.gw, by rw [keep _ (IHeap.get_lt x.gu)]; exact x.gu, fun l' hl' => (x.at' l' hl').to fun i hi _ _ => keep i hi, x.mz, x.nz, x.m1⟩
    have sv : SlAt h2 q (.slice (some ⟨j2, 0, none⟩) p.length p.length) p := ⟨_, rfl, fun _ => ⟨j2, rfl, by omega, r2⟩⟩
    simp (maxSteps := 1000000) (disch := first | (simp; done) | (simp only [IHeap.size_push', IHeap.size_set']; omega) | omega) [a0, a1, hn, hd, c0, zeros, undef, cutN, cutV, isZ, kindOf, isl, ap]
    refine FN.mono (rset_c x2 l hl sv) ?_
    rintro _ h3 ⟨rfl, ⟨u', cs', x3, _⟩, z3, o3⟩
    have gr3 : h3.get r = some (.row false 1 (ints (L l))) := by
      rw [o3 r (by omega) (fun e => by have := x.gw; rw [← e, gr] at this; cases this), keep r rz]; exact gr
    simp (maxSteps := 1000000) (disch := first | (simp; done) | (simp only [IHeap.size_push', IHeap.size_set']; omega) | omega) [a0, a1, hn, hd, gr3, g0, c1, c1']
    refine ⟨by rw [hp]; rfl, ⟨u', cs', by rw [hp, List.tail_cons]; exact x3⟩, by omega, fun i hi hw => by rw [o3 i (by omega) hw, keep i hi]⟩
end Go.Proofs.Ytepajeemcalheaa.Ideal
