import Derived.Test.YtkpbdhfaobmbpaaP43h
noncomputable section
open Go.Proofs
namespace Go.Proofs.Ytkpbdhfaobmbpaa.Ideal
open Go.RowKit
set_option linter.unusedSimpArgs false
set_option linter.unusedVariables false
set_option linter.unusedSectionVars false
set_option maxRecDepth 100000
set_option maxHeartbeats 4000000
def ii (l : List Nat) : List Int := l.map fun (n : Nat) => (n : Int)
theorem ii_len (l : List Nat) : (ii l).length = l.length := by simp [ii]
theorem intsOf_bys : ∀ l : List Nat, intsOf (bys l) = some (ii l)
  | [] => rfl
  | n :: l => by
    have := intsOf_bys l
    simp only [bys, List.map_cons, ii, intsOf] at this ⊢
    rw [this]
theorem un26' : Try.prog.underlying 26 = some (.slice 5) := by kernel_rfl
theorem un9' : Try.prog.underlying 9 = some .string := by kernel_rfl
theorem u8_5 : isU8 Try.prog 5 = true := by kernel_rfl
theorem beqS (a : ByteArray) : (a == a) = true := by
  show ByteArray.beq a a = true
  unfold ByteArray.beq
  exact beq_self_eq_true a.data
theorem str_slb {h : IHeap} {v : Value} {xs : List Nat} (b : SlB h v xs) : ∃ k, (k = .pure ∨ ∃ i, k = .read i) ∧ strAny Try.prog h 26 9 v = some (.string (strB (ii xs)), k) := by
  obtain ⟨A, c, rfl, h0, h2, hc⟩ := b
  cases A with
  | none =>
    obtain ⟨rfl, rfl⟩ := h0 rfl
    exact ⟨_, .inl rfl, strAny_nil un26' un9' u8_5⟩
  | some a =>
    obtain ⟨r, q, ro, z, cs, e, _, h4, h5⟩ := h2 (by simp)
    cases e
    obtain ⟨k, hk, h6⟩ := strAny_row (P := Try.prog) (q := q) (n := xs.length) (c := c) un26' un9' u8_5 h4 h5 (intsOf_bys xs) (ii_len xs)
    exact ⟨k, hk.imp id fun h => ⟨_, h⟩, h6⟩
/-- Two lists, merged. -/
def mgB (f : SH → SH → Bool) : List SH → List SH → List SH
  | [], V => V
  | u :: U, [] => u :: U
  | u :: U, v :: V => if f v u then v :: mgB f (u :: U) V else u :: mgB f U (v :: V)
termination_by U V => U.length + V.length
def mg (U V : List SH) : List SH := mgB (fun v u => decide (v.time < u.time)) U V
theorem mg_l (V : List SH) : mg [] V = V := by rw [mg, mgB]
theorem mg_lt {u v : SH} {U V : List SH} (h : v.time < u.time) : mg (u :: U) (v :: V) = v :: mg (u :: U) V := by
  unfold mg
  rw [mgB, if_pos (by simpa using h)]
theorem mg_ge {u v : SH} {U V : List SH} (h : ¬ v.time < u.time) : mg (u :: U) (v :: V) = u :: mg U (v :: V) := by
  unfold mg
  rw [mgB, if_neg (by simpa using h)]
theorem mg_nil (U : List SH) : mg U [] = U := by
  cases U with
  | nil => exact mg_l []
  | cons u U => rw [mg, mgB]
theorem mg_len : ∀ (n : Nat) (U V : List SH), U.length + V.length ≤ n → (mg U V).length = U.length + V.length
  | n, [], V, _ => by rw [mg_l]; simp
  | n, u :: U, [], _ => by rw [mg_nil]; simp
  | 0, u :: U, v :: V, h => by simp at h
  | n + 1, u :: U, v :: V, h => by
    simp only [List.length_cons] at h
    by_cases c : v.time < u.time
    · rw [mg_lt c, List.length_cons, mg_len n _ _ (by simp only [List.length_cons]; omega), List.length_cons, List.length_cons]
      clear c
      omega
    · rw [mg_ge c, List.length_cons, mg_len n _ _ (by simp only [List.length_cons]; omega), List.length_cons, List.length_cons]
      clear c
      omega
theorem mg_mem : ∀ (n : Nat) (U V : List SH), U.length + V.length ≤ n → ∀ s ∈ mg U V, s ∈ U ++ V
  | n, [], V, _ => by rw [mg_l]; simp
  | n, u :: U, [], _ => by rw [mg_nil]; simp
  | 0, u :: U, v :: V, h => by simp at h
  | n + 1, u :: U, v :: V, h => by
    simp only [List.length_cons] at h
    intro s hs
    by_cases c : v.time < u.time
    · rw [mg_lt c] at hs
      clear c
      rcases List.mem_cons.1 hs with rfl | hs
      · simp
      · have := mg_mem n _ _ (by simp only [List.length_cons]; omega) s hs
        simp only [List.mem_append, List.mem_cons] at this ⊢
        rcases this with h | h
        · exact .inl h
        · exact .inr (.inr h)
    · rw [mg_ge c] at hs
      clear c
      rcases List.mem_cons.1 hs with rfl | hs
      · simp
      · have := mg_mem n _ _ (by simp only [List.length_cons]; omega) s hs
        simp only [List.mem_append, List.mem_cons] at this ⊢
        rcases this with h | h
        · exact .inl (.inr h)
        · exact .inr h
attribute [-simp] IHeap.size_set IHeap.size_push
attribute [local simp ↓] Hid.ap_mk
attribute [local simp] scopeQ_normal scopeQ_ret scopeQ_exit WP_skip WP_label WP_exit WP_goto WP_ret WP_region WP_seq WP_cond WP_block WP_scope WP_loop WP_range thenQ_normal thenQ_ret thenQ_exit thenQ_goto loopQ_normal loopQ_ret loopQ_exit invQ_normal invQ_ret invQ_exit outOf_normal outOf_ret outOf_goto outOf_exit ev_tmp ev_const ev_func
  wops_nil wops_cons wantedE_none wantedE_some jgd_some wnx_eq niC_false wdo_move wdo_assign wdo_pick wdo_load wdo_store wdo_alloc wdo_box wdo_fieldAddr wdo_indexAddr wdo_field wdo_extract wdo_build wdo_buildSlice wdo_makeSlice wdo_binOp wdo_unOp wdo_makeFunc wdo_nilCheck wdo_callV wdo_len wdo_append wdo_copy wdo_delete wdo_max wdo_min wdo_convert jcvt_int
  xput_get put_n put_none put_dfr ibin finQ_n finQ_r finD_nil splice_one ires_nil ires_one ires_two ires_three ires1_tmp ires1_cell jcell_ptr rowLoad_row wrap64 wrapU64 wrapU8 wrapU16 wrapU32 callV_fn buildOf Instr.fill Value.cells Value.oneCell' kindOf slots_all splice_all IHeap.size_set' IHeap.size_push' IHeap.get_set_same IHeap.get_set_ne IHeap.get_pushed IHeap.get_push_ne IHeap.set_set IHeap.set_push IHeap.set_pushed IHeap.set_set3 getU_nil getU_same getU_ne jif_true jif_false pushH_eq setH_eq forceL_eq forceV_eq ibuildSlice
theorem wdo_str26 {draw : Bool} {all : Array Oper} {os : List Oper} {e : XEnv} {h : IHeap} (d : Option Tmp) (ty : TypeId) (p : String) (af : Array Edge) (g : Option (Nat × Bool)) [Q : Hid (XEnv → IHeap → Prop)] [E : Hid (List Ent)] (x : Operand) :
    wdo Try.prog draw all ⟨d, .convert 26 9 x, ty, p, af, g⟩ os e h = jopt (strAny Try.prog h 26 9 (e.ev x)) (R := ⟨jcvt Try.prog e ⟨d, .convert 26 9 x, ty, p, af, g⟩ h (e.ev x) (Try.prog.underlying 26) (Try.prog.underlying 9) (K := ⟨fun v h' k => wnx Try.prog draw all os e d h v h' k⟩)⟩) (K := ⟨fun v k => wnx Try.prog draw all os e d h v h k⟩) := wdo_strAny d ty p af g 26 9 x
attribute [local simp high] wdo_str26
attribute [local simp] wdo_index jopt_some wdo_toArr wdo_cutV
attribute [-simp] Value.oneCell'
attribute [local simp] one_int' one_slc' one_bool'
theorem slot4 {cs : List Value} {p : Nat} {a b c d : Value} (h : slots cs p 4 = some [a, b, c, d]) : cs[p]? = some a ∧ cs[p + 1]? = some b ∧ cs[p + 2]? = some c ∧ cs[p + 3]? = some d := by
  unfold slots at h
  split at h
  · have h2 := Option.some.inj h
    have key : ∀ i, i < 4 → cs[p + i]? = [a, b, c, d][i]? := fun i hi => by
      rw [← h2, List.getElem?_take_of_lt hi, List.getElem?_drop]
    exact ⟨key 0 (by omega), key 1 (by omega), key 2 (by omega), key 3 (by omega)⟩
  · cases h
/-- What a shot tells. -/
def SH.ct (s : SH) : Nat × Nat × Nat × List Nat := (s.sec, s.micro, s.had, s.xs)
theorem ct_len {S T : List SH} (e : S.map SH.ct = T.map SH.ct) : T.length = S.length := by
  have := congrArg List.length e
  simpa using this.symm
theorem same_c {h : IHeap} {va vb : Value} {S T : List SH} (x : ShS h va S) (y : ShS h vb T) (hS : S.length ≤ 1000) (e : S.map SH.ct = T.map SH.ct) : ICall Try.prog 12 #[va, vb] h (.bool true) h := by
  refine ICall.of_FN ?_
  have lt := ct_len e
  obtain ⟨A, c, rfl, _⟩ := id x
  obtain ⟨B, d, rfl, _⟩ := id y
  have ect := e
  clear e
  refine FN.enter mixed (fn := Try.f12) (by kernel_rfl) rfl (by kernel_rfl) fun e hn hg hd => ?_
  simp [Try.f12] at hn
  have a0 : e.get 0 = .slice A S.length c := hg 0 (by omega)
  have a1 : e.get 1 = .slice B T.length d := hg 1 (by omega)
  clear hg
  rw [lt] at a1
  simp (maxSteps := 1000000) (disch := first | (simp; done) | (simp only [IHeap.size_push', IHeap.size_set']; omega) | omega) [a0, a1, hn, hd]
  refine WPL.by_inv mixed (by kernel_rfl) (fun k e h' => ∃ (j : Nat), j + k = S.length ∧ e.n = 69 ∧ e.dfr = [] ∧ e.get 0 = .slice A S.length c ∧ e.get 1 = .slice B S.length d ∧ e.get 5 = .int .i64 j ∧ h' = h) S.length ?_ ?_
  · refine ⟨0, ?_⟩
    simp (maxSteps := 1000000) (disch := first | (simp; done) | (simp only [IHeap.size_push', IHeap.size_set']; omega) | omega) [a0, a1, hn, hd]
  clear hn hd a0 a1 e
  rintro k e h1 ⟨j, hj, hn, hd, a0, a1, a5, rfl⟩
  cases k with
  | zero =>
    obtain rfl : j = S.length := by omega
    simp (maxSteps := 1000000) (disch := first | (simp; done) | (simp only [IHeap.size_push', IHeap.size_set']; omega) | omega) [a0, a1, a5, hn, hd]
  | succ k =>
    have j2 : j < S.length := by omega
    have j1 : (j : Int) < S.length := by omega
    obtain ⟨r, q, ro, z, cs, rfl, hg, hz, hs, hok⟩ := x.at j2
    obtain ⟨r', q', ro', z', cs', rfl, hg', hz', hs', hok'⟩ := y.at (i := j) (by omega)
    have e1 : S[j].ct = (T[j]'(by omega)).ct := by
      have e2 := congrArg (fun l => l[j]?) ect
      simp only [List.getElem?_map, List.getElem?_eq_getElem j2, List.getElem?_eq_getElem (l := T) (i := j) (by omega), Option.map_some] at e2
      exact Option.some.inj e2
    obtain ⟨s, es⟩ : ∃ s, S[j] = s := ⟨_, rfl⟩
    obtain ⟨t, et⟩ : ∃ t, T[j]'(by omega) = t := ⟨_, rfl⟩
    rw [es] at hs hok e1
    rw [et] at hs' hok' e1
    obtain ⟨t1, t2, t3, t4, t5⟩ := t
    obtain ⟨rfl, rfl, rfl, rfl⟩ : s.sec = t1 ∧ s.micro = t2 ∧ s.had = t3 ∧ s.xs = t4 := by
      simpa [SH.ct] using e1
    obtain ⟨k1, g1, q1⟩ := str_slb hok.b
    obtain ⟨k2, g2, q2⟩ := str_slb hok'.b
    obtain ⟨D, d1, eb, _⟩ := id hok.b
    obtain ⟨D', d1', eb', _⟩ := id hok'.b
    dsimp only at eb' q2
    subst eb'
    rw [eb] at q1
    rw [SH.cells, eb] at hs
    obtain ⟨c1, c2, c3, c4⟩ := slot4 hs
    obtain ⟨b1, b2, b3, b4⟩ := slot4 hs'
    rcases g1 with rfl | ⟨i1, rfl⟩ <;> rcases g2 with rfl | ⟨i2, rfl⟩
    all_goals
      simp (maxSteps := 1000000) (disch := first | (simp; done) | (simp only [IHeap.size_push', IHeap.size_set']; omega) | omega) [a0, a1, a5, hn, hd, j1, j2, hg, hg', c1, c2, c3, c4, b1, b2, b3, b4, q1, q2, beqS, undef]
      exact ⟨niC_pend [] (by kernel_rfl) trivial, k, by omega, j + 1, by omega, by omega⟩
theorem rtime_c {h : IHeap} {s : SH} (ok : s.ok h) : ICall Try.prog 21 #[s.val] h (.int .u64 (s.time : Nat)) (h.push (.row false 0 s.cells)) := by
  refine ICall.of_FN ?_
  obtain ⟨T, hT⟩ : ∃ T, s.time = T := ⟨_, rfl⟩
  rw [hT]
  refine FN.enter mixed (fn := Try.f21) (by kernel_rfl) rfl (by kernel_rfl) fun e hn hg hd => ?_
  simp [Try.f21] at hn
  have a0 : e.get 0 = s.val := hg 0 (by omega)
  clear hg
  have o1 := ok.one
  have s1 := ok.s1
  have m1 := ok.m1
  have w4 : 1000000 * (s.sec : Int) + s.micro = (T : Nat) := by
    unfold SH.time at hT
    omega
  simp (maxSteps := 1000000) (disch := first | (simp; done) | (simp only [IHeap.size_push', IHeap.size_set']; omega) | omega) [a0, hn, hd, SH.val, SH.cells, o1]
  exact w4
theorem ShS.src {h : IHeap} {A : Option Addr} {c : Nat} {S : List SH} (x : ShS h (.slice A S.length c) S) : srcOf h 4 (.slice A S.length c) = some (S.length, shc S) := by
  obtain ⟨A', c', e, h0, hc, h2, h3⟩ := x
  cases e
  by_cases e : S = []
  · subst e
    cases A with
    | none =>
      obtain rfl := h0 rfl
      rfl
    | some a => exact src_zero a c
  · obtain ⟨r, q, ro, z, cs, rfl, h4, h5, h6⟩ := h2 e
    exact src_row h4 h6 (fun h => e (List.eq_nil_of_length_eq_zero h))
theorem ShS.of_row {h : IHeap} {j : Nat} {T : List SH} (hg : h.get j = some (.row false 4 (shc T))) (ok : ∀ t ∈ T, t.ok h) : ShS h (.slice (some ⟨j, 0, none⟩) T.length T.length) T :=
  ⟨some ⟨j, 0, none⟩, _, rfl, fun h => (by cases h), Nat.le_refl _, fun _ => ⟨j, 0, false, 4, _, rfl, hg, .inr rfl, slots_full _ (shc_len T).symm⟩, ok⟩
/-- One shot ahead of others. -/
theorem app_one {h0 h : IHeap} {s : SH} {L : List SH} {j : Nat} {A : Option Addr} {c : Nat} (hg : h.get j = some (.row false 4 s.cells)) (hj : h0.size ≤ j) (k0 : Keep h0 h) (y : ShS h (.slice A L.length c) L) (ok : ∀ t ∈ s :: L, t.ok h0) (hL : L.length ≤ 1000) :
    ∃ v' h', iappend Try.prog h 23 23 (.slice (some ⟨j, 0, none⟩) 1 1) (.slice A L.length c) = some (v', h') ∧ ShS h' v' (s :: L) ∧ Keep h0 h' ∧ h.size ≤ h'.size := by
  obtain ⟨h2, k, ap, r2, k2, z2, f2⟩ := iapp_any (P := Try.prog) (h := h) (t := 23) (t2 := 23) (i := j) (n := 1) (m := L.length) (cs := s.cells) (news := shc L) sl23 ze31 bt31 (by rfl) (by omega) ni23' y.src (shc_one fun t ht => (ok t (by simp [ht])).keep k0) (shc_len L) (by omega) hg (by rfl)
  have kk : Keep h0 h2 := ⟨by have := k0.le; omega, fun i hi => by rw [k2 i (by have := k0.le; omega) (by omega)]; exact k0.eq i hi⟩
  refine ⟨_, h2, ap, ?_, kk, z2⟩
  have := ShS.of_row (T := s :: L) (by rw [shc_cons]; exact r2) fun t ht => (ok t ht).keep kk
  rw [List.length_cons, Nat.add_comm] at this
  exact this
theorem rmerge_l {h : IHeap} {va vb : Value} {S T : List SH} (x : ShS h va S) (y : ShS h vb T) (hS : S = []) :
    FN Try.prog 18 #[va, vb] h (Q := ⟨fun v h' => ShS h' v (mg S T) ∧ Keep h h'⟩) := by
  obtain ⟨A, c, rfl, _⟩ := id x
  obtain ⟨B, d, rfl, _⟩ := id y
  refine FN.enter mixed (fn := Try.f18) (by kernel_rfl) rfl (by kernel_rfl) fun e hn hg hd => ?_
  simp [Try.f18] at hn
  have a0 : e.get 0 = .slice A S.length c := hg 0 (by omega)
  have a1 : e.get 1 = .slice B T.length d := hg 1 (by omega)
  clear hg
  have l0 : S.length = 0 := by rw [hS]; rfl
  have hm : mg S T = T := by rw [hS, mg_l]
  simp (maxSteps := 1000000) (disch := first | (simp; done) | (simp only [IHeap.size_push', IHeap.size_set']; omega) | omega) [a0, a1, hn, hd, l0]
  rw [hm]
  exact ⟨y, Keep.refl h⟩
theorem rmerge_r {h : IHeap} {va vb : Value} {S T : List SH} (x : ShS h va S) (y : ShS h vb T) (hS : S ≠ []) (hT : T = []) :
    FN Try.prog 18 #[va, vb] h (Q := ⟨fun v h' => ShS h' v (mg S T) ∧ Keep h h'⟩) := by
  obtain ⟨A, c, rfl, _⟩ := id x
  obtain ⟨B, d, rfl, _⟩ := id y
  refine FN.enter mixed (fn := Try.f18) (by kernel_rfl) rfl (by kernel_rfl) fun e hn hg hd => ?_
  simp [Try.f18] at hn
  have a0 : e.get 0 = .slice A S.length c := hg 0 (by omega)
  have a1 : e.get 1 = .slice B T.length d := hg 1 (by omega)
  clear hg
  have l0 : T.length = 0 := by rw [hT]; rfl
  have l1 : S.length ≠ 0 := fun h => hS (List.eq_nil_of_length_eq_zero h)
  have gu : ¬ ((S.length : Int) = 0) := by omega
  have hm : mg S T = S := by rw [hT, mg_nil]
  simp (maxSteps := 1000000) (disch := first | (simp; done) | (simp only [IHeap.size_push', IHeap.size_set']; omega) | omega) [a0, a1, hn, hd, gu, l0, l1]
  rw [hm]
  exact ⟨x, Keep.refl h⟩
theorem rmerge_c : ∀ (n : Nat) {h : IHeap} {va vb : Value} {S T : List SH} (x : ShS h va S) (y : ShS h vb T) (hn : S.length + T.length ≤ n) (hm : n ≤ 200),
    FN Try.prog 18 #[va, vb] h (Q := ⟨fun v h' => ShS h' v (mg S T) ∧ Keep h h'⟩) := by
  intro n
  induction n with
  | zero =>
    intro h va vb S T x y hnn hm
    exact rmerge_l x y (List.eq_nil_of_length_eq_zero (by omega))
  | succ n ih =>
    intro h va vb S T x y hnn hm
    cases S with
    | nil => exact rmerge_l x y rfl
    | cons u U =>
      cases T with
      | nil => exact rmerge_r x y (by simp) rfl
      | cons v V =>
        obtain ⟨A, c, rfl, _⟩ := id x
        obtain ⟨B, d, rfl, _⟩ := id y
        simp only [List.length_cons] at hnn
        refine FN.enter mixed (fn := Try.f18) (by kernel_rfl) rfl (by kernel_rfl) fun e hn hg hd => ?_
        simp [Try.f18] at hn
        have a0 : e.get 0 = .slice A (U.length + 1) c := hg 0 (by omega)
        have a1 : e.get 1 = .slice B (V.length + 1) d := hg 1 (by omega)
        clear hg
        have gu : ¬ ((U.length : Int) + 1 = 0) := by omega
        have gv : ¬ ((V.length : Int) + 1 = 0) := by omega
        have gu2 : (0 : Int) < (U.length : Int) + 1 := by omega
        have gv2 : (0 : Int) < (V.length : Int) + 1 := by omega
        obtain ⟨r1, q1, ro1, z1, cs1, rfl, hg1, hz1, hs1, hok1⟩ := x.at (i := 0) (by simp)
        obtain ⟨r2, q2, ro2, z2, cs2, rfl, hg2, hz2, hs2, hok2⟩ := y.at (i := 0) (by simp)
        rw [Nat.zero_mul, Nat.add_zero] at hs1 hs2
        simp only [List.getElem_cons_zero] at hs1 hs2 hok1 hok2
        obtain ⟨B1, d3, eb1, _⟩ := hok1.b
        obtain ⟨B2, d4, eb2, _⟩ := hok2.b
        have tb := rtime_c hok2
        have ta := rtime_c (hok1.keep (Keep.push _ (.row false 0 v.cells)))
        have k1 := (Keep.push h (.row false 0 v.cells)).get hg1
        have kk := (Keep.push h (.row false 0 v.cells)).push' (.row false 0 u.cells)
        have k2 := kk.get hg1
        have k3 := kk.get hg2
        have x2 := x.keep kk
        have y2 := y.keep kk
        simp only [SH.val, SH.cells, eb1, eb2] at ta tb k1 k2 k3 kk x2 y2
        simp (maxSteps := 1000000) (disch := first | (simp; done) | (simp only [IHeap.size_push', IHeap.size_set']; omega) | omega) [a0, a1, hn, hd, gu, gv, gu2, gv2, hg2, hs2, SH.cells, eb1, eb2]
        refine FN.of tb ?_
        simp (maxSteps := 1000000) (disch := first | (simp; done) | (simp only [IHeap.size_push', IHeap.size_set']; omega) | omega) [a0, a1, hn, hd, gu, gv, gu2, gv2, hg2, hs2, k1, hs1, SH.cells, eb1, eb2]
        refine FN.of ta ?_
        by_cases ct : v.time < u.time
        · have z1 : zeros #[Value.int .u32 0, Value.int .u32 0, Value.int .u32 0, Value.slice none 0 0] 1 = [Value.int .u32 0, Value.int .u32 0, Value.int .u32 0, Value.slice none 0 0] := rfl
          have kk3 := kk.push' (.row false 4 v.cells)
          have x3 := x.keep kk3
          have y3 := y.keep kk3
          have k4 := kk3.get hg2
          have cle : V.length + 1 ≤ d := by
            obtain ⟨A', c', e1, _, e2, _⟩ := id y
            cases e1
            exact e2
          simp only [SH.cells, eb2] at x3 y3 k4 kk3
          have isl := islice_eq (P := Try.prog) (q := q2) (l := 1) (lo := some (.int .i64 1)) (hi := none) sl23 k4 hz2 (bounds_lo (k := .i64) (l := 1) (n := V.length + 1) (c := d) (by omega) cle)
          simp only [Nat.one_mul, Nat.add_sub_cancel] at isl
          simp (maxSteps := 1000000) (disch := first | (simp; done) | (simp only [IHeap.size_push', IHeap.size_set']; omega) | omega) [a0, a1, hn, hd, gu, gv, gu2, gv2, hg2, hs2, k1, k2, k3, hs1, SH.cells, eb1, eb2, ct, z1, cutV, isl]
          refine ⟨niC_pend [(3, 6)] (by kernel_rfl) ⟨k1.trans hg1.symm, trivial⟩, ?_⟩
          refine FN.mono (Q := ⟨_⟩) (ih x3 (ShS.tail y3) (by simp only [List.length_cons]; omega) (by omega)) ?_
          rintro w g ⟨xw, kg⟩
          have ml := mg_len _ (u :: U) V (Nat.le_refl _)
          simp only [List.length_cons] at ml
          obtain ⟨L, hL⟩ : ∃ L, mg (u :: U) V = L := ⟨_, rfl⟩
          have lm := mg_mem _ (u :: U) V (Nat.le_refl _)
          rw [hL] at xw ml lm
          obtain ⟨D, d5, rfl, _⟩ := id xw
          have bj0 : (((h.push (.row false 0 v.cells)).push (.row false 0 u.cells)).push (.row false 4 v.cells)).get (h.size + 2) = some (.row false 4 v.cells) := IHeap.get_pushed _ (by simp only [IHeap.size_push'])
          simp only [SH.cells, eb1, eb2] at bj0
          have bj := kg.get bj0
          have hok : ∀ t ∈ v :: L, t.ok h := by
            obtain ⟨_, _, _, _, _, _, x6⟩ := id x
            obtain ⟨_, _, _, _, _, _, y6⟩ := id y
            intro t ht
            rcases List.mem_cons.1 ht with rfl | ht
            · exact y6 _ (by simp)
            · rcases List.mem_append.1 (lm t ht) with ht | ht
              · exact x6 t ht
              · exact y6 t (by simp [ht])
          obtain ⟨v', g2, ap, xs, kf, zf⟩ := app_one (h0 := h) (s := v) (j := h.size + 2) (by simpa only [SH.cells, eb2] using bj) (by omega) (kk3.trans kg) xw hok (by omega)
          have kb := kg.get k4
          simp (maxSteps := 1000000) (disch := first | (simp; done) | (simp only [IHeap.size_push', IHeap.size_set']; omega) | omega) [a0, a1, hn, hd, ap]
          rw [mg_lt ct, hL]
          refine ⟨niC_pend [(2, 7), (3, 7)] (by kernel_rfl) ⟨kb.trans k4.symm, bj.trans bj0.symm, trivial⟩, xs, kf⟩
        · have z1 : zeros #[Value.int .u32 0, Value.int .u32 0, Value.int .u32 0, Value.slice none 0 0] 1 = [Value.int .u32 0, Value.int .u32 0, Value.int .u32 0, Value.slice none 0 0] := rfl
          have kk3 := kk.push' (.row false 4 u.cells)
          have x3 := x.keep kk3
          have y3 := y.keep kk3
          have k4 := kk3.get hg1
          have cle : U.length + 1 ≤ c := by
            obtain ⟨A', c', e1, _, e2, _⟩ := id x
            cases e1
            exact e2
          simp only [SH.cells, eb1] at x3 y3 k4 kk3
          have isl := islice_eq (P := Try.prog) (q := q1) (l := 1) (lo := some (.int .i64 1)) (hi := none) sl23 k4 hz1 (bounds_lo (k := .i64) (l := 1) (n := U.length + 1) (c := c) (by omega) cle)
          simp only [Nat.one_mul, Nat.add_sub_cancel] at isl
          simp (maxSteps := 1000000) (disch := first | (simp; done) | (simp only [IHeap.size_push', IHeap.size_set']; omega) | omega) [a0, a1, hn, hd, gu, gv, gu2, gv2, hg2, hs2, k1, k2, k3, hs1, SH.cells, eb1, eb2, ct, z1, cutV, isl]
          refine ⟨niC_pend [(3, 6)] (by kernel_rfl) ⟨k1.trans hg1.symm, trivial⟩, ?_⟩
          refine FN.mono (Q := ⟨_⟩) (ih (ShS.tail x3) y3 (by simp only [List.length_cons]; omega) (by omega)) ?_
          rintro w g ⟨xw, kg⟩
          have ml := mg_len _ U (v :: V) (Nat.le_refl _)
          simp only [List.length_cons] at ml
          obtain ⟨L, hL⟩ : ∃ L, mg U (v :: V) = L := ⟨_, rfl⟩
          have lm := mg_mem _ U (v :: V) (Nat.le_refl _)
          rw [hL] at xw ml lm
          obtain ⟨D, d5, rfl, _⟩ := id xw
          have bj0 : (((h.push (.row false 0 v.cells)).push (.row false 0 u.cells)).push (.row false 4 u.cells)).get (h.size + 2) = some (.row false 4 u.cells) := IHeap.get_pushed _ (by simp only [IHeap.size_push'])
          simp only [SH.cells, eb1, eb2] at bj0
          have bj := kg.get bj0
          have hok : ∀ t ∈ u :: L, t.ok h := by
            obtain ⟨_, _, _, _, _, _, x6⟩ := id x
            obtain ⟨_, _, _, _, _, _, y6⟩ := id y
            intro t ht
            rcases List.mem_cons.1 ht with rfl | ht
            · exact x6 _ (by simp)
            · rcases List.mem_append.1 (lm t ht) with ht | ht
              · exact x6 t (by simp [ht])
              · exact y6 t ht
          obtain ⟨v', g2, ap, xs, kf, zf⟩ := app_one (h0 := h) (s := u) (j := h.size + 2) (by simpa only [SH.cells, eb1] using bj) (by omega) (kk3.trans kg) xw hok (by omega)
          have kb := kg.get k4
          simp (maxSteps := 1000000) (disch := first | (simp; done) | (simp only [IHeap.size_push', IHeap.size_set']; omega) | omega) [a0, a1, hn, hd, ap]
          rw [mg_ge ct, hL]
          refine ⟨niC_pend [(2, 7), (3, 7)] (by kernel_rfl) ⟨kb.trans k4.symm, bj.trans bj0.symm, trivial⟩, xs, kf⟩
end Go.Proofs.Ytkpbdhfaobmbpaa.Ideal
