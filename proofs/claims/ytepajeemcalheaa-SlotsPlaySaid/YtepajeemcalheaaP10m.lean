import Derived.Test.YtepajeemcalheaaP10l
noncomputable section
open Go.Proofs
namespace Go.Proofs.Ytepajeemcalheaa.Ideal
open Go.RowKit
set_option linter.unusedSimpArgs false
set_option linter.unusedVariables false
set_option linter.unusedSectionVars false
set_option maxRecDepth 100000
set_option maxHeartbeats 4000000
attribute [-simp] IHeap.size_set IHeap.size_push
attribute [local simp ↓] Hid.ap_mk
attribute [local simp] scopeQ_normal scopeQ_ret scopeQ_exit WP_skip WP_label WP_exit WP_goto WP_ret WP_region WP_seq WP_cond WP_block WP_scope WP_loop WP_range thenQ_normal thenQ_ret thenQ_exit thenQ_goto loopQ_normal loopQ_ret loopQ_exit invQ_normal invQ_ret invQ_exit outOf_normal outOf_ret outOf_goto outOf_exit ev_tmp ev_const ev_func
  wops_nil wops_cons wantedE_none wantedE_some jgd_some wnx_eq niC_false wdo_move wdo_assign wdo_pick wdo_load wdo_store wdo_alloc wdo_box wdo_fieldAddr wdo_indexAddr wdo_field wdo_extract wdo_build wdo_buildSlice wdo_makeSlice wdo_binOp wdo_unOp wdo_makeFunc wdo_nilCheck wdo_callV wdo_len wdo_append wdo_copy wdo_delete wdo_max wdo_min wdo_convert jcvt_int
  xput_get put_n put_none put_dfr ibin finQ_n finQ_r finD_nil splice_one ires_nil ires_one ires_two ires_three ires1_tmp ires1_cell jcell_ptr rowLoad_row wrap64 wrapU64 wrapU8 wrapU16 wrapU32 callV_fn buildOf Instr.fill Value.cells Value.oneCell' kindOf slots_all splice_all IHeap.size_set' IHeap.size_push' IHeap.get_set_same IHeap.get_set_ne IHeap.get_pushed IHeap.get_push_ne IHeap.set_set IHeap.set_push IHeap.set_pushed IHeap.set_set3 getU_nil getU_same getU_ne jif_true jif_false pushH_eq setH_eq forceL_eq forceV_eq ibuildSlice
attribute [local simp] wdo_index jopt_some fb_known wdo_cut29
attribute [-simp] Value.oneCell'
attribute [local simp] one_int' one_bool' one_ptr' one_slc'
variable {h : IHeap} {w u q n m : Nat} {L : Nat → List Nat} {cs : Nat → Value} {s k : Nat} {b f : Nat → Nat} {t : Nat → Int}
theorem whv_same {c : Int} {v v' : Value} (r : SRep n m L b f t) (h1 : WhV m L c v) (h2 : WhV m L c v') : v = v' := by
  rcases h1 with ⟨l, a1, ⟨x, a2, a3⟩, rfl⟩ | ⟨a1, rfl⟩
  · rcases h2 with ⟨l', b1, ⟨x', b2, b3⟩, rfl⟩ | ⟨b1, rfl⟩
    · have : x = x' := by omega
      subst this
      rw [r.un b1 b2 l a1 a2]
    · exact absurd a3 (b1 l a1 x a2)
  · rcases h2 with ⟨l', b1, ⟨x', b2, b3⟩, rfl⟩ | ⟨b1, rfl⟩
    · exact absurd b3 (a1 l' b1 x' b2)
    · rfl
theorem whv_form {c : Int} {v : Value} (h : WhV m L c v) : ∃ (a : Int) (z : Bool), v = .tuple #[.int .i64 a, .bool z] := by
  rcases h with ⟨l, _, _, rfl⟩ | ⟨_, rfl⟩
  · exact ⟨_, _, rfl⟩
  · exact ⟨_, _, rfl⟩
theorem same_c (x : Bo h s k q w n m L) (hn60 : n ≤ 60) :
    FN Try.prog 20 #[.pointer (some ⟨s, 0, none⟩), .pointer (some ⟨w, 0, none⟩)] h (Q := ⟨fun v h' => v = .bool true ∧ h.size ≤ h'.size ∧ ∀ i, i < h.size → h'.get i = h.get i⟩) := by
  refine FN.enter mixed (fn := Try.f20) (by kernel_rfl) rfl (by kernel_rfl) fun e hn hg hd => ?_
  simp [Try.f20] at hn
  have a0 : e.get 0 = .pointer (some ⟨s, 0, none⟩) := hg 0 (by omega)
  have a1 : e.get 1 = .pointer (some ⟨w, 0, none⟩) := hg 1 (by omega)
  clear hg
  obtain ⟨⟨b, f, t, x0⟩, u, cs, y0⟩ := x
  have hlen := x0.rep.len hn60
  have mz := y0.mz
  simp (maxSteps := 1000000) (disch := first | (simp; done) | (simp only [IHeap.size_push', IHeap.size_set']; omega) | omega) [a0, a1, hn, hd]
  refine WPL.by_inv mixed (by kernel_rfl) (fun y e h' => ∃ i : Nat, i + y = m + 2 ∧ e.n = 55 ∧ e.dfr = [] ∧ e.get 0 = .pointer (some ⟨s, 0, none⟩) ∧ e.get 1 = .pointer (some ⟨w, 0, none⟩) ∧ e.get 5 = .int .i64 ((i : Int) - 1) ∧ h.size ≤ h'.size ∧ ∀ i, i < h.size → h'.get i = h.get i) (m + 2) ?_ ?_
  · refine ⟨0, ?_⟩
    simp (maxSteps := 1000000) (disch := first | (simp; done) | (simp only [IHeap.size_push', IHeap.size_set']; omega) | omega) [a0, a1, hn, hd]
  clear hn hd a0 a1 e
  rintro y e h1 ⟨i, hi, hn, hd, e0, e1, e5, z1, o1⟩
  have x1 := x0.to o1
  have y1 := y0.to o1
  have gw := y1.gw
  cases y with
  | succ y =>
    have le1 : (i : Int) - 1 ≤ m := by omega
    simp (maxSteps := 1000000) (disch := first | (simp; done) | (simp only [IHeap.size_push', IHeap.size_set']; omega) | omega) [e0, e1, e5, hn, hd, gw, le1]
    have vv : ∃ (A : Option Addr) (p : List Nat), ICall Try.prog 30 #[.pointer (some ⟨w, 0, none⟩), .int .i64 ((i : Int) - 1)] h1 (.slice A p.length p.length) h1 ∧ SlAt h1 q (.slice A p.length p.length) p ∧ p.length ≤ 1000 ∧ ((∃ y : Nat, (i : Int) - 1 = y ∧ y < m ∧ L y = p) ∨ (¬ (0 ≤ (i : Int) - 1 ∧ (i : Int) - 1 < m) ∧ p = [])) := by
      by_cases hb : 0 ≤ (i : Int) - 1 ∧ (i : Int) - 1 < m
      · obtain ⟨a, ha⟩ : ∃ a : Nat, (i : Int) - 1 = a := ⟨i - 1, by omega⟩
        rw [ha] at hb ⊢
        have hy : a < m := by omega
        obtain ⟨A, hA, hr⟩ := y1.at' a hy
        have := rof_c y1 a hy
        rw [hA] at this
        exact ⟨A, L a, this, ⟨A, rfl, hr⟩, hlen a hy, .inl ⟨a, rfl, hy, rfl⟩⟩
      · exact ⟨none, [], rof_bad y1 _ hb, ⟨none, rfl, fun h => absurd rfl h⟩, by simp, .inr ⟨hb, rfl⟩⟩
    obtain ⟨A, p, v1, v2, v3, v4⟩ := vv
    refine FN.of v1 ?_
    simp (maxSteps := 1000000) (disch := first | (simp; done) | (simp only [IHeap.size_push', IHeap.size_set']; omega) | omega) [e0, e1, e5, hn, hd]
    refine FN.mono (tells_c x1 _ v2 v3 v4) ?_
    rintro _ h2 ⟨rfl, z2, o2⟩
    simp (maxSteps := 1000000) (disch := first | (simp; done) | (simp only [IHeap.size_push', IHeap.size_set']; omega) | omega) [e0, e1, e5, hn, hd]
    exact ⟨y, by omega, i + 1, by omega, by omega, by omega, fun i hi => by rw [o2 i (by omega)]; exact o1 i hi⟩
  | zero =>
    obtain rfl : i = m + 2 := by omega
    have le1 : ¬ ((m : Int) + 2 - 1 ≤ m) := by omega
    simp (maxSteps := 1000000) (disch := first | (simp; done) | (simp only [IHeap.size_push', IHeap.size_set']; omega) | omega) [e0, e1, e5, hn, hd, gw, le1]
    refine WPL.by_inv mixed (by kernel_rfl) (fun y e h' => ∃ i : Nat, i + y = n + 2 ∧ e.n = 55 ∧ e.dfr = [] ∧ e.get 0 = .pointer (some ⟨s, 0, none⟩) ∧ e.get 1 = .pointer (some ⟨w, 0, none⟩) ∧ e.get 6 = .int .i64 ((i : Int) - 1) ∧ h' = h1) (n + 2) ?_ ?_
    · refine ⟨0, ?_⟩
      simp (maxSteps := 1000000) (disch := first | (simp; done) | (simp only [IHeap.size_push', IHeap.size_set']; omega) | omega) [e0, e1, hn, hd]
    clear hn hd e0 e1 e5 e
    rintro y e h2 ⟨i, hi, hn, hd, e0, e1, e6, hh⟩
    subst hh
    cases y with
    | succ y =>
      have le1 : (i : Int) - 1 ≤ n := by omega
      simp (maxSteps := 1000000) (disch := first | (simp; done) | (simp only [IHeap.size_push', IHeap.size_set']; omega) | omega) [e0, e1, e6, hn, hd, gw, le1]
      refine FN.mono (where_c x1 _) ?_
      rintro v h3 ⟨hv, hh⟩
      subst hh
      obtain ⟨a, z, rfl⟩ := whv_form hv
      simp (maxSteps := 1000000) (disch := first | (simp; done) | (simp only [IHeap.size_push', IHeap.size_set']; omega) | omega) [e0, e1, e6, hn, hd]
      refine FN.mono (rwhere_c y1 hlen _) ?_
      rintro v h4 ⟨hv', hh⟩
      subst hh
      rw [← whv_same x1.rep hv hv']
      simp (maxSteps := 1000000) (disch := first | (simp; done) | (simp only [IHeap.size_push', IHeap.size_set']; omega) | omega) [e0, e1, e6, hn, hd, undef]
      exact ⟨y, by omega, i + 1, by omega, by omega⟩
    | zero =>
      obtain rfl : i = n + 2 := by omega
      have le1 : ¬ ((n : Int) + 2 - 1 ≤ n) := by omega
      simp (maxSteps := 1000000) (disch := first | (simp; done) | (simp only [IHeap.size_push', IHeap.size_set']; omega) | omega) [e0, e1, e6, hn, hd, gw, le1]
      exact ⟨z1, o1⟩
theorem pop_bad (x : SIs h s k q n m L b f t) (l : Int) (hl : ¬ (0 ≤ l ∧ l < m)) :
    FN Try.prog 11 #[.pointer (some ⟨s, 0, none⟩), .int .i64 l] h (Q := ⟨fun v h' => v = .tuple #[.int .i64 0, .bool false] ∧ Sx h' s k q n m L ∧ h.size ≤ h'.size ∧ ∀ i, i < h.size → i ≠ k → i ≠ q → h'.get i = h.get i⟩) := by
  refine FN.enter mixed (fn := Try.f11) (by kernel_rfl) rfl (by kernel_rfl) fun e hn hg hd => ?_
  simp [Try.f11] at hn
  have a0 : e.get 0 = .pointer (some ⟨s, 0, none⟩) := hg 0 (by omega)
  have a1 : e.get 1 = .int .i64 l := hg 1 (by omega)
  clear hg
  have hsz := IHeap.get_lt x.gs
  have hkz := IHeap.get_lt x.gk
  have hqz := IHeap.get_lt x.gq
  simp (maxSteps := 1000000) (disch := first | (simp; done) | (simp only [IHeap.size_push', IHeap.size_set']; omega) | omega) [a0, a1, hn, hd]
  refine FN.of (of_c s l) ?_
  simp (maxSteps := 1000000) (disch := first | (simp; done) | (simp only [IHeap.size_push', IHeap.size_set']; omega) | omega) [a0, a1, hn, hd]
  refine WPR.gen fun E H hE hH => ?_
  have E2 : E.get 2 = .pointer (some ⟨h.size, 0, none⟩) := by rw [hE]; simp (maxSteps := 1000000) (disch := first | (simp; done) | (simp only [IHeap.size_push', IHeap.size_set']; omega) | omega) [hn]
  have E4 : E.get 4 = .pointer (some ⟨h.size + 1, 0, none⟩) := by rw [hE]; simp (maxSteps := 1000000) (disch := first | (simp; done) | (simp only [IHeap.size_push', IHeap.size_set']; omega) | omega) [hn]
  have E5 : E.get 5 = .pointer (some ⟨h.size + 2, 0, none⟩) := by rw [hE]; simp (maxSteps := 1000000) (disch := first | (simp; done) | (simp only [IHeap.size_push', IHeap.size_set']; omega) | omega) [hn]
  have E9 : E.get 9 = .func (.func 27) #[] #[.pointer (some ⟨h.size + 3, 0, none⟩), .pointer (some ⟨h.size + 4, 0, none⟩)] := by rw [hE]; simp (maxSteps := 1000000) (disch := first | (simp; done) | (simp only [IHeap.size_push', IHeap.size_set']; omega) | omega) [hn]
  have En : E.n = 15 := by rw [hE]; simp (maxSteps := 1000000) (disch := first | (simp; done) | (simp only [IHeap.size_push', IHeap.size_set']; omega) | omega) [hn]
  have Ed : E.dfr = [] := by rw [hE]; simp (maxSteps := 1000000) (disch := first | (simp; done) | (simp only [IHeap.size_push', IHeap.size_set']; omega) | omega) [hd]
  have Hz : H.size = h.size + 5 := by rw [hH]; simp (maxSteps := 1000000) (disch := first | (simp; done) | (simp only [IHeap.size_push', IHeap.size_set']; omega) | omega) []
  have Ho : ∀ i, i < h.size → H.get i = h.get i := fun i hi => by rw [hH]; simp (maxSteps := 1000000) (disch := first | (simp; done) | (simp only [IHeap.size_push', IHeap.size_set']; omega) | omega) []
  have H0 : H.get h.size = some (.row false 0 [.pointer (some ⟨s, 0, none⟩)]) := by rw [hH]; simp (maxSteps := 1000000) (disch := first | (simp; done) | (simp only [IHeap.size_push', IHeap.size_set']; omega) | omega) []
  have H1 : H.get (h.size + 1) = some (.row false 0 [.int .i64 0]) := by rw [hH]; simp (maxSteps := 1000000) (disch := first | (simp; done) | (simp only [IHeap.size_push', IHeap.size_set']; omega) | omega) []
  have H2 : H.get (h.size + 2) = some (.row false 0 [.bool false]) := by rw [hH]; simp (maxSteps := 1000000) (disch := first | (simp; done) | (simp only [IHeap.size_push', IHeap.size_set']; omega) | omega) []
  have H3 : H.get (h.size + 3) = some (.row false 0 [.pointer (some ⟨s, 0, none⟩)]) := by rw [hH]; simp (maxSteps := 1000000) (disch := first | (simp; done) | (simp only [IHeap.size_push', IHeap.size_set']; omega) | omega) []
  have H4 : H.get (h.size + 4) = some (.row false 0 [.int .i64 l]) := by rw [hH]; simp (maxSteps := 1000000) (disch := first | (simp; done) | (simp only [IHeap.size_push', IHeap.size_set']; omega) | omega) []
  clear hH hE hn hd a0 a1
  refine WPR.intro2 (cs := #[.pointer (some ⟨h.size + 3, 0, none⟩), .pointer (some ⟨h.size + 4, 0, none⟩)]) (fs := #[]) rfl E9 (by simp) rfl ?_
  intro P Lp Lt LA LB Ls Ln
  have x1 : SIs ((H.push .defs).push (.loop P)) s k q n m L b f t := x.to fun i hi => by
    have := Ho i hi
    simp (maxSteps := 1000000) (disch := first | (simp; done) | (simp only [IHeap.size_push', IHeap.size_set']; omega) | omega) [this]
  have gd0 : ((H.push .defs).push (.loop P)).get (h.size + 5) = some .defs := by simp (maxSteps := 1000000) (disch := first | (simp; done) | (simp only [IHeap.size_push', IHeap.size_set']; omega) | omega) [Hz]
  have gl0 : ((H.push .defs).push (.loop P)).get (h.size + 5 + 1) = some (.loop P) := by simp (maxSteps := 1000000) (disch := first | (simp; done) | (simp only [IHeap.size_push', IHeap.size_set']; omega) | omega) [Hz]
  have z0 : ((H.push .defs).push (.loop P)).size = h.size + 7 := by simp only [IHeap.size_push']; omega
  have q1 : ((H.push .defs).push (.loop P)).get (h.size + 1) = some (.row false 0 [.int .i64 0]) := by simp (maxSteps := 1000000) (disch := first | (simp; done) | (simp only [IHeap.size_push', IHeap.size_set']; omega) | omega) [H1]
  have q2 : ((H.push .defs).push (.loop P)).get (h.size + 2) = some (.row false 0 [.bool false]) := by simp (maxSteps := 1000000) (disch := first | (simp; done) | (simp only [IHeap.size_push', IHeap.size_set']; omega) | omega) [H2]
  have go : ∀ i, i < h.size → ((H.push .defs).push (.loop P)).get i = h.get i := fun i hi => by
    have := Ho i hi
    simp (maxSteps := 1000000) (disch := first | (simp; done) | (simp only [IHeap.size_push', IHeap.size_set']; omega) | omega) [this]
  refine FN.of (iter_bad x1 hl (by simp (maxSteps := 1000000) (disch := first | (simp; done) | (simp only [IHeap.size_push', IHeap.size_set']; omega) | omega) [H3]) (by simp (maxSteps := 1000000) (disch := first | (simp; done) | (simp only [IHeap.size_push', IHeap.size_set']; omega) | omega) [H4])) ?_
  generalize (H.push .defs).push (.loop P) = h3 at gd0 gl0 z0 q1 q2 go x1 ⊢
  obtain ⟨E', hE', n', d', g'⟩ := XEnv.withd E (markOf H.size :: E.dfr)
  have E4' := g' 4
  have E5' := g' 5
  rw [E4] at E4'; rw [E5] at E5'; rw [En] at n'; rw [Ed] at d'
  refine ⟨P, by rw [Hz]; exact gl0, by rw [Ls]; simp, .normal, by rw [Ln]; rfl, ?_⟩
  simp only [Hid.ap_mk]
  rw [hE']
  rw [Hz] at d' ⊢
  have g1' : (h3.set (h.size + 5 + 1) (.loop { P with state := .exhausted })).get (h.size + 1) = some (.row false 0 [.int .i64 0]) := by rw [IHeap.get_set_ne _ (by omega)]; exact q1
  have g2' : (h3.set (h.size + 5 + 1) (.loop { P with state := .exhausted })).get (h.size + 2) = some (.row false 0 [.bool false]) := by rw [IHeap.get_set_ne _ (by omega)]; exact q2
  have gd' : (h3.set (h.size + 5 + 1) (.loop { P with state := .exhausted })).get (h.size + 5) = some .defs := by rw [IHeap.get_set_ne _ (by omega)]; exact gd0
  have go' : ∀ i, i < h.size → (h3.set (h.size + 5 + 1) (.loop { P with state := .exhausted })).get i = h.get i := fun i hi => by rw [IHeap.get_set_ne _ (by omega)]; exact go i hi
  generalize hhh : h3.set (h.size + 5 + 1) (.loop { P with state := .exhausted }) = h4 at gd' g1' g2' go' ⊢
  have hz4 : h4.size = h3.size := by rw [← hhh]; simp only [IHeap.size_set']
  have gd2 : ((h4.set (h.size + 1) (.row false 0 [.int .i64 0])).set (h.size + 2) (.row false 0 [.bool false])).get (h.size + 5) = some .defs := by simp (maxSteps := 1000000) (disch := first | (simp; done) | (simp only [IHeap.size_push', IHeap.size_set']; omega) | omega) [gd']
  simp (maxSteps := 1000000) (disch := first | (simp; done) | (simp only [IHeap.size_push', IHeap.size_set']; omega) | omega) [outOf_normal, E4', E5', n', d', g1', g2', finD_one gd2]
  have fin : ∀ i, i < h.size → (((h4.set (h.size + 1) (.row false 0 [.int .i64 0])).set (h.size + 2) (.row false 0 [.bool false])).set (h.size + 5) .dead).get i = h.get i := fun i hi => by
    rw [IHeap.get_set_ne _ (by omega), IHeap.get_set_ne _ (by omega), IHeap.get_set_ne _ (by omega)]; exact go' i hi
  exact ⟨⟨b, f, t, x.to fin⟩, by omega, fun i hi _ _ => fin i hi⟩
theorem rpop_bad (x : RIs h w u q n m L cs) (l : Int) (hl : ¬ (0 ≤ l ∧ l < m)) : ICall Try.prog 15 #[.pointer (some ⟨w, 0, none⟩), .int .i64 l] h (.tuple #[.int .i64 0, .bool false]) h := by
  refine ICall.of_FN ?_
  refine FN.enter mixed (fn := Try.f15) (by kernel_rfl) rfl (by kernel_rfl) fun e hn hg hd => ?_
  simp [Try.f15] at hn
  have a0 : e.get 0 = .pointer (some ⟨w, 0, none⟩) := hg 0 (by omega)
  have a1 : e.get 1 = .int .i64 l := hg 1 (by omega)
  clear hg
  simp (maxSteps := 1000000) (disch := first | (simp; done) | (simp only [IHeap.size_push', IHeap.size_set']; omega) | omega) [a0, a1, hn, hd]
  refine FN.of (rof_bad x l hl) ?_
  simp (maxSteps := 1000000) (disch := first | (simp; done) | (simp only [IHeap.size_push', IHeap.size_set']; omega) | omega) [a0, a1, hn, hd]
theorem new_bad {h : IHeap} {m n : Int} (hb : ¬ ((1 ≤ m ∧ m ≤ 4096) ∧ (1 ≤ n ∧ n ≤ 65536))) : ICall Try.prog 6 #[.int .i64 m, .int .i64 n] h (.tuple #[.pointer none, .int .i64 2]) h := by
  refine ICall.of_FN ?_
  refine FN.enter mixed (fn := Try.f6) (by kernel_rfl) rfl (by kernel_rfl) fun e hn hg hd => ?_
  simp [Try.f6] at hn
  have a0 : e.get 0 = .int .i64 m := hg 0 (by omega)
  have a1 : e.get 1 = .int .i64 n := hg 1 (by omega)
  clear hg
  by_cases b0 : m < 1
  · simp (maxSteps := 1000000) (disch := first | (simp; done) | (simp only [IHeap.size_push', IHeap.size_set']; omega) | omega) [a0, a1, hn, hd, b0, undef]
  by_cases b1 : (4096 : Int) < m
  · simp (maxSteps := 1000000) (disch := first | (simp; done) | (simp only [IHeap.size_push', IHeap.size_set']; omega) | omega) [a0, a1, hn, hd, b0, b1, undef]
  by_cases b2 : n < 1
  · simp (maxSteps := 1000000) (disch := first | (simp; done) | (simp only [IHeap.size_push', IHeap.size_set']; omega) | omega) [a0, a1, hn, hd, b0, b1, b2, undef]
  have b3 : (65536 : Int) < n := by omega
  simp (maxSteps := 1000000) (disch := first | (simp; done) | (simp only [IHeap.size_push', IHeap.size_set']; omega) | omega) [a0, a1, hn, hd, b0, b1, b2, b3, undef]
open Classical in
def pushRes (n m : Nat) (L : Nat → List Nat) (l c : Int) : Int × (Nat → List Nat) :=
  if (0 ≤ l ∧ l < m) ∧ (0 ≤ c ∧ c < n) then (if ∃ a, a < m ∧ c.toNat ∈ L a then (8, L) else (0, putL L l.toNat (L l.toNat ++ [c.toNat]))) else (2, L)
open Classical in
def remRes (n m : Nat) (L : Nat → List Nat) (c : Int) : Int × (Nat → List Nat) :=
  if 0 ≤ c ∧ c < n then (if x : ∃ a, a < m ∧ c.toNat ∈ L a then (0, putL L (Classical.choose x) ((L (Classical.choose x)).erase c.toNat)) else (7, L)) else (2, L)
def popRes (m : Nat) (L : Nat → List Nat) (l : Int) : Value × (Nat → List Nat) :=
  if 0 ≤ l ∧ l < m then (popV (L l.toNat), putL L l.toNat (L l.toNat).tail) else (.tuple #[.int .i64 0, .bool false], L)
theorem pushA_c (x : SIs h s k q n m L b f t) (hn60 : n ≤ 60) (l c : Int) : FN Try.prog 8 #[.pointer (some ⟨s, 0, none⟩), .int .i64 l, .int .i64 c] h (Q := ⟨fun v h' => v = .int .i64 (pushRes n m L l c).1 ∧ Sx h' s k q n m (pushRes n m L l c).2 ∧ h.size ≤ h'.size ∧ ∀ i, i < h.size → i ≠ k → i ≠ q → h'.get i = h.get i⟩) := by
  obtain ⟨R, hR⟩ : ∃ R, pushRes n m L l c = R := ⟨_, rfl⟩
  rw [hR]
  unfold pushRes at hR
  split at hR
  · rename_i hb
    obtain ⟨l, rfl⟩ : ∃ y : Nat, l = y := ⟨l.toNat, by omega⟩
    obtain ⟨c, rfl⟩ : ∃ y : Nat, c = y := ⟨c.toNat, by omega⟩
    simp only [Int.toNat_natCast] at hR
    split at hR
    · rename_i hc
      subst hR
      obtain ⟨a, h1, h2⟩ := hc
      have := (x.rep.mem a h1 c h2).2
      exact FN.of (push_twice x l c (by omega) (by omega) (by omega)) ⟨rfl, ⟨b, f, t, x⟩, Nat.le_refl _, fun _ _ _ _ => rfl⟩
    · rename_i hc
      subst hR
      have ht := x.rep.out c (by omega) (fun a h1 h2 => hc ⟨a, h1, h2⟩)
      refine FN.mono (push_ok x l c (by omega) (by omega) (by omega) (by have := x.rep.len hn60 l (by omega); omega)) ?_
      rintro _ h1 ⟨rfl, h2, h3, h4⟩
      exact ⟨rfl, h2, by omega, fun i _ a b => h4 i a b⟩
  · rename_i hb
    subst hR
    exact FN.of (push_bad x l c hb) ⟨rfl, ⟨b, f, t, x⟩, Nat.le_refl _, fun _ _ _ _ => rfl⟩
theorem rpushA_c (y : RIs h w u q n m L cs) (hq : q < h.size) (hlen : ∀ l, l < m → (L l).length ≤ 1000) (l c : Int) : FN Try.prog 14 #[.pointer (some ⟨w, 0, none⟩), .int .i64 l, .int .i64 c] h (Q := ⟨fun v h' => v = .int .i64 (pushRes n m L l c).1 ∧ (∃ u' cs', RIs h' w u' q n m (pushRes n m L l c).2 cs') ∧ h.size ≤ h'.size ∧ ∀ i, i < h.size → i ≠ w → h'.get i = h.get i⟩) := by
  obtain ⟨R, hR⟩ : ∃ R, pushRes n m L l c = R := ⟨_, rfl⟩
  rw [hR]
  unfold pushRes at hR
  split at hR
  · rename_i hb
    obtain ⟨l, rfl⟩ : ∃ y : Nat, l = y := ⟨l.toNat, by omega⟩
    obtain ⟨c, rfl⟩ : ∃ y : Nat, c = y := ⟨c.toNat, by omega⟩
    simp only [Int.toNat_natCast] at hR
    refine FN.mono (rpush_c y hq hlen l c (by omega) (by omega)) ?_
    rintro v h1 (⟨h2, rfl, h3⟩ | ⟨h2, rfl, h3, h4, h5⟩)
    · subst h3
      rw [if_pos h2] at hR
      subst hR
      exact ⟨rfl, ⟨u, cs, y⟩, Nat.le_refl _, fun _ _ _ => rfl⟩
    · rw [if_neg (fun ⟨a, h6, h7⟩ => h2 a h6 h7)] at hR
      subst hR
      exact ⟨rfl, h3, h4, h5⟩
  · rename_i hb
    subst hR
    exact FN.of (rpush_bad y l c hb) ⟨rfl, ⟨u, cs, y⟩, Nat.le_refl _, fun _ _ _ => rfl⟩
theorem remA_c (x : SIs h s k q n m L b f t) (hn60 : n ≤ 60) (c : Int) : FN Try.prog 9 #[.pointer (some ⟨s, 0, none⟩), .int .i64 c] h (Q := ⟨fun v h' => v = .int .i64 (remRes n m L c).1 ∧ Sx h' s k q n m (remRes n m L c).2 ∧ h.size ≤ h'.size ∧ ∀ i, i < h.size → i ≠ k → i ≠ q → h'.get i = h.get i⟩) := by
  obtain ⟨R, hR⟩ : ∃ R, remRes n m L c = R := ⟨_, rfl⟩
  rw [hR]
  unfold remRes at hR
  split at hR
  · rename_i hb
    obtain ⟨c, rfl⟩ : ∃ y : Nat, c = y := ⟨c.toNat, by omega⟩
    simp only [Int.toNat_natCast] at hR
    split at hR
    · rename_i hc
      subst hR
      obtain ⟨h1, h2⟩ := Classical.choose_spec hc
      refine FN.mono (remove_ok x _ c h1 h2 (by have := x.rep.len hn60 _ h1; omega)) ?_
      rintro _ h' ⟨rfl, h3, h4, h5⟩
      exact ⟨rfl, h3, by omega, h5⟩
    · rename_i hc
      subst hR
      have ht := x.rep.out c (by omega) (fun a h1 h2 => hc ⟨a, h1, h2⟩)
      exact FN.of (remove_none x c (by omega) (by omega)) ⟨rfl, ⟨b, f, t, x⟩, Nat.le_refl _, fun _ _ _ _ => rfl⟩
  · rename_i hb
    subst hR
    exact FN.of (remove_bad x c hb) ⟨rfl, ⟨b, f, t, x⟩, Nat.le_refl _, fun _ _ _ _ => rfl⟩
theorem rremA_c (y : RIs h w u q n m L cs) (r : SRep n m L b f t) (hq : q < h.size) (hlen : ∀ l, l < m → (L l).length ≤ 1000) (c : Int) : FN Try.prog 16 #[.pointer (some ⟨w, 0, none⟩), .int .i64 c] h (Q := ⟨fun v h' => v = .int .i64 (remRes n m L c).1 ∧ (∃ u' cs', RIs h' w u' q n m (remRes n m L c).2 cs') ∧ h.size ≤ h'.size ∧ ∀ i, i < h.size → i ≠ w → h'.get i = h.get i⟩) := by
  obtain ⟨R, hR⟩ : ∃ R, remRes n m L c = R := ⟨_, rfl⟩
  rw [hR]
  unfold remRes at hR
  split at hR
  · rename_i hb
    obtain ⟨c, rfl⟩ : ∃ y : Nat, c = y := ⟨c.toNat, by omega⟩
    simp only [Int.toNat_natCast] at hR
    split at hR
    · rename_i hc
      subst hR
      obtain ⟨h1, h2⟩ := Classical.choose_spec hc
      exact rremove_c y hq hlen _ c h1 (by omega) h2 (r.un h1 h2) (r.nd _ h1)
    · rename_i hc
      subst hR
      refine FN.mono (rremove_none y hlen c (by omega) (fun a h1 h2 => hc ⟨a, h1, h2⟩)) ?_
      rintro _ h' ⟨rfl, h3⟩
      subst h3
      exact ⟨rfl, ⟨u, cs, y⟩, Nat.le_refl _, fun _ _ _ => rfl⟩
  · rename_i hb
    subst hR
    exact FN.of (rremove_bad y c hb) ⟨rfl, ⟨u, cs, y⟩, Nat.le_refl _, fun _ _ _ => rfl⟩
theorem popA_c (x : SIs h s k q n m L b f t) (hn60 : n ≤ 60) (l : Int) : FN Try.prog 11 #[.pointer (some ⟨s, 0, none⟩), .int .i64 l] h (Q := ⟨fun v h' => v = (popRes m L l).1 ∧ Sx h' s k q n m (popRes m L l).2 ∧ h.size ≤ h'.size ∧ ∀ i, i < h.size → i ≠ k → i ≠ q → h'.get i = h.get i⟩) := by
  obtain ⟨R, hR⟩ : ∃ R, popRes m L l = R := ⟨_, rfl⟩
  rw [hR]
  unfold popRes at hR
  split at hR
  · rename_i hb
    obtain ⟨l, rfl⟩ : ∃ y : Nat, l = y := ⟨l.toNat, by omega⟩
    simp only [Int.toNat_natCast] at hR
    subst hR
    exact pop_c x l (by omega) (by have := x.rep.len hn60 l (by omega); omega)
  · rename_i hb
    subst hR
    exact pop_bad x l hb
theorem rpopA_c (y : RIs h w u q n m L cs) (hq : q < h.size) (hlen : ∀ l, l < m → (L l).length ≤ 1000) (l : Int) : FN Try.prog 15 #[.pointer (some ⟨w, 0, none⟩), .int .i64 l] h (Q := ⟨fun v h' => v = (popRes m L l).1 ∧ (∃ u' cs', RIs h' w u' q n m (popRes m L l).2 cs') ∧ h.size ≤ h'.size ∧ ∀ i, i < h.size → i ≠ w → h'.get i = h.get i⟩) := by
  obtain ⟨R, hR⟩ : ∃ R, popRes m L l = R := ⟨_, rfl⟩
  rw [hR]
  unfold popRes at hR
  split at hR
  · rename_i hb
    obtain ⟨l, rfl⟩ : ∃ y : Nat, l = y := ⟨l.toNat, by omega⟩
    simp only [Int.toNat_natCast] at hR
    subst hR
    exact rpop_c y hq hlen l (by omega)
  · rename_i hb
    subst hR
    exact FN.of (rpop_bad y l hb) ⟨rfl, ⟨u, cs, y⟩, Nat.le_refl _, fun _ _ _ => rfl⟩
end Go.Proofs.Ytepajeemcalheaa.Ideal
