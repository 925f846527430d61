import Derived.Test.YtnmbpehficchkaaP44i
import Derived.Test.YtnmbpehficchkaaSlice2
noncomputable section
open Go.Proofs
namespace Go.Proofs.Ytnmbpehficchkaa.Ideal
open Go.RowKit
set_option linter.unusedSimpArgs false
set_option linter.unusedVariables false
set_option maxRecDepth 100000
set_option maxHeartbeats 4000000
attribute [-simp] IHeap.size_set IHeap.size_push
attribute [local simp ↓] Hid.ap_mk
attribute [local simp] scopeQ_normal scopeQ_ret scopeQ_exit WP_skip WP_label WP_exit WP_goto WP_ret WP_region WP_seq WP_cond WP_block WP_scope WP_loop WP_range thenQ_normal thenQ_ret thenQ_exit thenQ_goto loopQ_normal loopQ_ret loopQ_exit invQ_normal invQ_ret invQ_exit outOf_normal outOf_ret outOf_goto outOf_exit ev_tmp ev_const ev_func
  wops_nil wops_cons wantedE_none wantedE_some jgd_some wnx_eq niC_false wdo_move wdo_assign wdo_pick wdo_load wdo_store wdo_alloc wdo_box wdo_fieldAddr wdo_indexAddr wdo_field wdo_extract wdo_build wdo_buildSlice wdo_makeSlice wdo_binOp wdo_unOp wdo_makeFunc wdo_nilCheck wdo_callV wdo_len wdo_append wdo_copy wdo_delete wdo_max wdo_min wdo_convert jcvt_int
  xput_get put_n put_none put_dfr ibin finQ_n finQ_r finD_nil splice_one ires_nil ires_one ires_two ires_three ires1_tmp ires1_cell jcell_ptr rowLoad_row wrap64 wrapU64 wrapU8 wrapU16 wrapU32 callV_fn buildOf Instr.fill Value.cells Value.oneCell' kindOf slots_all splice_all IHeap.size_set' IHeap.size_push' IHeap.get_set_same IHeap.get_set_ne IHeap.get_pushed IHeap.get_push_ne IHeap.set_set IHeap.set_push IHeap.set_pushed IHeap.set_set3 getU_nil getU_same getU_ne jif_true jif_false pushH_eq setH_eq forceL_eq forceV_eq ibuildSlice
attribute [local simp] wdo_index jopt_some fb_known ze_hist wdo_cut22
attribute [-simp] ze28
theorem HG.of_sum (l : List Nat) : (HG.of l).sum = wsum l := by
  have key : ∀ (l : List Nat) (x : HG), (l.foldl HG.add x).sum = l.foldl (fun a n => IntKind.u64.wrap (a + (n : Nat))) x.sum := by
    intro l
    induction l with
    | nil => intro x; rfl
    | cons n l ih =>
      intro x
      rw [List.foldl_cons, List.foldl_cons, ih]
      rfl
  exact key l hg0
theorem src_arg {h : IHeap} {k : Nat} {A : Option Addr} {l : List Nat} {cap : Nat} (s : SlArg k A l.length cap) (g : h.get k = some (.row true 0 (u64s l))) : srcOf h 1 (.slice A l.length cap) = some (l.length, u64s l) := by
  by_cases h0 : l.length = 0
  · obtain rfl := List.eq_nil_of_length_eq_zero h0
    rcases s with ⟨rfl, _, rfl⟩ | rfl
    · rfl
    · simp [srcOf, u64s]
  · rcases s with ⟨rfl, e, rfl⟩ | rfl
    · exact absurd e h0
    · exact src_row g (slots_full _ (by rw [u64s_len]; omega)) h0
theorem rows_arg {h : IHeap} {k : Nat} {A : Option Addr} {l : List Nat} {cap : Nat} (s : SlArg k A l.length cap) (g : h.get k = some (.row true 0 (u64s l))) : RowsAt h A (u64s l) := by
  intro hv
  rcases s with ⟨rfl, e, rfl⟩ | rfl
  · obtain rfl := List.eq_nil_of_length_eq_zero e
    exact absurd rfl hv
  · exact ⟨k, 0, true, 0, _, rfl, g, fun j c hc => by simpa using hc⟩
theorem HG.mrg_sum {x y : HG} {l m : List Nat} (hx : x.Is l) (hy : y.Is m) (sx : x.sum = wsum l) (sy : y.sum = wsum m) : (x.mrg y).sum = wsum (l ++ m) := by
  unfold HG.mrg
  split
  · rename_i c
    rw [hy.tot] at c
    obtain rfl : m = [] := List.eq_nil_of_length_eq_zero (by omega)
    rw [List.append_nil]
    exact sx
  · rw [wsum_app, ← sx, ← sy]
    rfl
theorem rows_own {h : IHeap} {k : Nat} {l : List Nat} {ro : Bool} {esz : Nat} (g : h.get k = some (.row ro esz (u64s l))) : RowsAt h (some ⟨k, 0, none⟩) (u64s l) :=
  fun _ => ⟨k, 0, ro, esz, _, rfl, g, fun j c hc => by simpa using hc⟩
theorem counts_c {h : IHeap} {A B : Option Addr} {a b : List Nat} {ca cb : Nat} {i q : Int} (sa : SlArg 0 A a.length ca) (sb : SlArg 1 B b.length cb) (ha : ∀ n ∈ a, n < 2 ^ 64) (hb : ∀ n ∈ b, n < 2 ^ 64)
    (r0 : h.get 0 = some (.row true 0 (u64s a))) (r1 : h.get 1 = some (.row true 0 (u64s b))) :
    FN Try.prog 5 #[.slice A a.length ca, .slice B b.length cb, .int .i64 i, .int .i64 q] h (Q := ⟨fun v _ => v = .bool true⟩) := by
  refine FN.enter mixed (fn := Try.f5) (by kernel_rfl) rfl (by kernel_rfl) fun e hn hg hd => ?_
  simp [Try.f5] at hn
  have a0 : e.get 0 = .slice A a.length ca := hg 0 (by omega)
  have a1 : e.get 1 = .slice B b.length cb := hg 1 (by omega)
  have a2 : e.get 2 = .int .i64 i := hg 2 (by omega)
  have a3 : e.get 3 = .int .i64 q := hg 3 (by omega)
  clear hg
  have z0 := IHeap.get_lt r0
  have z1 := IHeap.get_lt r1
  have ra := rows_arg sa r0
  have rb := rows_arg sb r1
  by_cases c1 : (100 : Int) < a.length
  · simp (maxSteps := 1000000) (disch := first | (simp; done) | (simp only [IHeap.size_push', IHeap.size_set']; omega) | omega) [a0, a1, a2, a3, hn, hd, c1, undef]
    refine FN.of known_c ?_
    simp (maxSteps := 1000000) (disch := first | (simp; done) | (simp only [IHeap.size_push', IHeap.size_set']; omega) | omega) [hn, hd]
  by_cases c2 : (100 : Int) < b.length
  · simp (maxSteps := 1000000) (disch := first | (simp; done) | (simp only [IHeap.size_push', IHeap.size_set']; omega) | omega) [a0, a1, a2, a3, hn, hd, c1, c2, undef]
    refine FN.of known_c ?_
    simp (maxSteps := 1000000) (disch := first | (simp; done) | (simp only [IHeap.size_push', IHeap.size_set']; omega) | omega) [hn, hd]
  have c1' : a.length ≤ 100 := by omega
  have c2' : b.length ≤ 100 := by omega
  simp (maxSteps := 1000000) (disch := first | (simp; done) | (simp only [IHeap.size_push', IHeap.size_set']; omega) | omega) [a0, a1, a2, a3, hn, hd, c1, c2, undef]
  refine WPL.by_inv mixed (by kernel_rfl) (fun k e h' => ∃ j, j + k = a.length ∧ e.n = 102 ∧ e.dfr = [] ∧ e.get 0 = .slice A a.length ca ∧ e.get 1 = .slice B b.length cb ∧ e.get 2 = .int .i64 i ∧ e.get 3 = .int .i64 q ∧ e.get 9 = .pointer (some ⟨h.size, 0, none⟩) ∧ e.get 10 = .pointer (some ⟨h.size + 1, 0, none⟩) ∧ e.get 29 = .slice A a.length ca ∧ e.get 30 = .int .i64 a.length ∧ e.get 31 = .int .i64 j ∧ h'.get h.size = some (HG.of (a.take j)).obj ∧ h'.get (h.size + 1) = some hg0.obj ∧ ∀ i, i < h.size → h'.get i = h.get i) a.length ?_ ?_
  · refine ⟨0, ?_⟩
    simp (maxSteps := 1000000) (disch := first | (simp; done) | (simp only [IHeap.size_push', IHeap.size_set']; omega) | omega) [a0, a1, a2, a3, hn, hd]
    exact ⟨rfl, rfl, fun i hi => by rw [IHeap.get_push_ne _ (by rw [IHeap.size_push']; omega), IHeap.get_push_ne _ (by omega)]⟩
  clear hn hd a0 a1 a2 a3 e
  rintro k e h1 ⟨j, hj, hn, hd, e0, e1, e2, e3, e9, e10, e29, e30, e31, hx, hy, hold⟩
  cases k with
  | succ k =>
    have hlt : j < a.length := by omega
    have hlt2 : (j : Int) < a.length := by omega
    obtain ⟨i', o, ro, esz, cs, rfl, hrow, hcs⟩ := ra.at (j := j) (by simpa [u64s] using hlt)
    have g1 := hcs j (.int .u64 a[j]) (by simp [u64s, hlt])
    have g2 : h1.get i' = some (.row ro esz cs) := by rw [hold i' (IHeap.get_lt hrow)]; exact hrow
    have hz := IHeap.get_lt hx
    simp (maxSteps := 1000000) (disch := first | (simp; done) | (simp only [IHeap.size_push', IHeap.size_set']; omega) | omega) [e0, e1, e2, e3, e9, e10, e29, e30, e31, hn, hd, hlt2, hlt, g1, g2]
    refine FN.of (add_c (ha _ (List.getElem_mem hlt)) ((HG.of_is (a.take j) (fun n hn => ha n (List.mem_of_mem_take hn))).ok (by simp; omega)) hx) ?_
    simp (maxSteps := 1000000) (disch := first | (simp; done) | (simp only [IHeap.size_push', IHeap.size_set']; omega) | omega) [e0, e1, e2, e3, e9, e10, e29, e30, e31, hn, hd]
    refine ⟨k, by omega, j + 1, by omega, by omega, ?_, hy, fun i hi => ?_⟩
    · rw [List.take_succ_eq_append_getElem hlt, HG.of_snoc]
    · rw [IHeap.get_set_ne _ (by omega)]
      exact hold i hi
  | zero =>
    obtain rfl : j = a.length := by omega
    rw [List.take_length] at hx
    simp (maxSteps := 1000000) (disch := first | (simp; done) | (simp only [IHeap.size_push', IHeap.size_set']; omega) | omega) [e0, e1, e2, e3, e9, e10, e29, e30, e31, hn, hd]
    clear e29 e30 e31
    refine WPL.by_inv mixed (by kernel_rfl) (fun k e h' => ∃ j, j + k = b.length ∧ e.n = 102 ∧ e.dfr = [] ∧ e.get 0 = .slice A a.length ca ∧ e.get 1 = .slice B b.length cb ∧ e.get 2 = .int .i64 i ∧ e.get 3 = .int .i64 q ∧ e.get 9 = .pointer (some ⟨h.size, 0, none⟩) ∧ e.get 10 = .pointer (some ⟨h.size + 1, 0, none⟩) ∧ e.get 39 = .slice B b.length cb ∧ e.get 40 = .int .i64 b.length ∧ e.get 41 = .int .i64 j ∧ h'.get h.size = some (HG.of a).obj ∧ h'.get (h.size + 1) = some (HG.of (b.take j)).obj ∧ ∀ i, i < h.size → h'.get i = h.get i) b.length ?_ ?_
    · refine ⟨0, ?_⟩
      simp (maxSteps := 1000000) (disch := first | (simp; done) | (simp only [IHeap.size_push', IHeap.size_set']; omega) | omega) [e0, e1, e2, e3, e9, e10, hn, hd, hx, hy]
      exact ⟨rfl, hold⟩
    clear hn hd e0 e1 e2 e3 e9 e10 hx hy hold e
    rintro k e h2 ⟨j, hj, hn, hd, e0, e1, e2, e3, e9, e10, e39, e40, e41, hx, hy, hold⟩
    cases k with
    | succ k =>
      have hlt : j < b.length := by omega
      have hlt2 : (j : Int) < b.length := by omega
      obtain ⟨i', o, ro, esz, cs, rfl, hrow, hcs⟩ := rb.at (j := j) (by simpa [u64s] using hlt)
      have g1 := hcs j (.int .u64 b[j]) (by simp [u64s, hlt])
      have g2 : h2.get i' = some (.row ro esz cs) := by rw [hold i' (IHeap.get_lt hrow)]; exact hrow
      have hz := IHeap.get_lt hy
      simp (maxSteps := 1000000) (disch := first | (simp; done) | (simp only [IHeap.size_push', IHeap.size_set']; omega) | omega) [e0, e1, e2, e3, e9, e10, e39, e40, e41, hn, hd, hlt2, hlt, g1, g2]
      refine FN.of (add_c (hb _ (List.getElem_mem hlt)) ((HG.of_is (b.take j) (fun n hn => hb n (List.mem_of_mem_take hn))).ok (by simp; omega)) hy) ?_
      simp (maxSteps := 1000000) (disch := first | (simp; done) | (simp only [IHeap.size_push', IHeap.size_set']; omega) | omega) [e0, e1, e2, e3, e9, e10, e39, e40, e41, hn, hd]
      refine ⟨k, by omega, j + 1, by omega, by omega, ?_, ?_, fun i hi => ?_⟩
      · exact hx
      · rw [List.take_succ_eq_append_getElem hlt, HG.of_snoc]
      · rw [IHeap.get_set_ne _ (by omega)]
        exact hold i hi
    | zero =>
      obtain rfl : j = b.length := by omega
      rw [List.take_length] at hy
      simp (maxSteps := 1000000) (disch := first | (simp; done) | (simp only [IHeap.size_push', IHeap.size_set']; omega) | omega) [e0, e1, e2, e3, e9, e10, e39, e40, e41, hn, hd]
      clear e39 e40 e41
      have isx := HG.of_is a ha
      have isy := HG.of_is b hb
      have sx := HG.of_sum a
      have sy := HG.of_sum b
      generalize HG.of a = x at hx isx sx
      generalize HG.of b = y at hy isy sy
      have xz := IHeap.get_lt hx
      have yz := IHeap.get_lt hy
      refine FN.mono (same_c isx sx (ra.old (fun k hk => hold k (by omega))) (by omega) ha hx) ?_
      rintro _ h3 ⟨rfl, n3, o3⟩
      simp (maxSteps := 1000000) (disch := first | (simp; done) | (simp only [IHeap.size_push', IHeap.size_set']; omega) | omega) [e0, e1, e2, e3, e9, e10, hn, hd]
      have old3 : ∀ k, k < h2.size → h3.get k = h2.get k := o3
      refine FN.mono (same_c isy sy (rb.old (fun k hk => by rw [o3 k (by omega)]; exact hold k (by omega))) (by omega) hb (by rw [o3 _ yz]; exact hy)) ?_
      rintro _ h4 ⟨rfl, n4, o4⟩
      simp (maxSteps := 1000000) (disch := first | (simp; done) | (simp only [IHeap.size_push', IHeap.size_set']; omega) | omega) [e0, e1, e2, e3, e9, e10, hn, hd, undef]
      have old4 : ∀ k, k < h2.size → h4.get k = h2.get k := fun k hk => by rw [o4 k (by omega), o3 k hk]
      have isz := isx.mrg isy
      have hx4 : h4.get h.size = some x.obj := by rw [old4 _ xz]; exact hx
      have hy4 : h4.get (h.size + 1) = some y.obj := by rw [old4 _ yz]; exact hy
      have sz : (x.mrg y).sum = wsum (a ++ b) := by exact HG.mrg_sum isx isy sx sy
      refine FN.mono (merge_c (isx.ok (by omega)) (isy.ok (by omega)) hx4 hy4 (.inl (by omega))) ?_
      rintro _ h5 ⟨rfl, fr5⟩
      have hx5 : h5.get h.size = some (x.mrg y).obj := by rw [fr5.get _ (by omega), getU_same _ rfl]
      have old5 : ∀ k, k < h2.size → k ≠ h.size → h5.get k = h2.get k := fun k hk hne => by rw [fr5.get k (by omega), getU_ne _ hne, getU_nil, old4 k hk]
      have n5 := fr5.size
      have hy5 : h5.get (h.size + 1) = some y.obj := by rw [old5 _ yz (by omega)]; exact hy
      have low5 : ∀ k, k < h.size → h5.get k = h.get k := fun k hk => by rw [old5 k (by omega) (by omega)]; exact hold k hk
      clear fr5 hx4 hy4 old4 old3 o4 o3 isx sx old5
      generalize x.mrg y = z at hx5 isz sz
      obtain ⟨h6, j6, ap1, r6, k6, z6, f6⟩ := app22 (h := h5.push (.row false 1 [])) (i := h5.size) (n := 0) (m := a.length) (cs := []) (news := a) (x := .slice A a.length ca) (src_arg sa (by rw [IHeap.get_push_ne _ (by omega), low5 _ z0]; exact r0)) rfl (IHeap.get_pushed _ rfl) rfl (by omega)
      simp only [IHeap.size_push', Nat.zero_add, List.nil_append] at ap1 r6 k6 z6 f6
      have low6 : ∀ k, k < h5.size → h6.get k = h5.get k := fun k hk => by rw [k6 k (by omega) (by omega), IHeap.get_push_ne _ (by omega)]
      obtain ⟨h7, j7, ap2, r7, k7, z7, f7⟩ := app22 (h := h6) (i := j6) (n := a.length) (m := b.length) (cs := a) (news := b) (x := .slice B b.length cb) (src_arg sb (by rw [low6 _ (by omega), low5 _ z1]; exact r1)) rfl r6 rfl (by omega)
      have low7 : ∀ k, k < h5.size → h7.get k = h5.get k := fun k hk => by rw [k7 k (by omega) (by omega), low6 k hk]
      simp (maxSteps := 1000000) (disch := first | (simp; done) | (simp only [IHeap.size_push', IHeap.size_set']; omega) | omega) [e0, e1, e2, e3, e9, e10, hn, hd, undef, zeros, ap1, ap2]
      obtain ⟨c, hc⟩ : ∃ c, c = a ++ b := ⟨_, rfl⟩
      have hcl : a.length + b.length = c.length := by rw [hc]; simp
      have hcb : ∀ n ∈ c, n < 2 ^ 64 := fun n hn => by
        rw [hc] at hn
        rcases List.mem_append.1 hn with hn | hn
        · exact ha n hn
        · exact hb n hn
      rw [← hc] at isz sz r7
      rw [hcl]
      rw [hcl] at ap2
      have hcl2 : c.length ≤ 200 := by omega
      have j7z := IHeap.get_lt r7
      have hx7 : h7.get h.size = some z.obj := by rw [low7 _ (by omega)]; exact hx5
      have hy7 : h7.get (h.size + 1) = some y.obj := by rw [low7 _ (by omega)]; exact hy5
      have rb7 : RowsAt h7 B (u64s b) := rb.old (fun k hk => by rw [low7 k (by omega), low5 k hk])
      refine FN.mono (same_c isz sz (rows_own r7) (by omega) hcb hx7) ?_
      rintro _ h8 ⟨rfl, n8, o8⟩
      have hx8 : h8.get h.size = some z.obj := by rw [o8 _ (by omega)]; exact hx7
      have hy8 : h8.get (h.size + 1) = some y.obj := by rw [o8 _ (by omega)]; exact hy7
      have rb8 : RowsAt h8 B (u64s b) := rb7.old o8
      have r8 : h8.get j7 = some (.row false 1 (u64s c)) := by rw [o8 _ j7z]; exact r7
      simp (maxSteps := 1000000) (disch := first | (simp; done) | (simp only [IHeap.size_push', IHeap.size_set']; omega) | omega) [e0, e1, e2, e3, e9, e10, hn, hd, undef]
      refine FN.mono (same_c isy sy rb8 (by omega) hb hy8) ?_
      rintro _ h9 ⟨rfl, n9, o9⟩
      have hx9 : h9.get h.size = some z.obj := by rw [o9 _ (by omega)]; exact hx8
      have r9 : h9.get j7 = some (.row false 1 (u64s c)) := by rw [o9 _ (by omega)]; exact r8
      have isw := isz.mrg isz
      have sw := HG.mrg_sum isz isz sz sz
      simp (maxSteps := 1000000) (disch := first | (simp; done) | (simp only [IHeap.size_push', IHeap.size_set']; omega) | omega) [e0, e1, e2, e3, e9, e10, hn, hd, undef]
      refine FN.mono (merge_c (isz.ok (by omega)) (isz.ok (by omega)) hx9 hx9 (.inr ⟨rfl, rfl⟩)) ?_
      rintro _ h10 ⟨rfl, fr10⟩
      have hx10 : h10.get h.size = some (z.mrg z).obj := by rw [fr10.get _ (by omega), getU_same _ rfl]
      have n10 := fr10.size
      have hj7 : j7 ≠ h.size := by
        intro e
        rw [e, hx9] at r9
        exact absurd (congrArg (fun o => match o with | some (IObj.row _ s _) => s | _ => 0) r9) (by simp [HG.obj])
      have r10 : h10.get j7 = some (.row false 1 (u64s c)) := by rw [fr10.get _ (by omega), getU_ne _ hj7, getU_nil]; exact r9
      have j10 := IHeap.get_lt r10
      generalize z.mrg z = w at hx10 isw sw
      simp (maxSteps := 1000000) (disch := first | (simp; done) | (simp only [IHeap.size_push', IHeap.size_set']; omega) | omega) [e0, e1, e2, e3, e9, e10, hn, hd, undef]
      refine FN.of merge_nil ?_
      obtain ⟨h11, j11, ap3, r11, k11, z11, f11⟩ := app22 (h := h10.push (.row false 1 [])) (i := h10.size) (n := 0) (m := c.length) (cs := []) (news := c) (x := .slice (some ⟨j7, 0, none⟩) c.length c.length) (by
        have := src22 (c := c.length) (q := 0) (m := c.length) (h := h10.push (.row false 1 [])) (b := j7) (s := c) (by rw [IHeap.get_push_ne _ (by omega)]; exact r10) (by omega)
        simpa using this) rfl (IHeap.get_pushed _ rfl) rfl (by omega)
      simp only [IHeap.size_push', Nat.zero_add, List.nil_append] at ap3 r11 k11 z11 f11
      have low11 : ∀ k, k < h10.size → h11.get k = h10.get k := fun k hk => by rw [k11 k (by omega) (by omega), IHeap.get_push_ne _ (by omega)]
      obtain ⟨h12, j12, ap4, r12, k12, z12, f12⟩ := app22 (h := h11) (i := j11) (n := c.length) (m := c.length) (cs := c) (news := c) (x := .slice (some ⟨j7, 0, none⟩) c.length c.length) (by
        have := src22 (c := c.length) (q := 0) (m := c.length) (h := h11) (b := j7) (s := c) (by rw [low11 _ j10]; exact r10) (by omega)
        simpa using this) rfl r11 rfl (by omega)
      have hx12 : h12.get h.size = some w.obj := by rw [k12 _ (by omega) (by omega), low11 _ (by omega)]; exact hx10
      obtain ⟨d, hdd⟩ : ∃ d, d = c ++ c := ⟨_, rfl⟩
      have e12 : c.length + c.length = d.length := by rw [hdd]; simp
      have hdb : ∀ n ∈ d, n < 2 ^ 64 := fun n hn => hcb n (by rw [hdd] at hn; simpa using hn)
      rw [e12] at ap4
      rw [← hdd] at isw sw r12
      simp (maxSteps := 1000000) (disch := first | (simp; done) | (simp only [IHeap.size_push', IHeap.size_set']; omega) | omega) [e0, e1, e2, e3, e9, e10, hn, hd, undef, zeros, ap3, ap4]
      refine FN.mono (same_c isw sw (rows_own r12) (by omega) hdb hx12) ?_
      rintro _ h13 ⟨rfl, n13, o13⟩
      simp (maxSteps := 1000000) (disch := first | (simp; done) | (simp only [IHeap.size_push', IHeap.size_set']; omega) | omega) [e0, e1, e2, e3, e9, e10, hn, hd, undef]
      refine FN.of known_c ?_
      simp (maxSteps := 1000000) (disch := first | (simp; done) | (simp only [IHeap.size_push', IHeap.size_set']; omega) | omega) [hn, hd]
end Go.Proofs.Ytnmbpehficchkaa.Ideal
