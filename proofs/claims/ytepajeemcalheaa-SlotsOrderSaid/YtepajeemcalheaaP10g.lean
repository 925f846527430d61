import Derived.Test.YtepajeemcalheaaP10f
noncomputable section
open Go.Proofs
namespace Go.Proofs.Ytepajeemcalheaa.Ideal
open Go.RowKit
set_option linter.unusedSimpArgs false
set_option linter.unusedVariables false
set_option linter.unusedSectionVars false
set_option maxRecDepth 100000
set_option maxHeartbeats 4000000
attribute [-simp] IHeap.size_set IHeap.size_push
attribute [local simp ↓] Hid.ap_mk
attribute [local simp] scopeQ_normal scopeQ_ret scopeQ_exit WP_skip WP_label WP_exit WP_goto WP_ret WP_region WP_seq WP_cond WP_block WP_scope WP_loop WP_range thenQ_normal thenQ_ret thenQ_exit thenQ_goto loopQ_normal loopQ_ret loopQ_exit invQ_normal invQ_ret invQ_exit outOf_normal outOf_ret outOf_goto outOf_exit ev_tmp ev_const ev_func
  wops_nil wops_cons wantedE_none wantedE_some jgd_some wnx_eq niC_false wdo_move wdo_assign wdo_pick wdo_load wdo_store wdo_alloc wdo_box wdo_fieldAddr wdo_indexAddr wdo_field wdo_extract wdo_build wdo_buildSlice wdo_makeSlice wdo_binOp wdo_unOp wdo_makeFunc wdo_nilCheck wdo_callV wdo_len wdo_append wdo_copy wdo_delete wdo_max wdo_min wdo_convert jcvt_int
  xput_get put_n put_none put_dfr ibin finQ_n finQ_r finD_nil splice_one ires_nil ires_one ires_two ires_three ires1_tmp ires1_cell jcell_ptr rowLoad_row wrap64 wrapU64 wrapU8 wrapU16 wrapU32 callV_fn buildOf Instr.fill Value.cells Value.oneCell' kindOf slots_all splice_all IHeap.size_set' IHeap.size_push' IHeap.get_set_same IHeap.get_set_ne IHeap.get_pushed IHeap.get_push_ne IHeap.set_set IHeap.set_push IHeap.set_pushed IHeap.set_set3 getU_nil getU_same getU_ne jif_true jif_false pushH_eq setH_eq forceL_eq forceV_eq ibuildSlice
attribute [local simp] wdo_index jopt_some wdo_lookup wdo_mapUpdate wdo_makeMap fb_known
attribute [-simp] Value.oneCell'
theorem one_slcN (w : List Nat) (r : Nat) : (slcN w r).oneCell' = true := by
  unfold slcN
  split <;> rfl
attribute [local simp] one_int' one_bool' one_ptr' one_slc' one_slcN
/-- What lies in memory while cells are pushed. -/
structure OrM (h0 : IHeap) (s k q : Nat) (w : List Nat) (r mm : Nat) (K : List Nat) (M : List (Int × Bool)) (h : IHeap) : Prop where
  size : h0.size + 2 ≤ h.size
  old : ∀ i, i < h0.size → h.get i = h0.get i
  sx : Sx h s k q 64 2 (L1 w)
  want : w ≠ [] → h.get r = some (.row false 1 (ints w))
  mp : ∃ es ck, h.get mm = some (.map es ck) ∧ MapIs (fun n => .int .i64 n) .bool M es
  keys : M.map (·.1) = K.map (fun (c : Nat) => (c : Int))
  vals : ∀ g ∈ M, g.2 = true
  ls : h0.size + 2 ≤ s ∧ h0.size + 2 ≤ k ∧ h0.size + 2 ≤ q ∧ h0.size + 2 ≤ mm ∧ (w ≠ [] → h0.size + 2 ≤ r)
  low : ∃ x, h.get h0.size = some (.row false 0 [.int .i64 x])
  res : h.get (h0.size + 1) = some (.row false 0 [.bool false])
  rq : w ≠ [] → r ≠ q ∧ r ≠ mm
  km : k ≠ mm ∧ q ≠ mm ∧ s ≠ mm ∧ s ≠ k ∧ s ≠ q ∧ (w ≠ [] → r ≠ s ∧ r ≠ k)
theorem OrM.setmap {h0 h : IHeap} {s k q r mm : Nat} {w K K' : List Nat} {M M' : List (Int × Bool)} {es' : List MapEntry} {ck' : Nat} (om : OrM h0 s k q w r mm K M h) (hM : MapIs (fun n => Value.int .i64 n) .bool M' es') (hk : M'.map (·.1) = K'.map (fun (c : Nat) => (c : Int))) (hv : ∀ g ∈ M', g.2 = true) : OrM h0 s k q w r mm K' M' (h.set mm (.map es' ck')) := by
  obtain ⟨es, ck, gm, _⟩ := om.mp
  have mz := IHeap.get_lt gm
  obtain ⟨b, f, t, x⟩ := om.sx
  obtain ⟨l1, l2, l3, l4, l5⟩ := om.ls
  obtain ⟨k1, k2, k3, k4, k5, k6⟩ := om.km
  refine ⟨by rw [IHeap.size_set]; exact om.size, fun i hi => by rw [IHeap.get_set_ne _ (by omega)]; exact om.old i hi, ⟨b, f, t, ?_, ?_, ?_, x.rep, x.n1, x.m1, x.nz, x.mz⟩, fun h => ?_, ⟨es', ck', IHeap.get_set_same _ mz, hM⟩, hk, hv, om.ls, ?_, ?_, om.rq, om.km⟩
  · rw [IHeap.get_set_ne _ (Ne.symm k3)]; exact x.gs
  · rw [IHeap.get_set_ne _ (Ne.symm k1)]; exact x.gk
  · rw [IHeap.get_set_ne _ (Ne.symm k2)]; exact x.gq
  · rw [IHeap.get_set_ne _ (Ne.symm (om.rq h).2)]; exact om.want h
  · rw [IHeap.get_set_ne _ (by omega)]; exact om.low
  · rw [IHeap.get_set_ne _ (by omega)]; exact om.res
/-- What lies in memory behind the pushes: the left ones in a row of their own, which B tells of. -/
structure LfM (h0 : IHeap) (B s k q : Nat) (w : List Nat) (r : Nat) (l : List Nat) (z : Nat) (L : List Nat) (h : IHeap) : Prop where
  size : B < h.size
  sx : Sx h s k q 64 2 (L1 L)
  want : w ≠ [] → h.get r = some (.row false 1 (ints w))
  box : h.get B = some (.row false 0 [.slice (adrN l z) l.length l.length])
  left : l ≠ [] → h.get z = some (.row false 1 (ints l))
  low : ∃ x, h.get h0.size = some (.row false 0 [.int .i64 x])
  res : h.get (h0.size + 1) = some (.row false 0 [.bool false])
  ls : h0.size + 1 < s ∧ h0.size + 1 < k ∧ h0.size + 1 < q ∧ s < B ∧ k < B ∧ q < B ∧ (w ≠ [] → h0.size + 1 < r ∧ r < B ∧ r ≠ s ∧ r ≠ k ∧ r ≠ q) ∧ (l ≠ [] → B < z)
/-- Where the list is gone over. -/
structure OvJ (h2 : IHeap) (s : Nat) (L : Loop) (i : Nat) (h : IHeap) : Prop where
  size : h2.size + 7 ≤ h.size
  old : ∀ a, a < h2.size → h.get a = h2.get a
  g2 : h.get (h2.size + 2) = some (.row false 0 [.int .i64 i])
  g3 : h.get (h2.size + 3) = some (.row false 0 [.pointer (some ⟨s, 0, none⟩)])
  g4 : h.get (h2.size + 4) = some (.row false 0 [.int .i64 1])
  gd : h.get (h2.size + 5) = some .defs
  gl : h.get (h2.size + 6) = some (.loop L)
theorem order_c {h : IHeap} {A : Option Addr} {bs : List Nat} {cap : Nat} {rem lv : Int} (hb : RowsAt h A (bs.map fun n => .int .u8 (n : Nat))) (hbs : ∀ n ∈ bs, n < 256) :
    FN Try.prog 3 #[.slice A bs.length cap, .int .u64 rem, .int .i64 lv] h (Q := ⟨fun v _ => v = .bool true⟩) := by
  refine FN.enter mixed (fn := Try.f3) (by kernel_rfl) rfl (by kernel_rfl) fun e hn hg hd => ?_
  simp [Try.f3] at hn
  have a0 : e.get 0 = .slice A bs.length cap := hg 0 (by omega)
  have a1 : e.get 1 = .int .u64 rem := hg 1 (by omega)
  have a2 : e.get 2 = .int .i64 lv := hg 2 (by omega)
  clear hg
  simp (maxSteps := 1000000) (disch := first | (simp; done) | (simp only [IHeap.size_push', IHeap.size_set']; omega) | omega) [a0, a1, a2, hn, hd]
  refine FN.mono (new_c (m := 2) (n := 64) (by omega) (by omega) (by omega) (by omega)) ?_
  rintro _ h1 ⟨s, k, q, rfl, x1, ls, lk, lq, z1, o1⟩
  simp only [IHeap.size_push'] at ls lk lq z1 o1
  have m5 : h1.get h.size = some (.row false 0 [.int .i64 lv]) := by rw [o1 _ (by omega)]; simp (maxSteps := 1000000) (disch := first | (simp; done) | (simp only [IHeap.size_push', IHeap.size_set']; omega) | omega) []
  have m6 : h1.get (h.size + 1) = some (.row false 0 [.bool false]) := by rw [o1 _ (by omega)]; simp (maxSteps := 1000000) (disch := first | (simp; done) | (simp only [IHeap.size_push', IHeap.size_set']; omega) | omega) []
  have old1 : ∀ i, i < h.size → h1.get i = h.get i := fun i hi => by rw [o1 i (by omega)]; simp (maxSteps := 1000000) (disch := first | (simp; done) | (simp only [IHeap.size_push', IHeap.size_set']; omega) | omega) []
  by_cases c1 : (60 : Int) < bs.length
  · simp (maxSteps := 1000000) (disch := first | (simp; done) | (simp only [IHeap.size_push', IHeap.size_set']; omega) | omega) [a0, a1, a2, hn, hd, undef, c1]
    refine FN.of known_c ?_
    simp (maxSteps := 1000000) (disch := first | (simp; done) | (simp only [IHeap.size_push', IHeap.size_set']; omega) | omega) [a0, a1, a2, hn, hd, m6]
  have c1' : bs.length ≤ 60 := by omega
  simp (maxSteps := 1000000) (disch := first | (simp; done) | (simp only [IHeap.size_push', IHeap.size_set']; omega) | omega) [a0, a1, a2, hn, hd, undef, c1]
  refine WPL.by_inv mixed (by kernel_rfl) (fun y e h' => ∃ (j : Nat) (w : List Nat) (r : Nat) (M : List (Int × Bool)), j + y = bs.length ∧ e.n = 162 ∧ e.dfr = [] ∧ e.get 0 = .slice A bs.length cap ∧ e.get 1 = .int .u64 rem ∧ e.get 5 = .pointer (some ⟨h.size, 0, none⟩) ∧ e.get 6 = .pointer (some ⟨h.size + 1, 0, none⟩) ∧ e.get 7 = .pointer (some ⟨s, 0, none⟩) ∧ e.get 10 = .map (some h1.size) ∧ e.get 41 = .slice A bs.length cap ∧ e.get 42 = .int .i64 bs.length ∧ e.get 43 = .int .i64 j ∧ w.length ≤ j ∧ e.get 9 = slcN w r ∧ OrM h s k q w r h1.size w M h') bs.length ?_ ?_
  · refine ⟨0, [], 0, [], ?_⟩
    simp (maxSteps := 1000000) (disch := first | (simp; done) | (simp only [IHeap.size_push', IHeap.size_set']; omega) | omega) [a0, a1, a2, hn, hd]
    obtain ⟨b, f, t, x2⟩ := x1
    have sz := IHeap.get_lt x2.gs
    have kz := IHeap.get_lt x2.gk
    have qz := IHeap.get_lt x2.gq
    refine ⟨rfl, ⟨by simp only [IHeap.size_push']; omega, fun i hi => by rw [IHeap.get_push_ne _ (by omega)]; exact old1 i hi, ⟨b, f, t, ?_⟩, fun h => absurd rfl h, ⟨[], 0, IHeap.get_pushed _ rfl, rfl⟩, rfl, by simp, ⟨by omega, by omega, by omega, by omega, fun h => absurd rfl h⟩, ⟨lv, ?_⟩, ?_, fun h => absurd rfl h, by omega, by omega, by omega, x2.sk, x2.sq, fun h => absurd rfl h⟩⟩
    · rw [L1_nil]
      exact x2.to fun i hi => IHeap.get_push_ne _ (by omega)
    · rw [IHeap.get_push_ne _ (by omega)]; exact m5
    · rw [IHeap.get_push_ne _ (by omega)]; exact m6
  clear hn hd a0 a1 a2 e
  rintro y e h2 ⟨j, w, r, M, hj, hn, hd, e0, e1, e5, e6, e7, e10, e41, e42, e43, hwl, e9, om⟩
  cases y with
  | succ y =>
    have hlt : j < bs.length := by omega
    have hlt2 : (j : Int) < bs.length := by omega
    obtain ⟨i', o, ro, esz, cs, rfl, hrow, hcs⟩ := hb.at (j := j) (by simpa using hlt)
    have g1 := hcs j (.int .u8 bs[j]) (by simp [hlt])
    have hiz := IHeap.get_lt hrow
    have g2 : h2.get i' = some (.row ro esz cs) := by rw [om.old i' hiz]; exact hrow
    have hbj := hbs _ (List.getElem_mem hlt)
    obtain ⟨c, hc⟩ : ∃ c, bs[j] % 64 = c := ⟨_, rfl⟩
    have hc64 : c < 64 := by omega
    have tm : ((bs[j] : Nat) : Int).tmod 64 = c := by rw [Int.tmod_eq_emod_of_nonneg (by omega)]; omega
    obtain ⟨b, f, t, x2⟩ := om.sx
    simp (maxSteps := 1000000) (disch := first | (simp; done) | (simp only [IHeap.size_push', IHeap.size_set']; omega) | omega) [e0, e1, e5, e6, e7, e9, e10, e41, e42, e43, hn, hd, hlt2, hlt, g1, g2, wrap64, tm]
    have hcL : ((L1 w) 1).length < 100000 := by rw [L1_one]; omega
    obtain ⟨es, ck, gm, hM⟩ := om.mp
    have lk0 := om.keys
    have cm : ((c : Int) ∈ M.map (·.1)) ↔ c ∈ w := by
      rw [lk0, List.mem_map]
      constructor
      · rintro ⟨a, ha, e⟩
        obtain rfl : a = c := by omega
        exact ha
      · exact fun h => ⟨c, h, rfl⟩
    have alg := alGet_true om.vals (c : Int)
    by_cases hcw : c ∈ w
    · have ht : ¬ t c < 0 := fun h => (free_iff x2.rep hc64).1 h hcw
      rw [if_pos (cm.2 hcw)] at alg
      refine FN.of (push_twice x2 1 c (by omega) hc64 ht) ?_
      have lk := lookup_al ki mp30 zv4 gm hM (c : Int)
      rw [alg] at lk
      simp only [Option.elim] at lk
      obtain ⟨es', ck', gu, hM'⟩ := update_al ki mp30 gm hM (c : Int) true
      simp (maxSteps := 1000000) (disch := first | (simp; done) | (simp only [IHeap.size_push', IHeap.size_set']; omega) | omega) [e0, e1, e5, e6, e7, e9, e10, e41, e42, e43, hn, hd, lk, gu, undef]
      refine ⟨y, by omega, j + 1, by omega, by omega, w, by omega, r, rfl, alPut (c : Int) true M, om.setmap hM' ?_ (alPut_all (p := fun g => g.2 = true) rfl om.vals)⟩
      rw [alPut_keys_old (cm.2 hcw), lk0]
    · have ht : t c < 0 := (free_iff x2.rep hc64).2 hcw
      rw [if_neg (fun h => hcw (cm.1 h))] at alg
      refine FN.mono (push_ok x2 1 c (by omega) hc64 ht hcL) ?_
      rintro _ h3 ⟨rfl, x3, z3, o3⟩
      rw [L1_one, L1_put] at x3
      obtain ⟨l1, l2, l3, l4, l5⟩ := om.ls
      obtain ⟨k1, k2, k3, k4, k5, k6⟩ := om.km
      have mz := IHeap.get_lt gm
      have kz := IHeap.get_lt x2.gk
      have qz := IHeap.get_lt x2.gq
      have sz := IHeap.get_lt x2.gs
      have gm3 : h3.get h1.size = some (.map es ck) := by rw [o3 _ (Ne.symm k1) (Ne.symm k2)]; exact gm
      have lk := lookup_al ki mp30 zv4 gm3 hM (c : Int)
      rw [alg] at lk
      simp only [Option.elim] at lk
      have want3 : w ≠ [] → (h3.push (.row false 1 [.int .i64 c])).get r = some (.row false 1 (ints w)) := fun hne => by
        have := IHeap.get_lt (om.want hne)
        rw [IHeap.get_push_ne _ (by omega), o3 _ (k6 hne).2 (om.rq hne).1]; exact om.want hne
      obtain ⟨h4, ap, z4, g4, o4⟩ := app29 (h := h3.push (.row false 1 [.int .i64 c])) (j := h3.size) (r := r) (l := w) (x := c) want3 (IHeap.get_pushed _ rfl) (by omega)
      simp only [IHeap.size_push'] at z4 g4 o4 ap
      have keep : ∀ i, i < h2.size → i ≠ k → i ≠ q → (w ≠ [] → i ≠ r) → h4.get i = h2.get i := fun i hi h1 h2 h3' => by
        rw [o4 i (by omega) h3', IHeap.get_push_ne _ (by omega), o3 i h1 h2]
      have keep2 : ∀ i, i < h2.size → (w ≠ [] → i ≠ r) → h4.get i = h3.get i := fun i hi h3' => by
        rw [o4 i (by omega) h3', IHeap.get_push_ne _ (by omega)]
      have gm4 : h4.get h1.size = some (.map es ck) := by rw [keep _ mz (Ne.symm k1) (Ne.symm k2) (fun h => Ne.symm (om.rq h).2)]; exact gm
      obtain ⟨es', ck', gu, hM'⟩ := update_al ki mp30 gm4 hM (c : Int) true
      have om4 : OrM h s k q (w ++ [c]) (h3.size + 1) h1.size w M h4 := by
        obtain ⟨b3, f3, t3, y3⟩ := x3
        have := om.size
        refine ⟨by omega, fun i hi => by rw [keep i (by omega) (by omega) (by omega) (fun h => by have := l5 h; omega)]; exact om.old i hi, ⟨b3, f3, t3, ?_, ?_, ?_, y3.rep, y3.n1, y3.m1, y3.nz, y3.mz⟩, fun _ => g4, ⟨es, ck, gm4, hM⟩, lk0, om.vals, ⟨l1, l2, l3, l4, fun _ => by omega⟩, ?_, ?_, fun _ => ⟨by omega, by omega⟩, k1, k2, k3, k4, k5, fun _ => ⟨by omega, by omega⟩⟩
        · rw [keep2 s sz (fun h => Ne.symm (k6 h).1)]; exact y3.gs
        · rw [keep2 k kz (fun h => Ne.symm (k6 h).2)]; exact y3.gk
        · rw [keep2 q qz (fun h => Ne.symm (om.rq h).1)]; exact y3.gq
        · rw [keep _ (by omega) (by omega) (by omega) (fun h => by have := l5 h; omega)]; exact om.low
        · rw [keep _ (by omega) (by omega) (by omega) (fun h => by have := l5 h; omega)]; exact om.res
      simp (maxSteps := 1000000) (disch := first | (simp; done) | (simp only [IHeap.size_push', IHeap.size_set']; omega) | omega) [zeros, e0, e1, e5, e6, e7, e9, e10, e41, e42, e43, hn, hd, lk, gu, ap, undef]
      refine ⟨y, by omega, j + 1, by omega, by omega, w ++ [c], by simp; omega, h3.size + 1, rfl, alPut (c : Int) true M, om4.setmap hM' ?_ (alPut_all (p := fun g => g.2 = true) rfl om.vals)⟩
      rw [alPut_new (fun h => hcw (cm.1 h))]
      simp [lk0]
  | zero =>
    obtain rfl : j = bs.length := by omega
    rw [slcN_eq] at e9
    simp (maxSteps := 1000000) (disch := first | (simp; done) | (simp only [IHeap.size_push', IHeap.size_set']; omega) | omega) [e0, e1, e5, e6, e7, e9, e10, e41, e42, e43, hn, hd]
    clear e41 e42 e43
    obtain ⟨l1, l2, l3, l4, l5⟩ := om.ls
    obtain ⟨k1, k2, k3, k4, k5, k6⟩ := om.km
    obtain ⟨B, hB⟩ : ∃ B, h2.size = B := ⟨_, rfl⟩
    have lf0 : LfM h B s k q w r [] 0 w (h2.push (.row false 0 [.slice none 0 0])) := by
      obtain ⟨b, f, t, x⟩ := om.sx
      have sz := IHeap.get_lt x.gs
      have kz := IHeap.get_lt x.gk
      have qz := IHeap.get_lt x.gq
      have := om.size
      refine ⟨by rw [IHeap.size_push']; omega, ⟨b, f, t, x.to fun i hi => IHeap.get_push_ne _ (by omega)⟩, fun hne => ?_, IHeap.get_pushed _ hB.symm, fun h => absurd rfl h, ?_, ?_, ⟨by omega, by omega, by omega, by omega, by omega, by omega, fun hne => ?_, fun h => absurd rfl h⟩⟩
      · have := om.want hne
        have := IHeap.get_lt this
        rw [IHeap.get_push_ne _ (by omega)]; exact om.want hne
      · rw [IHeap.get_push_ne _ (by omega)]; exact om.low
      · rw [IHeap.get_push_ne _ (by omega)]; exact om.res
      · have := IHeap.get_lt (om.want hne)
        exact ⟨by have := l5 hne; omega, by omega, (k6 hne).1, (k6 hne).2, (om.rq hne).1⟩
    rw [hB]
    generalize h2.push (.row false 0 [.slice none 0 0]) = h5 at lf0
    clear om k1 k2 k3 k4 k5 k6 l1 l2 l3 l4 l5 hB h2 M m5 m6 old1 o1 ls lk lq z1 x1
    refine WPL.by_inv mixed (by kernel_rfl) (fun y e h' => ∃ (i : Nat) (l : List Nat) (z : Nat), i + y = w.length ∧ e.n = 162 ∧ e.dfr = [] ∧ e.get 1 = .int .u64 rem ∧ e.get 5 = .pointer (some ⟨h.size, 0, none⟩) ∧ e.get 6 = .pointer (some ⟨h.size + 1, 0, none⟩) ∧ e.get 7 = .pointer (some ⟨s, 0, none⟩) ∧ e.get 15 = .pointer (some ⟨B, 0, none⟩) ∧ e.get 79 = .slice (adrN w r) w.length w.length ∧ e.get 80 = .int .i64 w.length ∧ e.get 81 = .int .i64 i ∧ l.length ≤ i ∧ LfM h B s k q w r l z (l ++ w.drop i) h') w.length ?_ ?_
    · refine ⟨0, [], 0, ?_⟩
      simp (maxSteps := 1000000) (disch := first | (simp; done) | (simp only [IHeap.size_push', IHeap.size_set']; omega) | omega) [e0, e1, e5, e6, e7, e9, e10, hn, hd]
      exact lf0
    clear hn hd e0 e1 e5 e6 e7 e9 e10 e lf0
    rintro y e h2 ⟨i, l, z, hi, hn, hd, e1, e5, e6, e7, e15, e79, e80, e81, hll, lm⟩
    cases y with
    | zero =>
      obtain rfl : i = w.length := by omega
      rw [List.drop_length, List.append_nil] at lm
      simp (maxSteps := 1000000) (disch := first | (simp; done) | (simp only [IHeap.size_push', IHeap.size_set']; omega) | omega) [e1, e5, e6, e7, e15, e79, e80, e81, hn, hd]
      refine FN.of (of_c s 1) ?_
      simp (maxSteps := 1000000) (disch := first | (simp; done) | (simp only [IHeap.size_push', IHeap.size_set']; omega) | omega) [e1, e5, e6, e7, e15, e79, e80, e81, hn, hd]
      refine FN.of (of_c s 1) ?_
      simp (maxSteps := 1000000) (disch := first | (simp; done) | (simp only [IHeap.size_push', IHeap.size_set']; omega) | omega) [e1, e5, e6, e7, e15, e79, e80, e81, hn, hd]
      refine WPR.gen fun E H hE hH => ?_
      have E5 : E.get 5 = .pointer (some ⟨h.size, 0, none⟩) := by rw [hE]; simp (maxSteps := 1000000) (disch := first | (simp; done) | (simp only [IHeap.size_push', IHeap.size_set']; omega) | omega) [hn, e5]
      have E6 : E.get 6 = .pointer (some ⟨h.size + 1, 0, none⟩) := by rw [hE]; simp (maxSteps := 1000000) (disch := first | (simp; done) | (simp only [IHeap.size_push', IHeap.size_set']; omega) | omega) [hn, e6]
      have E7 : E.get 7 = .pointer (some ⟨s, 0, none⟩) := by rw [hE]; simp (maxSteps := 1000000) (disch := first | (simp; done) | (simp only [IHeap.size_push', IHeap.size_set']; omega) | omega) [hn, e7]
      have E15 : E.get 15 = .pointer (some ⟨B, 0, none⟩) := by rw [hE]; simp (maxSteps := 1000000) (disch := first | (simp; done) | (simp only [IHeap.size_push', IHeap.size_set']; omega) | omega) [hn, e15]
      have E18 : E.get 18 = .pointer (some ⟨h2.size + 2, 0, none⟩) := by rw [hE]; simp (maxSteps := 1000000) (disch := first | (simp; done) | (simp only [IHeap.size_push', IHeap.size_set']; omega) | omega) [hn]
      have E104 : E.get 104 = .func (.func 27) #[] #[.pointer (some ⟨h2.size + 3, 0, none⟩), .pointer (some ⟨h2.size + 4, 0, none⟩)] := by rw [hE]; simp (maxSteps := 1000000) (disch := first | (simp; done) | (simp only [IHeap.size_push', IHeap.size_set']; omega) | omega) [hn]
      have En : E.n = 162 := by rw [hE]; simp (maxSteps := 1000000) (disch := first | (simp; done) | (simp only [IHeap.size_push', IHeap.size_set']; omega) | omega) [hn]
      have Ed : E.dfr = [] := by rw [hE]; simp (maxSteps := 1000000) (disch := first | (simp; done) | (simp only [IHeap.size_push', IHeap.size_set']; omega) | omega) [hd]
      have Hz : H.size = h2.size + 5 := by rw [hH]; simp (maxSteps := 1000000) (disch := first | (simp; done) | (simp only [IHeap.size_push', IHeap.size_set']; omega) | omega) []
      have Ho : ∀ i, i < h2.size → H.get i = h2.get i := fun i hi => by rw [hH]; simp (maxSteps := 1000000) (disch := first | (simp; done) | (simp only [IHeap.size_push', IHeap.size_set']; omega) | omega) []
      have H2 : H.get (h2.size + 2) = some (.row false 0 [.int .i64 0]) := by rw [hH]; simp (maxSteps := 1000000) (disch := first | (simp; done) | (simp only [IHeap.size_push', IHeap.size_set']; omega) | omega) []
      have H3 : H.get (h2.size + 3) = some (.row false 0 [.pointer (some ⟨s, 0, none⟩)]) := by rw [hH]; simp (maxSteps := 1000000) (disch := first | (simp; done) | (simp only [IHeap.size_push', IHeap.size_set']; omega) | omega) []
      have H4 : H.get (h2.size + 4) = some (.row false 0 [.int .i64 1]) := by rw [hH]; simp (maxSteps := 1000000) (disch := first | (simp; done) | (simp only [IHeap.size_push', IHeap.size_set']; omega) | omega) []
      clear hH hE hn hd e1 e5 e6 e7 e15 e79 e80 e81 e
      obtain ⟨b, f, t, x⟩ := lm.sx
      obtain ⟨lv', hlow⟩ := lm.low
      have sz := IHeap.get_lt x.gs
      have kz := IHeap.get_lt x.gk
      have qz := IHeap.get_lt x.gq
      have Bz := lm.size
      have lz := IHeap.get_lt hlow
      have rsz := IHeap.get_lt lm.res
      refine WPR.intro2 (cs := #[.pointer (some ⟨h2.size + 3, 0, none⟩), .pointer (some ⟨h2.size + 4, 0, none⟩)]) (fs := #[]) rfl E104 (by simp) rfl ?_
      intro P Lp Lt LA LB Ls Ln
      have x1 : SIs ((H.push .defs).push (.loop P)) s k q 64 2 (L1 l) b f t := x.to fun i hi => by
        have := Ho i hi
        simp (maxSteps := 1000000) (disch := first | (simp; done) | (simp only [IHeap.size_push', IHeap.size_set']; omega) | omega) [this]
      refine FN.mono (iter_c (z := l) (l := 1) (by omega) (fun i h' => OvJ h2 s P i h') (fun h' => ∃ i, OvJ h2 s { P with state := .done, pending := some (.exit 4) } i h') ?_ ?_ ?_ x1 (L1_one l)) ?_
      · rintro i h1 j
        exact ⟨j.g3, j.g4, L1 l, b, f, t, l.take i, x.to j.old, by rw [L1_one, List.take_append_drop]⟩
      · rintro i h1 hi j
        obtain ⟨c, hc⟩ : ∃ c, l[i] = c := ⟨_, rfl⟩
        have lne : l ≠ [] := by intro e; rw [e] at hi; simp at hi
        have gi := ints_get (getk hi)
        rw [hc] at gi ⊢
        have gl := j.gl
        refine RN.one mixed (E := E) (by rw [Hz]; exact gl) Lp Lt LA LB (by kernel_rfl) (by kernel_rfl) ?_
        intro r rn rd rg
        have r5 := rg 5
        have r6 := rg 6
        have r15 := rg 15
        have r18 := rg 18
        rw [E5] at r5; rw [E6] at r6; rw [E15] at r15; rw [E18] at r18
        rw [En] at rn
        have j2 := j.g2
        have jz := j.size
        have zz := IHeap.get_lt (lm.left lne)
        have jB : h1.get B = some (.row false 0 [.slice (adrN l z) l.length l.length]) := by rw [j.old _ Bz]; exact lm.box
        have jl : h1.get z = some (.row false 1 (ints l)) := by rw [j.old _ zz]; exact lm.left lne
        have j5 : h1.get h.size = some (.row false 0 [.int .i64 lv']) := by rw [j.old _ lz]; exact hlow
        have ad := adrN_at z lne
        have hi2 : (i : Int) < l.length := by omega
        have hi3 : ¬ (l.length : Int) ≤ i := by omega
        simp (maxSteps := 1000000) (disch := first | (simp; done) | (simp only [IHeap.size_push', IHeap.size_set']; omega) | omega) [rn, rd, r5, r6, r15, r18, assignQ]
        refine ⟨P, by rw [Hz]; exact gl, Ls, ?_⟩
        have eL : ({ state := .ready, pending := none, fn := P.fn, tmps := P.tmps, params := P.params, assign := P.assign, body := P.body, defers := P.defers } : Loop) = P := by
          rw [← Ls, ← Ln]
        by_cases cl : lv' < (i : Int) + 1
        · simp (maxSteps := 1000000) (disch := first | (simp; done) | (simp only [IHeap.size_push', IHeap.size_set']; omega) | omega) [rn, rd, r5, r6, r15, r18, Hz, j2, jB, jl, j5, ad, hi, hi2, hi3, gi, undef, wrap64, cl, bodyQ]
          refine ⟨i + 1, ⟨?_, fun a ha => ?_, ?_, ?_, ?_, ?_, ?_⟩⟩
          · simp only [IHeap.size_set']; omega
          · rw [IHeap.get_set_ne _ (by omega), IHeap.get_set_ne _ (by omega)]; exact j.old a ha
          · simp (maxSteps := 1000000) (disch := first | (simp; done) | (simp only [IHeap.size_push', IHeap.size_set']; omega) | omega) []
          · have := j.g3
            simp (maxSteps := 1000000) (disch := first | (simp; done) | (simp only [IHeap.size_push', IHeap.size_set']; omega) | omega) [this]
          · have := j.g4
            simp (maxSteps := 1000000) (disch := first | (simp; done) | (simp only [IHeap.size_push', IHeap.size_set']; omega) | omega) [this]
          · have := j.gd
            simp (maxSteps := 1000000) (disch := first | (simp; done) | (simp only [IHeap.size_push', IHeap.size_set']; omega) | omega) [this]
          · simp (maxSteps := 1000000) (disch := first | (simp; done) | (simp only [IHeap.size_push', IHeap.size_set']; omega) | omega) []
        · simp (maxSteps := 1000000) (disch := first | (simp; done) | (simp only [IHeap.size_push', IHeap.size_set']; omega) | omega) [rn, rd, r5, r6, r15, r18, Hz, j2, jB, jl, j5, ad, hi, hi2, hi3, gi, undef, wrap64, cl, bodyQ]
          rw [eL]
          refine ⟨?_, fun a ha => ?_, ?_, ?_, ?_, ?_, ?_⟩
          · simp only [IHeap.size_set']; omega
          · rw [IHeap.get_set_ne _ (by omega), IHeap.get_set_ne _ (by omega)]; exact j.old a ha
          · simp (maxSteps := 1000000) (disch := first | (simp; done) | (simp only [IHeap.size_push', IHeap.size_set']; omega) | omega) []
          · have := j.g3
            simp (maxSteps := 1000000) (disch := first | (simp; done) | (simp only [IHeap.size_push', IHeap.size_set']; omega) | omega) [this]
          · have := j.g4
            simp (maxSteps := 1000000) (disch := first | (simp; done) | (simp only [IHeap.size_push', IHeap.size_set']; omega) | omega) [this]
          · have := j.gd
            simp (maxSteps := 1000000) (disch := first | (simp; done) | (simp only [IHeap.size_push', IHeap.size_set']; omega) | omega) [this]
          · simp (maxSteps := 1000000) (disch := first | (simp; done) | (simp only [IHeap.size_push', IHeap.size_set']; omega) | omega) []
      · refine ⟨by simp only [IHeap.size_push']; omega, fun i hi => ?_, ?_, ?_, ?_, ?_, ?_⟩
        · have := Ho i hi
          simp (maxSteps := 1000000) (disch := first | (simp; done) | (simp only [IHeap.size_push', IHeap.size_set']; omega) | omega) [this]
        · simp (maxSteps := 1000000) (disch := first | (simp; done) | (simp only [IHeap.size_push', IHeap.size_set']; omega) | omega) [H2]
        · simp (maxSteps := 1000000) (disch := first | (simp; done) | (simp only [IHeap.size_push', IHeap.size_set']; omega) | omega) [H3]
        · simp (maxSteps := 1000000) (disch := first | (simp; done) | (simp only [IHeap.size_push', IHeap.size_set']; omega) | omega) [H4]
        · simp (maxSteps := 1000000) (disch := first | (simp; done) | (simp only [IHeap.size_push', IHeap.size_set']; omega) | omega) [Hz]
        · simp (maxSteps := 1000000) (disch := first | (simp; done) | (simp only [IHeap.size_push', IHeap.size_set']; omega) | omega) [Hz]
      · rintro v h3 hp
        simp only [Hid.ap_mk] at hp ⊢
        have hk : ∃ (L' : Loop) (i : Nat) (o : Option Code), OvJ h2 s L' i h3 ∧ L'.state ≠ .busy ∧ L'.pending = o ∧ (o = none ∨ o = some (.exit 4)) := by
          rcases hp with h1 | ⟨i, h1⟩
          · exact ⟨P, _, _, h1, by rw [Ls]; simp, Ln, .inl rfl⟩
          · exact ⟨_, _, _, h1, by simp, rfl, .inr rfl⟩
        obtain ⟨L', i, po, j, hs, hpo, hor⟩ := hk
        have jz := j.size
        have gl := j.gl
        have gd' : (h3.set (H.size + 1) (.loop { L' with state := .exhausted })).get H.size = some .defs := by
          have := j.gd
          simp (maxSteps := 1000000) (disch := first | (simp; done) | (simp only [IHeap.size_push', IHeap.size_set']; omega) | omega) [Hz, this]
        have go' : ∀ a, a < h2.size → (h3.set (H.size + 1) (.loop { L' with state := .exhausted })).get a = h2.get a := fun a ha => by rw [IHeap.get_set_ne _ (by omega)]; exact j.old a ha
        obtain ⟨E', hE', n', d', g'⟩ := XEnv.withd E (markOf H.size :: E.dfr)
        have E6' := g' 6
        have E7' := g' 7
        have E15' := g' 15
        rw [E6] at E6'; rw [E7] at E7'; rw [E15] at E15'; rw [En] at n'; rw [Ed] at d'
        rw [Hz] at gd' d' go'
        generalize hhh : h3.set (h2.size + 5 + 1) (.loop { L' with state := .exhausted }) = h4 at gd' go'
        have hz4 : h4.size = h3.size := by rw [← hhh]; simp only [IHeap.size_set']
        have x4 : SIs h4 s k q 64 2 (L1 l) b f t := x.to go'
        have gB : h4.get B = some (.row false 0 [.slice (adrN l z) l.length l.length]) := by rw [go' _ Bz]; exact lm.box
        have gz : l ≠ [] → h4.get z = some (.row false 1 (ints l)) := fun hne => by rw [go' _ (IHeap.get_lt (lm.left hne))]; exact lm.left hne
        have gr' : h4.get (h.size + 1) = some (.row false 0 [.bool false]) := by rw [go' _ rsz]; exact lm.res
        obtain ⟨l1, l2, l3, l4, l5, l6, l7, l8⟩ := lm.ls
        have hd5 : h2.size + 5 < h4.size := by omega
        rcases hor with rfl | rfl
        case' inl =>
          refine ⟨L', by rw [Hz]; exact gl, hs, .normal, by rw [hpo]; rfl, ?_⟩
          simp only [Hid.ap_mk]
          rw [hE', Hz, hhh]
          simp (maxSteps := 1000000) (disch := first | (simp; done) | (simp only [IHeap.size_push', IHeap.size_set']; omega) | omega) [outOf_normal, E6', E7', E15', n', d', gB]
        case' inr =>
          refine ⟨L', by rw [Hz]; exact gl, hs, .exit 4, by rw [hpo]; rfl, ?_⟩
          simp only [Hid.ap_mk]
          rw [hE', Hz, hhh]
          simp (maxSteps := 1000000) (disch := first | (simp; done) | (simp only [IHeap.size_push', IHeap.size_set']; omega) | omega) [outOf_exit, E6', E7', E15', n', d', gB]
        all_goals
          refine WPL.by_inv mixed (by kernel_rfl) (fun y e h' => ∃ (j : Nat), j + y = l.length ∧ e.n = 162 ∧ e.dfr = [markOf (h2.size + 5)] ∧ e.get 6 = .pointer (some ⟨h.size + 1, 0, none⟩) ∧ e.get 7 = .pointer (some ⟨s, 0, none⟩) ∧ e.get 123 = .slice (adrN l z) l.length l.length ∧ e.get 124 = .int .i64 l.length ∧ e.get 125 = .int .i64 j ∧ Sx h' s k q 64 2 (L1 (l.drop j)) ∧ (l ≠ [] → h'.get z = some (.row false 1 (ints l))) ∧ h'.get (h.size + 1) = some (.row false 0 [.bool false]) ∧ h'.get (h2.size + 5) = some .defs) l.length ?_ ?_
          · refine ⟨0, ?_⟩
            simp (maxSteps := 1000000) (disch := first | (simp; done) | (simp only [IHeap.size_push', IHeap.size_set']; omega) | omega) [E6', E7', n', d']
            exact ⟨⟨b, f, t, x4⟩, gz, gr', gd'⟩
          rintro y e h5 ⟨j, hj, hn, hd, e6, e7, e123, e124, e125, ⟨b5, f5, t5, x5⟩, gz5, gr5, gd5⟩
          cases y with
          | zero =>
            obtain rfl : j = l.length := by omega
            rw [List.drop_length] at x5
            simp (maxSteps := 1000000) (disch := first | (simp; done) | (simp only [IHeap.size_push', IHeap.size_set']; omega) | omega) [e6, e7, e123, e124, e125, hn, hd]
            refine FN.mono (pop_c x5 1 (by omega) (by rw [L1_one]; simp)) ?_
            rintro _ h6 ⟨rfl, x6, z6, o6⟩
            rw [L1_one, L1_put, List.tail_nil] at x6
            obtain ⟨b6, f6, t6, x6⟩ := x6
            rw [L1_one]
            have d6 : h6.get (h2.size + 5) = some .defs := by rw [o6 _ (IHeap.get_lt gd5) (by omega) (by omega)]; exact gd5
            have r6 : h6.get (h.size + 1) = some (.row false 0 [.bool false]) := by rw [o6 _ (IHeap.get_lt gr5) (by omega) (by omega)]; exact gr5
            simp (maxSteps := 1000000) (disch := first | (simp; done) | (simp only [IHeap.size_push', IHeap.size_set']; omega) | omega) [e6, e7, hn, hd, popV]
            refine FN.of (len_c x6 1 (by omega)) ?_
            rw [L1_one]
            simp (maxSteps := 1000000) (disch := first | (simp; done) | (simp only [IHeap.size_push', IHeap.size_set']; omega) | omega) [e6, e7, hn, hd]
            refine FN.of (len_c x6 0 (by omega)) ?_
            rw [L1_zero]
            simp (maxSteps := 1000000) (disch := first | (simp; done) | (simp only [IHeap.size_push', IHeap.size_set']; omega) | omega) [e6, e7, hn, hd]
            refine FN.of known_c ?_
            have d7 : (h6.set (h.size + 1) (.row false 0 [.bool true])).get (h2.size + 5) = some .defs := by rw [IHeap.get_set_ne _ (by omega)]; exact d6
            have rz6 := IHeap.get_lt r6
            simp (maxSteps := 1000000) (disch := first | (simp; done) | (simp only [IHeap.size_push', IHeap.size_set']; omega) | omega) [e6, e7, hn, hd, r6, finD_one d7]
          | succ y =>
            have hlt : j < l.length := by omega
            have hlt2 : (j : Int) < l.length := by omega
            have lne : l ≠ [] := by intro e; rw [e] at hlt; simp at hlt
            have ad := adrN_at z lne
            have gz6 := gz5 lne
            have zz := l8 lne
            have gi := ints_get (getk hlt)
            have hdr : l.drop j = l[j] :: l.drop (j + 1) := List.drop_eq_getElem_cons hlt
            obtain ⟨c, hc⟩ : ∃ c, l[j] = c := ⟨_, rfl⟩
            rw [hc] at gi hdr
            simp (maxSteps := 1000000) (disch := first | (simp; done) | (simp only [IHeap.size_push', IHeap.size_set']; omega) | omega) [e6, e7, e123, e124, e125, hn, hd, hlt, hlt2, ad, gz6, gi]
            refine FN.mono (pop_c x5 1 (by omega) (by rw [L1_one]; simp; omega)) ?_
            rintro _ h6 ⟨rfl, x6, z6, o6⟩
            rw [L1_one, L1_put, hdr, List.tail_cons] at x6
            rw [L1_one, hdr]
            simp (maxSteps := 1000000) (disch := first | (simp; done) | (simp only [IHeap.size_push', IHeap.size_set']; omega) | omega) [e6, e7, e123, e124, e125, hn, hd, popV, undef]
            refine ⟨y, by omega, j + 1, by omega, ad, by omega, x6, fun _ => ?_, ?_, ?_⟩
            · have r7 := l7
              by_cases hw : z = k ∨ z = q
              · omega
              · rw [o6 _ (IHeap.get_lt gz6) (by omega) (by omega)]; exact gz6
            · rw [o6 _ (IHeap.get_lt gr5) (by omega) (by omega)]; exact gr5
            · rw [o6 _ (IHeap.get_lt gd5) (by omega) (by omega)]; exact gd5
    | succ y =>
      have hlt : i < w.length := by omega
      have hlt2 : (i : Int) < w.length := by omega
      have wne : w ≠ [] := by intro e; rw [e] at hlt; simp at hlt
      have ad := adrN_at r wne
      have gr := lm.want wne
      have gi := ints_get (getk hlt)
      obtain ⟨c, hc⟩ : ∃ c, w[i] = c := ⟨_, rfl⟩
      rw [hc] at gi
      have hdr : w.drop i = c :: w.drop (i + 1) := by rw [List.drop_eq_getElem_cons hlt, hc]
      obtain ⟨b, f, t, x⟩ := lm.sx
      have hnd := x.rep.nd 1 (by omega)
      rw [L1_one, hdr] at hnd
      obtain ⟨l1, l2, l3, l4, l5, l6, l7, l8⟩ := lm.ls
      have Bz := lm.size
      have sz := IHeap.get_lt x.gs
      have kz := IHeap.get_lt x.gk
      have qz := IHeap.get_lt x.gq
      have gB := lm.box
      have rz := IHeap.get_lt gr
      obtain ⟨l7a, l7b, l7c, l7d, l7e⟩ := l7 wne
      obtain ⟨vv, hvv⟩ : ∃ vv, IntKind.u64.wrap ((rem.fdiv (2 ^ min i IntKind.u64.bits) % 2 ^ IntKind.u64.bits).toNat &&& 1 % 2 ^ IntKind.u64.bits : Nat) = vv := ⟨_, rfl⟩
      by_cases cv : vv = 0
      · obtain ⟨h4, ap, z4, g4, o4⟩ := app29 (h := h2.push (.row false 1 [.int .i64 c])) (j := h2.size) (r := z) (l := l) (x := c) (fun hne => by
          have := IHeap.get_lt (lm.left hne)
          rw [IHeap.get_push_ne _ (by omega)]; exact lm.left hne) (IHeap.get_pushed _ rfl) (by omega)
        simp only [IHeap.size_push'] at z4 g4 o4 ap
        rw [slcN_eq, slcN_eq] at ap
        have keep : ∀ a, a < h2.size → (l ≠ [] → a ≠ z) → h4.get a = h2.get a := fun a ha h3' => by
          rw [o4 a (by omega) h3', IHeap.get_push_ne _ (by omega)]
        have gB4 : h4.get B = some (.row false 0 [.slice (adrN l z) l.length l.length]) := by rw [keep B Bz (fun h => by have := l8 h; omega)]; exact gB
        simp (maxSteps := 1000000) (disch := first | (simp; done) | (simp only [IHeap.size_push', IHeap.size_set']; omega) | omega) [zeros, e1, e5, e6, e7, e15, e79, e80, e81, hn, hd, hlt, hlt2, ad, gr, gi, show ¬ (i : Int) < 0 by omega, hvv, cv, gB, ap, gB4]
        refine ⟨y, by omega, i + 1, by omega, by omega, l ++ [c], by simp; omega, h2.size + 1, ?_⟩
        have e1 : l ++ [c] ++ w.drop (i + 1) = l ++ w.drop i := by rw [hdr]; simp
        rw [e1]
        have kp : ∀ a, a < B → (h4.set B (.row false 0 [.slice (adrN (l ++ [c]) (h2.size + 1)) (l.length + 1) (l.length + 1)])).get a = h2.get a := fun a ha => by
          rw [IHeap.get_set_ne _ (by omega), keep a (by omega) (fun h => by have := l8 h; omega)]
        refine ⟨by rw [IHeap.size_set]; omega, ⟨b, f, t, ?_, ?_, ?_, x.rep, x.n1, x.m1, x.nz, x.mz⟩, fun hne => ?_, (by rw [IHeap.get_set_same _ (by omega)]; simp), fun _ => ?_, ?_, ?_, ⟨l1, l2, l3, l4, l5, l6, l7, fun _ => by omega⟩⟩
        · rw [kp _ l4]; exact x.gs
        · rw [kp _ l5]; exact x.gk
        · rw [kp _ l6]; exact x.gq
        · rw [kp _ l7b]; exact gr
        · rw [IHeap.get_set_ne _ (by omega)]; exact g4
        · rw [kp _ (by omega)]; exact lm.low
        · rw [kp _ (by omega)]; exact lm.res
      · simp (maxSteps := 1000000) (disch := first | (simp; done) | (simp only [IHeap.size_push', IHeap.size_set']; omega) | omega) [zeros, e1, e5, e6, e7, e15, e79, e80, e81, hn, hd, hlt, hlt2, ad, gr, gi, show ¬ (i : Int) < 0 by omega, hvv, cv, gB]
        refine FN.mono (remove_ok x 1 c (by omega) (by rw [L1_one, hdr]; simp) ?_) ?_
        · rw [L1_one]; simp; omega
        rintro _ h4 ⟨rfl, x4, z4, o4⟩
        rw [L1_one, L1_put] at x4
        have er : (l ++ w.drop i).erase c = l ++ w.drop (i + 1) := by
          rw [hdr, List.erase_append_right _ (fun h => by
            exact (List.nodup_append.1 hnd).2.2 c h c (by simp) rfl)]
          simp
        rw [er] at x4
        simp (maxSteps := 1000000) (disch := first | (simp; done) | (simp only [IHeap.size_push', IHeap.size_set']; omega) | omega) [e1, e5, e6, e7, e15, e79, e80, e81, hn, hd]
        refine ⟨y, by omega, i + 1, by omega, ad, by omega, l, by omega, z, ?_⟩
        refine ⟨by omega, x4, fun hne => ?_, ?_, fun hne => ?_, ?_, ?_, lm.ls⟩
        · rw [o4 _ rz l7d l7e]; exact gr
        · rw [o4 _ Bz (by omega) (by omega)]; exact gB
        · have h1 := IHeap.get_lt (lm.left hne)
          have h2 := l8 hne
          rw [o4 _ h1 (by omega) (by omega)]; exact lm.left hne
        · rw [o4 _ (by omega) (by omega) (by omega)]; exact lm.low
        · rw [o4 _ (by omega) (by omega) (by omega)]; exact lm.res
end Go.Proofs.Ytepajeemcalheaa.Ideal
