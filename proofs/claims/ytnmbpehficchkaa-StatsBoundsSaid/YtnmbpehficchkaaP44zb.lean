import Derived.Test.YtnmbpehficchkaaP44z
noncomputable section
open Go.Proofs
namespace Go.Proofs.Ytnmbpehficchkaa.Ideal
open Go.RowKit
set_option linter.unusedSimpArgs false
set_option linter.unusedVariables false
set_option linter.unusedSectionVars false
set_option maxRecDepth 100000
set_option maxHeartbeats 4000000
attribute [-simp] IHeap.size_set IHeap.size_push
attribute [local simp ↓] Hid.ap_mk
attribute [local simp] scopeQ_normal scopeQ_ret scopeQ_exit WP_skip WP_label WP_exit WP_goto WP_ret WP_region WP_seq WP_cond WP_block WP_scope WP_loop WP_range thenQ_normal thenQ_ret thenQ_exit thenQ_goto loopQ_normal loopQ_ret loopQ_exit invQ_normal invQ_ret invQ_exit outOf_normal outOf_ret outOf_goto outOf_exit ev_tmp ev_const ev_func
  wops_nil wops_cons wantedE_none wantedE_some jgd_some wnx_eq niC_false wdo_move wdo_assign wdo_pick wdo_load wdo_store wdo_alloc wdo_box wdo_fieldAddr wdo_indexAddr wdo_field wdo_extract wdo_build wdo_buildSlice wdo_makeSlice wdo_binOp wdo_unOp wdo_makeFunc wdo_nilCheck wdo_callV wdo_len wdo_append wdo_copy wdo_delete wdo_max wdo_min wdo_convert jcvt_int
  xput_get put_n put_none put_dfr ibin finQ_n finQ_r finD_nil splice_one ires_nil ires_one ires_two ires_three ires1_tmp ires1_cell jcell_ptr rowLoad_row wrap64 wrapU64 wrapU8 wrapU16 wrapU32 callV_fn buildOf Instr.fill Value.cells Value.oneCell' kindOf slots_all splice_all IHeap.size_set' IHeap.size_push' IHeap.get_set_same IHeap.get_set_ne IHeap.get_pushed IHeap.get_push_ne IHeap.set_set IHeap.set_push IHeap.set_pushed IHeap.set_set3 getU_nil getU_same getU_ne jif_true jif_false pushH_eq setH_eq forceL_eq forceV_eq ibuildSlice
attribute [local simp] wdo_index jopt_some fb_known
attribute [-simp] Value.oneCell'
attribute [local simp] one_int' one_slc'
attribute [-simp] ze80 ze47 ze45
attribute [local simp] ze80' ze47' zz80 zz47 bld45 fl80' fl47'
def u8s (l : List Nat) : List Value := l.map fun n => .int .u8 (n : Nat)
theorem u8s_at {l : List Nat} {j : Nat} (hj : j < l.length) : (u8s l)[j]? = some (.int .u8 (l[j] : Nat)) := by simp [u8s, hj]
/-- An argument's bytes lie there. -/
def ArgB (h : IHeap) (b : Nat) (A : Option Addr) (l : List Nat) : Prop := l ≠ [] → A = some ⟨b, 0, none⟩ ∧ h.get b = some (.row true 0 (u8s l))
def carC (car : Nat → Nat) : List Value := (List.range 12).map fun x => .int .u64 (car x : Nat)
theorem carC_len (car : Nat → Nat) : (carC car).length = 12 := by simp [carC]
theorem carC_at {car : Nat → Nat} {d : Nat} (hd : d < 12) : (carC car)[d]? = some (.int .u64 (car d : Nat)) := by simp [carC, hd]
theorem carC_set {car : Nat → Nat} {d w : Nat} (hd : d < 12) : (carC car).set d (.int .u64 ((car d + w : Nat) : Int)) = carC (fun y => if y = d then car y + w else car y) := by
  refine List.ext_getElem (by simp [carC]) fun i h1 h2 => ?_
  simp only [List.length_set, carC_len] at h1
  rw [List.getElem_set]
  by_cases e : d = i
  · subst e
    simp [carC]
  · have e2 : ¬ i = d := fun h => e h.symm
    simp [carC, e, e2]
theorem elem_le {L : List CN} {t : Nat} (hs : (L.map CN.count).sum ≤ t) {c : CN} (hc : c ∈ L) : c.count ≤ t := by
  induction L with
  | nil => simp at hc
  | cons a L ih =>
    simp only [List.map_cons, List.sum_cons] at hs
    rcases List.mem_cons.1 hc with rfl | hc
    · omega
    · exact ih (by omega) hc
theorem addR_d {k d w : Nat} {L L' : List CN} (a : AddR k L d w L') (h : ∀ c ∈ L, c.d < 12) (hd : d < 12) : ∀ c ∈ L', c.d < 12 := by
  rcases a with ⟨i, hi, _, rfl⟩ | ⟨_, _, t, rfl⟩ | ⟨_, _, i, hi, t, _, rfl⟩
  · intro c hc
    rcases mem_set hc with rfl | ⟨j, hj, _, rfl⟩
    · exact show L[i].d < 12 from h _ (List.getElem_mem hi)
    · exact h _ (List.getElem_mem hj)
  · intro c hc
    rcases List.mem_append.1 hc with hc | hc
    · exact h c hc
    · rw [List.mem_singleton] at hc
      subst hc
      exact hd
  · intro c hc
    rcases mem_set hc with rfl | ⟨j, hj, _, rfl⟩
    · exact hd
    · exact h _ (List.getElem_mem hj)
theorem idx40 {car : Nat → Nat} {i : Nat} (hi : i < 12) : idxV Try.prog 40 (.agg (carC car).toArray) (.int .i64 i) = some (.int .u64 (car i : Nat), .pure) := by
  have h1 : (i : Int) < 12 := by omega
  simp [idxV, h1, carC, hi]
/-- The law's first round. -/
def BdI (T C k : Nat) (h : IHeap) (A B : Option Addr) (ks ws : List Nat) (ca cb : Nat) (k' : Nat) (e : XEnv) (h' : IHeap) : Prop :=
  ∃ (j : Nat) (L : List CN) (car : Nat → Nat) (tot turns : Nat) (sl : Value), j + k' = ks.length ∧ e.n = 156 ∧ e.dfr = [] ∧ e.get 0 = .int .i64 k ∧ e.get 2 = .slice B ws.length cb ∧ e.get 7 = .pointer (some ⟨T, 0, none⟩) ∧ e.get 9 = .pointer (some ⟨C, 0, none⟩) ∧ e.get 10 = .int .u64 tot ∧ e.get 45 = .slice A ks.length ca ∧ e.get 46 = .int .i64 ks.length ∧ e.get 47 = .int .i64 j ∧
    Sv k L car tot ∧ (∀ c ∈ L, c.d < 12) ∧ tot ≤ j * 766 ∧ turns ≤ j ∧ h'.get T = some (.row false 0 (tkr k sl turns tot)) ∧ SlC h' sl L ∧ h'.get C = some (.row false 0 (carC car)) ∧ ArgB h' 0 A ks ∧ ArgB h' 1 B ws
theorem bounds_c {h : IHeap} {k : Int} {A B : Option Addr} {ks ws : List Nat} {ca cb : Nat} (aA : ArgB h 0 A ks) (aB : ArgB h 1 B ws) (hk8 : ∀ x ∈ ks, x < 256) (hw8 : ∀ x ∈ ws, x < 256) (h2 : 2 ≤ h.size) (hks : ks.length ≤ 9223372036854775807) (hws : ws.length ≤ 9223372036854775807) :
    FN Try.prog 4 #[.int .i64 k, .slice A ks.length ca, .slice B ws.length cb] h (Q := ⟨fun v _ => v = .bool true⟩) := by
  refine FN.enter mixed (fn := Try.f4) (by kernel_rfl) rfl (by kernel_rfl) fun e hn hg hd => ?_
  simp [Try.f4] at hn
  have a0 : e.get 0 = .int .i64 k := hg 0 (by omega)
  have a1 : e.get 1 = .slice A ks.length ca := hg 1 (by omega)
  have a2 : e.get 2 = .slice B ws.length cb := hg 2 (by omega)
  clear hg
  by_cases hk : k < 1 ∨ 64 < k
  · simp (maxSteps := 1000000) (disch := first | (simp; done) | (simp only [IHeap.size_push', IHeap.size_set']; omega) | omega) [a0, a1, a2, hn, hd]
    refine FN.of (new_n hk) ?_
    by_cases k1 : k < 1
    · simp (maxSteps := 1000000) (disch := first | (simp; done) | (simp only [IHeap.size_push', IHeap.size_set']; omega) | omega) [a0, a1, a2, hn, hd, undef, k1]
      refine FN.of known_c ?_
      simp (maxSteps := 1000000) (disch := first | (simp; done) | (simp only [IHeap.size_push', IHeap.size_set']; omega) | omega) [a0, a1, a2, hn, hd, undef, k1]
    · have k2 : (64 : Int) < k := by omega
      simp (maxSteps := 1000000) (disch := first | (simp; done) | (simp only [IHeap.size_push', IHeap.size_set']; omega) | omega) [a0, a1, a2, hn, hd, undef, k1, k2]
      refine FN.of known_c ?_
      simp (maxSteps := 1000000) (disch := first | (simp; done) | (simp only [IHeap.size_push', IHeap.size_set']; omega) | omega) [a0, a1, a2, hn, hd, undef, k1, k2]
  obtain ⟨k, rfl⟩ := Int.eq_ofNat_of_zero_le (show 0 ≤ k by omega)
  have k1 : 1 ≤ k := by omega
  have k64 : k ≤ 64 := by omega
  have nc := new_c (h := h) k1 k64
  simp (maxSteps := 1000000) (disch := first | (simp; done) | (simp only [IHeap.size_push', IHeap.size_set']; omega) | omega) [a0, a1, a2, hn, hd]
  refine FN.of nc ?_
  by_cases c100 : (100 : Int) < ks.length
  · simp (maxSteps := 1000000) (disch := first | (simp; done) | (simp only [IHeap.size_push', IHeap.size_set']; omega) | omega) [a0, a1, a2, hn, hd, undef, c100]
    refine FN.of known_c ?_
    simp (maxSteps := 1000000) (disch := first | (simp; done) | (simp only [IHeap.size_push', IHeap.size_set']; omega) | omega) [a0, a1, a2, hn, hd, undef, c100]
  have zc : ∀ n : Nat, n < 2 → n ≠ h.size := fun n hn => by omega
  simp (maxSteps := 1000000) (disch := first | (simp; done) | (simp only [IHeap.size_push', IHeap.size_set']; omega) | omega) [a0, a1, a2, hn, hd, undef, c100]
  have zrow : [Value.int .u64 0, .int .u64 0, .int .u64 0, .int .u64 0, .int .u64 0, .int .u64 0, .int .u64 0, .int .u64 0, .int .u64 0, .int .u64 0, .int .u64 0, .int .u64 0] = carC (fun _ => 0) := rfl
  rw [zrow]
  have kk := (Keep.push h (.row false 0 (tkr k (.slice none 0 0) 0 0))).push' (.row false 0 (carC (fun _ => 0)))
  refine WPL.by_inv mixed (by kernel_rfl) (BdI h.size (h.size + 1) k h A B ks ws ca cb) ks.length ?_ ?_
  · refine ⟨0, [], fun _ => 0, 0, 0, .slice none 0 0, by omega, ?_⟩
    simp (maxSteps := 1000000) (disch := first | (simp; done) | (simp only [IHeap.size_push', IHeap.size_set']; omega) | omega) [a0, a1, a2, hn, hd]
    refine ⟨Sv.nil k, .inl ⟨rfl, rfl⟩, fun hne => ⟨(aA hne).1, kk.get (aA hne).2⟩, fun hne => ⟨(aB hne).1, kk.get (aB hne).2⟩⟩
  clear hn hd a0 a1 a2 e
  rintro k' e h1 ⟨j, L, car, tot, turns, sl, hj, hn, hd, a0, a2, a7, a9, a10, a45, a46, a47, sv, d12, tb, tub, gT, slc, gC, bA, bB⟩
  have L12 : L.length ≤ 12 := len12 sv.nd d12
  cases k' with
  | zero =>
    obtain rfl : j = ks.length := by omega
    have cf : slots (carC car) 0 12 = some (carC car) := slots_full _ (carC_len car).symm
    simp (maxSteps := 1000000) (disch := first | (simp; done) | (simp only [IHeap.size_push', IHeap.size_set']; omega) | omega) [a0, a2, a7, a9, a10, a45, a46, a47, hn, hd, gC, cf]
    refine WPL.by_inv mixed (by kernel_rfl) (fun k2 e h' => ∃ (i : Nat), i + k2 = 12 ∧ e.n = 156 ∧ e.dfr = [] ∧ e.get 0 = .int .i64 k ∧ e.get 7 = .pointer (some ⟨h.size, 0, none⟩) ∧ e.get 10 = .int .u64 tot ∧ e.get 83 = .agg (carC car).toArray ∧ e.get 84 = .int .i64 i ∧ Keep h1 h') 12 ?_ ?_
    · refine ⟨0, ?_⟩
      simp (maxSteps := 1000000) (disch := first | (simp; done) | (simp only [IHeap.size_push', IHeap.size_set']; omega) | omega) [a0, a2, a7, a9, a10, a45, a46, a47, hn, hd]
      exact Keep.refl h1
    clear hn hd a0 a2 a7 a9 a10 a45 a46 a47 e
    rintro k2 e h2 ⟨i, hi, hn, hd, a0, a7, a10, a83, a84, kp⟩
    have gT2 := kp.get gT
    have slc2 := slc.keep kp
    cases k2 with
    | zero =>
      obtain rfl : i = 12 := by omega
      simp (maxSteps := 1000000) (disch := first | (simp; done) | (simp only [IHeap.size_push', IHeap.size_set']; omega) | omega) [a0, a7, a10, a83, a84, hn, hd]
      refine FN.mono (top_c gT2 slc2 k1 L12) ?_
      rintro v h3 ⟨A3, c3, M, J, rfl, pM, hM, k3⟩
      have sM : (M.map CN.count).sum = tot := by
        rw [← sv.sm]
        exact (pM.map _).sum_nat
      have M12 : M.length ≤ 12 := by rw [pM.length_eq]; exact L12
      simp (maxSteps := 1000000) (disch := first | (simp; done) | (simp only [IHeap.size_push', IHeap.size_set']; omega) | omega) [a0, a7, a10, a83, a84, hn, hd]
      refine WPL.by_inv mixed (by kernel_rfl) (fun k3 e h' => ∃ (i S : Nat), i + k3 = M.length ∧ ((M.take i).map CN.count).sum = S ∧ e.n = 156 ∧ e.dfr = [] ∧ e.get 7 = .pointer (some ⟨h.size, 0, none⟩) ∧ e.get 10 = .int .u64 tot ∧ e.get 18 = .int .u64 S ∧ e.get 133 = .slice A3 M.length c3 ∧ e.get 134 = .int .i64 M.length ∧ e.get 135 = .int .i64 i ∧ Keep h3 h') M.length ?_ ?_
      · refine ⟨0, 0, ?_⟩
        simp (maxSteps := 1000000) (disch := first | (simp; done) | (simp only [IHeap.size_push', IHeap.size_set']; omega) | omega) [a0, a7, a10, a83, a84, hn, hd]
        exact Keep.refl h3
      clear hn hd a0 a7 a10 a83 a84 e
      rintro k3' e h4 ⟨i, S, hi3, hS, hn, hd, a7, a10, a18, a133, a134, a135, kp4⟩
      have gT4 := (k3.trans kp4).get gT2
      cases k3' with
      | zero =>
        obtain rfl : i = M.length := by omega
        rw [List.take_length, sM] at hS
        subst hS
        simp (maxSteps := 1000000) (disch := first | (simp; done) | (simp only [IHeap.size_push', IHeap.size_set']; omega) | omega) [a7, a10, a18, a133, a134, a135, hn, hd]
        refine FN.of (total_c gT4 k1) ?_
        simp (maxSteps := 1000000) (disch := first | (simp; done) | (simp only [IHeap.size_push', IHeap.size_set']; omega) | omega) [a7, a10, a18, a133, a134, a135, hn, hd]
        refine FN.of known_c ?_
        simp (maxSteps := 1000000) (disch := first | (simp; done) | (simp only [IHeap.size_push', IHeap.size_set']; omega) | omega) [a7, a10, a18, a133, a134, a135, hn, hd]
      | succ k3' =>
        have j2 : i < M.length := by omega
        have j1 : (i : Int) < M.length := by omega
        obtain ⟨rfl, hJ⟩ := hM (fun e => by rw [e] at j2; simp at j2)
        have gJ := kp4.get hJ
        have sj := fm_at tal_len M i j2
        change slots (tcs M) (i * 38) 38 = _ at sj
        have eS : ((M.take (i + 1)).map CN.count).sum = S + M[i].count := by
          rw [List.take_succ_eq_append_getElem j2, List.map_append, List.sum_append, hS]
          simp
        have bS : S + M[i].count ≤ tot := by
          rw [← eS, ← sM]
          conv => rhs; rw [← List.take_append_drop (i + 1) M, List.map_append, List.sum_append]
          omega
        simp (maxSteps := 1000000) (disch := first | (simp; done) | (simp only [IHeap.size_push', IHeap.size_set']; omega) | omega) [-buildOf, -Instr.fill, a7, a10, a18, a133, a134, a135, hn, hd, j1, j2, gJ, sj, one_tal, tal_len, tal_set, tal36]
        exact ⟨k3', by omega, i + 1, by omega, by rw [← List.map_take, eS, Int.natCast_add], by omega, kp4.push' _⟩
    | succ k2 =>
      have i1 : (i : Int) < 12 := by omega
      have iv := idx40 (car := car) (show i < 12 by omega)
      have b45 := bld45 i
      have gc := get_c (d := i) gT2 slc2 k1 (by omega)
      rw [keyV] at gc
      simp (maxSteps := 1000000) (disch := first | (simp; done) | (simp only [IHeap.size_push', IHeap.size_set']; omega) | omega) [-buildOf, -Instr.fill, a0, a7, a10, a83, a84, hn, hd, i1, iv, b45]
      refine FN.mono gc ?_
      rintro v h3 ⟨gq, k3⟩
      have kt := (kp.trans k3).push' (.row false 0 z39.tal)
      rcases gq with ⟨c, hc, hcd, rfl⟩ | ⟨nm, rfl⟩
      · have lo := sv.lo c hc
        rw [hcd] at lo
        have ce := elem_le (Nat.le_of_eq sv.sm) hc
        have n1 : ¬ (c.count : Int) < car i := by omega
        have n1n : ¬ c.count < car i := by omega
        have n2 : ¬ (c.count : Int) < c.err := by omega
        have n2n : ¬ c.count < c.err := by omega
        have n3 : ¬ (car i : Int) < (c.count : Int) - c.err := by omega
        simp (maxSteps := 1000000) (disch := first | (simp; done) | (simp only [IHeap.size_push', IHeap.size_set']; omega) | omega) [-buildOf, -Instr.fill, a0, a7, a10, a83, a84, hn, hd, one_tal, tal_len, tal_set, tal36, tal37, undef, n1, n1n, n2, n2n, n3]
        exact ⟨k2, by omega, i + 1, by omega, by omega, (kp.trans k3).push' _⟩
      · obtain ⟨q, hq⟩ : ∃ q : Nat, (car i : Int) * k = q := ⟨car i * k, by push_cast; rfl⟩
        have qt := sv.none (d := i) nm
        have ql : q ≤ tot := by
          have : ((car i * k : Nat) : Int) = q := by rw [← hq]; push_cast; rfl
          omega
        have n1 : ¬ (tot : Int) < q := by omega
        have n1n : ¬ tot < q := by omega
        simp (maxSteps := 1000000) (disch := first | (simp; done) | (simp only [IHeap.size_push', IHeap.size_set']; omega) | omega) [-buildOf, -Instr.fill, a0, a7, a10, a83, a84, hn, hd, one_tal, tal_len, tal_set, tal36, tal37, undef, hq, n1, n1n]
        exact ⟨k2, by omega, i + 1, by omega, by omega, (kp.trans k3).push' _⟩
  | succ k' =>
    have j2 : j < ks.length := by omega
    have j1 : (j : Int) < ks.length := by omega
    obtain ⟨rfl, gA⟩ := bA (fun e => by rw [e] at j2; simp at j2)
    obtain ⟨x, hx⟩ : ∃ x, ks[j] = x := ⟨_, rfl⟩
    have x8 := hk8 _ (List.getElem_mem j2)
    have ux := u8s_at j2
    rw [hx] at ux x8
    obtain ⟨d, hd12, ed⟩ : ∃ d, d < 12 ∧ d = x % 12 := ⟨_, Nat.mod_lt _ (by omega), rfl⟩
    have t1 : (x : Int).tmod 12 = (d : Nat) := by rw [Int.tmod_eq_emod_of_nonneg (by omega)]; omega
    obtain ⟨w, w1, w2, hcase⟩ : ∃ w : Nat, 1 ≤ w ∧ w ≤ 766 ∧ ((∃ (hw : j < ws.length), (u8s ws)[j]? = some (.int .u8 (ws[j] : Nat)) ∧ (1 : Int) + 3 * ((ws[j] : Nat) : Int) = (w : Nat)) ∨ (¬ j < ws.length ∧ w = 1)) := by
      by_cases hw : j < ws.length
      · have := hw8 _ (List.getElem_mem hw)
        exact ⟨1 + 3 * ws[j], by omega, by omega, .inl ⟨hw, u8s_at hw, by push_cast; rfl⟩⟩
      · exact ⟨1, by omega, by omega, .inr ⟨hw, rfl⟩⟩
    have cb1 : ∀ c ∈ L, c.count + w ≤ 1000000 := fun c hc => by
      have h1 := elem_le (Nat.le_of_eq sv.sm) hc
      omega
    have ac := tadd_c (d := d) (w := w) gT slc k1 k64 (by omega) w1 (by omega) cb1 (by omega)
    rw [keyV] at ac
    have carB : car d ≤ 1000000 := by
      by_cases hm : ∃ c ∈ L, c.d = d
      · obtain ⟨c, hc, hcd⟩ := hm
        have h1 := (sv.lo c hc).1
        have h2 := elem_le (Nat.le_of_eq sv.sm) hc
        rw [hcd] at h1
        omega
      · have := sv.none (d := d) fun c hc e => hm ⟨c, hc, e⟩
        have : car d ≤ car d * k := Nat.le_mul_of_pos_right _ (by omega)
        omega
    have b45 := bld45 d
    rcases hcase with ⟨hw, uw, hwc⟩ | ⟨hw, rfl⟩
    · obtain ⟨rfl, gB⟩ := bB (fun e => by rw [e] at hw; simp at hw)
      have hw' : (j : Int) < ws.length := by omega
      simp (maxSteps := 1000000) (disch := first | (simp; done) | (simp only [IHeap.size_push', IHeap.size_set']; omega) | omega) [-buildOf, -Instr.fill, a0, a2, a7, a9, a10, a45, a46, a47, hn, hd, j1, j2, gA, ux, t1, hw, hw', gB, uw, hwc, b45]
      refine FN.mono ac ?_
      rintro v h2 ⟨sl', L', turns', rfl, ar, slc', gT', tu', fr⟩
      have gC' := fr.eq (h.size + 1) false 0 _ (by omega) (by omega) gC
      have gA' := fr.eq 0 true 0 _ (by omega) (by omega) gA
      have cw : car d + w < 18446744073709551616 := by
        have : car d ≤ 1000000 := carB
        omega
      have cs := carC_set (car := car) (w := w) hd12
      rw [Int.natCast_add] at cs
      have cl : d < (carC car).length := by rw [carC_len]; exact hd12
      have cl2 : d + 1 ≤ (carC car).length := cl
      rw [← splice_one _ cl] at cs
      have ca1 := carC_at (car := car) hd12
      have ca2 : ∀ hh, (carC car)[d]'hh = .int .u64 (car d : Nat) := fun hh => by simp [carC]
      have d1 : (d : Int) < 12 := by omega
      have z2 := fr.le
      simp (maxSteps := 1000000) (disch := first | (simp; done) | (simp only [IHeap.size_push', IHeap.size_set']; omega) | omega) [-buildOf, -Instr.fill, a0, a2, a7, a9, a10, a45, a46, a47, hn, hd, j1, j2, gA, ux, t1, hw, hw', gB, uw, hwc, b45, gC', cs, cl, cl2, ca1, ca2, hd12, d1, -splice_one]
      refine ⟨k', by omega, j + 1, L', fun y => if y = d then car y + w else car y, tot + w, turns', sl', by omega, ?_⟩
      simp (maxSteps := 1000000) (disch := first | (simp; done) | (simp only [IHeap.size_push', IHeap.size_set']; omega) | omega) [a0, a2, a7, a9, a10, a45, a46, a47, hn, hd]
      exact ⟨sv.add w1 ar, addR_d ar d12 hd12, by omega, by omega, gT', slc'.setT gC' _, IHeap.get_set_same _ (IHeap.get_lt gC'), fun _ => ⟨rfl, by rw [IHeap.get_set_ne _ (by omega)]; exact gA'⟩, fun hne => ⟨(bB hne).1, by rw [IHeap.get_set_ne _ (by omega)]; exact fr.eq 1 true 0 _ (by omega) (by omega) (bB hne).2⟩⟩
    · have hw' : ¬ (j : Int) < ws.length := by omega
      simp (maxSteps := 1000000) (disch := first | (simp; done) | (simp only [IHeap.size_push', IHeap.size_set']; omega) | omega) [-buildOf, -Instr.fill, a0, a2, a7, a9, a10, a45, a46, a47, hn, hd, j1, j2, gA, ux, t1, hw, hw', b45]
      refine FN.mono ac ?_
      rintro v h2 ⟨sl', L', turns', rfl, ar, slc', gT', tu', fr⟩
      have gC' := fr.eq (h.size + 1) false 0 _ (by omega) (by omega) gC
      have gA' := fr.eq 0 true 0 _ (by omega) (by omega) gA
      have cw : car d + 1 < 18446744073709551616 := by
        have : car d ≤ 1000000 := carB
        omega
      have cs := carC_set (car := car) (w := 1) hd12
      rw [Int.natCast_add, show ((1 : Nat) : Int) = 1 from rfl] at cs
      have cl : d < (carC car).length := by rw [carC_len]; exact hd12
      have cl2 : d + 1 ≤ (carC car).length := cl
      rw [← splice_one _ cl] at cs
      have ca1 := carC_at (car := car) hd12
      have ca2 : ∀ hh, (carC car)[d]'hh = .int .u64 (car d : Nat) := fun hh => by simp [carC]
      have d1 : (d : Int) < 12 := by omega
      have z2 := fr.le
      simp (maxSteps := 1000000) (disch := first | (simp; done) | (simp only [IHeap.size_push', IHeap.size_set']; omega) | omega) [-buildOf, -Instr.fill, a0, a2, a7, a9, a10, a45, a46, a47, hn, hd, j1, j2, gA, ux, t1, hw, hw', b45, gC', cs, cl, cl2, ca1, ca2, hd12, d1, -splice_one]
      refine ⟨k', by omega, j + 1, L', fun y => if y = d then car y + 1 else car y, tot + 1, turns', sl', by omega, ?_⟩
      simp (maxSteps := 1000000) (disch := first | (simp; done) | (simp only [IHeap.size_push', IHeap.size_set']; omega) | omega) [a0, a2, a7, a9, a10, a45, a46, a47, hn, hd]
      exact ⟨sv.add w1 ar, addR_d ar d12 hd12, by omega, by omega, gT', slc'.setT gC' _, IHeap.get_set_same _ (IHeap.get_lt gC'), fun _ => ⟨rfl, by rw [IHeap.get_set_ne _ (by omega)]; exact gA'⟩, fun hne => ⟨(bB hne).1, by rw [IHeap.get_set_ne _ (by omega)]; exact fr.eq 1 true 0 _ (by omega) (by omega) (bB hne).2⟩⟩
end Go.Proofs.Ytnmbpehficchkaa.Ideal
