import Derived.Test.YtkpbdhfaobmbpaaP43k
noncomputable section
open Go.Proofs
namespace Go.Proofs.Ytkpbdhfaobmbpaa.Ideal
open Go.RowKit
set_option linter.unusedSimpArgs false
set_option linter.unusedVariables false
set_option linter.unusedSectionVars false
set_option maxRecDepth 100000
set_option maxHeartbeats 4000000
attribute [-simp] IHeap.size_set IHeap.size_push
attribute [local simp ↓] Hid.ap_mk
attribute [local simp] scopeQ_normal scopeQ_ret scopeQ_exit WP_skip WP_label WP_exit WP_goto WP_ret WP_region WP_seq WP_cond WP_block WP_scope WP_loop WP_range thenQ_normal thenQ_ret thenQ_exit thenQ_goto loopQ_normal loopQ_ret loopQ_exit invQ_normal invQ_ret invQ_exit outOf_normal outOf_ret outOf_goto outOf_exit ev_tmp ev_const ev_func
  wops_nil wops_cons wantedE_none wantedE_some jgd_some wnx_eq niC_false wdo_move wdo_assign wdo_pick wdo_load wdo_store wdo_alloc wdo_box wdo_fieldAddr wdo_indexAddr wdo_field wdo_extract wdo_build wdo_buildSlice wdo_makeSlice wdo_binOp wdo_unOp wdo_makeFunc wdo_nilCheck wdo_callV wdo_len wdo_append wdo_copy wdo_delete wdo_max wdo_min wdo_convert jcvt_int
  xput_get put_n put_none put_dfr ibin finQ_n finQ_r finD_nil splice_one ires_nil ires_one ires_two ires_three ires1_tmp ires1_cell jcell_ptr rowLoad_row wrap64 wrapU64 wrapU8 wrapU16 wrapU32 callV_fn buildOf Instr.fill Value.cells Value.oneCell' kindOf slots_all splice_all IHeap.size_set' IHeap.size_push' IHeap.get_set_same IHeap.get_set_ne IHeap.get_pushed IHeap.get_push_ne IHeap.set_set IHeap.set_push IHeap.set_pushed IHeap.set_set3 getU_nil getU_same getU_ne jif_true jif_false pushH_eq setH_eq forceL_eq forceV_eq ibuildSlice
attribute [local simp high] wdo_str26
attribute [local simp] wdo_index jopt_some wdo_toArr wdo_cut26
attribute [-simp] Value.oneCell'
attribute [local simp] one_int' one_slc' one_bool'
/-- Where a slice of bytes lies. -/
theorem SlB.at {h : IHeap} {v : Value} {xs : List Nat} (b : SlB h v xs) (hx : xs ≠ []) : ∃ r q c ro z cs, v = .slice (some ⟨r, q, none⟩) xs.length c ∧ (z = 0 ∨ z = 1) ∧ h.get r = some (.row ro z cs) ∧ ∀ i (hi : i < xs.length), cs[q + i]? = some (.int .u8 (xs[i] : Nat)) := by
  obtain ⟨A, c, rfl, h0, h2, hc⟩ := b
  cases A with
  | none => exact absurd (h0 rfl).2 hx
  | some a =>
    obtain ⟨r, q, ro, z, cs, e, hz, h4, h5⟩ := h2 (by simp)
    cases e
    refine ⟨r, q, c, ro, z, cs, rfl, hz.imp And.right id, h4, fun i hi => ?_⟩
    unfold slots at h5
    split at h5
    · have h6 := Option.some.inj h5
      have : ((cs.drop q).take xs.length)[i]? = (bys xs)[i]? := by rw [h6]
      rw [List.getElem?_take_of_lt hi, List.getElem?_drop] at this
      rw [this]
      simp [bys, hi]
    · cases h5
theorem or_step {m x : Nat} (hm : m < 16777216) (hx : x < 256) : IntKind.u32.wrap ((((IntKind.u32.wrap ((m : Int) * 2 ^ min 8 IntKind.u32.bits) % 2 ^ IntKind.u32.bits).toNat ||| (IntKind.u32.wrap (x : Int) % 2 ^ IntKind.u32.bits).toNat : Nat)) : Int) = ((m * 256 + x : Nat) : Int) := by
  have b : IntKind.u32.bits = 32 := rfl
  have w : ∀ k : Nat, k < 4294967296 → IntKind.u32.wrap (k : Int) = k := fun k hk => by
    simp [IntKind.wrap, IntKind.signed, IntKind.bits]
    omega
  rw [b]
  have e1 : (m : Int) * 2 ^ min 8 32 = ((m * 256 : Nat) : Int) := by push_cast; rfl
  rw [e1, w (m * 256) (by omega), w x (by omega)]
  have e2 : (((m * 256 : Nat) : Int) % 2 ^ 32).toNat = m * 256 := by omega
  have e3 : (((x : Nat) : Int) % 2 ^ 32).toNat = x := by omega
  rw [e2, e3]
  have e4 := Nat.two_pow_add_eq_or_of_lt (i := 8) (b := x) (by omega) m
  have e5 : m * 256 ||| x = m * 256 + x := by
    rw [show m * 256 = 2 ^ 8 * m by omega, ← e4]
  rw [e5, w (m * 256 + x) (by omega)]
theorem at_c {h : IHeap} {v : Value} {high : Bool} {n : Nat} (b : SlB h v (layL high n 4)) (hn : n < 4294967296) : ICall Try.prog 33 #[.agg #[.bool high], v] h (.int .u32 n) (h.push (.row false 0 [.bool high])) := by
  refine ICall.of_FN ?_
  have hn4 := hn
  clear hn
  have l4 : (layL high n 4).length = 4 := layL_len _ _ _
  obtain ⟨r, q, c, ro, z, cs, rfl, hz, hg, hc⟩ := b.at (fun e => by rw [e] at l4; simp at l4)
  rw [l4]
  have hg2 := (Keep.push h (.row false 0 [.bool high])).get hg
  refine FN.enter mixed (fn := Try.f33) (by kernel_rfl) rfl (by kernel_rfl) fun e hn hg hd => ?_
  simp [Try.f33] at hn
  have a0 : e.get 0 = .agg #[.bool high] := hg 0 (by omega)
  have a1 : e.get 1 = .slice (some ⟨r, q, none⟩) 4 c := hg 1 (by omega)
  clear hg
  simp (maxSteps := 1000000) (disch := first | (simp; done) | (simp only [IHeap.size_push', IHeap.size_set']; omega) | omega) [a0, a1, hn, hd]
  refine WPL.by_inv mixed (by kernel_rfl) (fun k e h' => ∃ (j : Nat), j + k = 4 ∧ e.n = 33 ∧ e.dfr = [] ∧ e.get 1 = .slice (some ⟨r, q, none⟩) 4 c ∧ e.get 2 = .pointer (some ⟨h.size, 0, none⟩) ∧ e.get 4 = .int .u32 (n / 2 ^ (8 * (4 - j)) : Nat) ∧ e.get 8 = .int .i64 4 ∧ e.get 9 = .int .i64 j ∧ h' = h.push (.row false 0 [.bool high])) 4 ?_ ?_
  · refine ⟨0, ?_⟩
    have : n / 2 ^ (8 * (4 - 0)) = 0 := Nat.div_eq_of_lt (by simpa using hn4)
    simp (maxSteps := 1000000) (disch := first | (simp; done) | (simp only [IHeap.size_push', IHeap.size_set']; omega) | omega) [a0, a1, hn, hd, this]
  clear hn hd a0 a1 e
  rintro k e h1 ⟨j, hj, hn, hd, a1, a2, a4, a8, a9, rfl⟩
  cases k with
  | zero =>
    obtain rfl : j = 4 := by omega
    simp (maxSteps := 1000000) (disch := first | (simp; done) | (simp only [IHeap.size_push', IHeap.size_set']; omega) | omega) [a1, a2, a4, a8, a9, hn, hd]
  | succ k =>
    have j2 : j < 4 := by omega
    have j1 : (j : Int) < 4 := by omega
    cases high with
    | true =>
      obtain ⟨p, hp⟩ : ∃ p : Nat, p = 3 - j := ⟨_, rfl⟩
      have ep : (3 : Int) - j = p := by omega
      have p4 : p < 4 := by omega
      have p1 : (p : Int) < 4 := by omega
      obtain ⟨y, hy⟩ : ∃ y : Nat, (layL true n 4)[p]'(by omega) = y := ⟨_, rfl⟩
      obtain ⟨x, hx⟩ : ∃ x : Nat, (layL true n 4)[j]'(by omega) = x := ⟨_, rfl⟩
      have cp := hc p (by omega)
      have cj := hc j (by omega)
      rw [hy] at cp
      rw [hx] at cj
      obtain ⟨m, hm⟩ : ∃ m : Nat, n / 2 ^ (8 * (4 - j)) = m := ⟨_, rfl⟩
      rw [hm] at a4
      simp (maxSteps := 1000000) (disch := first | (simp; done) | (simp only [IHeap.size_push', IHeap.size_set']; omega) | omega) [a1, a2, a4, a8, a9, hn, hd, j1, j2, hg2, ep, p4, p1, cp, cj]
      refine ⟨k, by omega, j + 1, by omega, ?_, by omega⟩
      have t1 : n / 2 ^ (8 * (4 - j)) = n / 2 ^ (8 * (4 - (j + 1))) / 256 := by
        rw [Nat.div_div_eq_div_mul, show (256 : Nat) = 2 ^ 8 by rfl, ← Nat.pow_add]
        congr 2
        omega
      have t2 : x = n / 2 ^ (8 * (4 - (j + 1))) % 256 := by
        rw [← hx]
        simp only [layL, List.getElem_map, List.getElem_range, if_true]
        rw [show 4 - 1 - j = 4 - (j + 1) by omega]
      obtain ⟨t, ht⟩ : ∃ t, n / 2 ^ (8 * (4 - (j + 1))) = t := ⟨_, rfl⟩
      have tl : t < 4294967296 := by
        rw [← ht]
        exact Nat.lt_of_le_of_lt (Nat.div_le_self _ _) hn4
      rw [ht] at t1 t2
      rw [or_step (by omega) (by omega)]
      have : (n : Int) / 2 ^ (8 * (4 - (j + 1))) = (t : Nat) := by
        rw [← ht]
        push_cast
        rfl
      rw [this]
      omega
    | false =>
      obtain ⟨p, hp⟩ : ∃ p : Nat, p = 3 - j := ⟨_, rfl⟩
      have ep : (3 : Int) - j = p := by omega
      have p4 : p < 4 := by omega
      have p1 : (p : Int) < 4 := by omega
      obtain ⟨x, hx⟩ : ∃ x : Nat, (layL false n 4)[p]'(by omega) = x := ⟨_, rfl⟩
      have cp := hc p (by omega)
      rw [hx] at cp
      obtain ⟨m, hm⟩ : ∃ m : Nat, n / 2 ^ (8 * (4 - j)) = m := ⟨_, rfl⟩
      rw [hm] at a4
      simp (maxSteps := 1000000) (disch := first | (simp; done) | (simp only [IHeap.size_push', IHeap.size_set']; omega) | omega) [a1, a2, a4, a8, a9, hn, hd, j1, j2, hg2, ep, p4, p1, cp]
      refine ⟨k, by omega, j + 1, by omega, ?_, by omega⟩
      have t1 : n / 2 ^ (8 * (4 - j)) = n / 2 ^ (8 * (4 - (j + 1))) / 256 := by
        rw [Nat.div_div_eq_div_mul, show (256 : Nat) = 2 ^ 8 by rfl, ← Nat.pow_add]
        congr 2
        omega
      have t2 : x = n / 2 ^ (8 * (4 - (j + 1))) % 256 := by
        rw [← hx]
        simp only [layL, List.getElem_map, List.getElem_range, Bool.false_eq_true, if_false]
        rw [show p = 4 - (j + 1) by omega]
      obtain ⟨t, ht⟩ : ∃ t, n / 2 ^ (8 * (4 - (j + 1))) = t := ⟨_, rfl⟩
      have tl : t < 4294967296 := by
        rw [← ht]
        exact Nat.lt_of_le_of_lt (Nat.div_le_self _ _) hn4
      rw [ht] at t1 t2
      rw [or_step (by omega) (by omega)]
      have : (n : Int) / 2 ^ (8 * (4 - (j + 1))) = (t : Nat) := by
        rw [← ht]
        push_cast
        rfl
      rw [this]
      omega
end Go.Proofs.Ytkpbdhfaobmbpaa.Ideal
