import Derived.Test.YtmeonhnaadjamaaP12d
noncomputable section
open Go.Proofs
namespace Go.Proofs.Ytmeonhnaadjamaa.Ideal
open Go.RowKit
set_option linter.unusedSimpArgs false
set_option linter.unusedVariables false
set_option linter.unusedSectionVars false
set_option linter.unnecessarySimpa false
set_option maxRecDepth 100000
set_option maxHeartbeats 2000000
attribute [-simp] IHeap.size_set IHeap.size_push
attribute [local simp ↓] Hid.ap_mk
attribute [local simp] scopeQ_normal scopeQ_ret scopeQ_exit WP_skip WP_label WP_exit WP_goto WP_ret WP_region WP_seq WP_cond WP_block WP_scope WP_loop WP_range thenQ_normal thenQ_ret thenQ_exit thenQ_goto loopQ_normal loopQ_ret loopQ_exit invQ_normal invQ_ret invQ_exit outOf_normal outOf_ret outOf_goto outOf_exit ev_tmp ev_const ev_func
  wops_nil wops_cons wantedE_none wantedE_some jgd_some wnx_eq niC_false wdo_move wdo_assign wdo_pick wdo_load wdo_store wdo_alloc wdo_box wdo_fieldAddr wdo_indexAddr wdo_field wdo_extract wdo_build wdo_buildSlice wdo_makeSlice wdo_binOp wdo_unOp wdo_makeFunc wdo_nilCheck wdo_callV wdo_len wdo_append wdo_copy wdo_delete wdo_max wdo_min wdo_convert jcvt_int
  xput_get put_n put_none put_dfr ibin finQ_n finQ_r finD_nil splice_one ires_nil ires_one ires_two ires_three ires1_tmp ires1_cell jcell_ptr rowLoad_row wrap64 wrapU64 wrapU8 wrapU16 wrapU32 callV_fn buildOf Instr.fill Value.cells Value.oneCell' kindOf slots_all splice_all IHeap.size_set' IHeap.size_push' IHeap.get_set_same IHeap.get_set_ne IHeap.get_pushed IHeap.get_push_ne IHeap.set_set IHeap.set_push IHeap.set_pushed IHeap.set_set3 getU_nil getU_same getU_ne jif_true jif_false pushH_eq setH_eq forceL_eq forceV_eq ibuildSlice
attribute [local simp] wdo_arrCut jopt_some u8_5 ni26
attribute [local simp high] wdo_str
theorem str26 {h : IHeap} {q n c : Nat} {l : List Int} (hg : h.get q = some (.row false 1 (nums l))) (hn : n = l.length) (hl : l ≠ []) : bytesStr Try.prog h 26 9 (.slice (some ⟨q, 0, none⟩) n c) = some (.string (strOf l), .read q) := by
  subst hn
  have hln : l.length ≠ 0 := fun h => hl (List.eq_nil_of_length_eq_zero h)
  exact bytesStr_eq (te := 5) (by kernel_rfl) (by kernel_rfl) u8_5 hln hg (slots_nums _ _ rfl) (ints_nums l)
attribute [-simp] Value.oneCell'
theorem one_int (k : IntKind) (n : Int) : Value.oneCell' (.int k n) = true := byEq rfl
theorem beqS (a : ByteArray) : (a == a) = true := by
  show ByteArray.beq a a = true
  unfold ByteArray.beq
  exact beq_self_eq_true a.data
theorem TU.all1 (t : TU) : t.row.all (·.oneCell') = true := by
  rw [List.all_eq_true]
  intro x hx
  simp only [TU.row, List.mem_cons, List.mem_append, List.not_mem_nil, or_false] at hx
  rcases hx with rfl | rfl | h | h | rfl | rfl
  · rfl
  · rfl
  · exact nums_cell _ x h
  · exact nums_cell _ x h
  · rfl
  · rfl
theorem nums_set (l : List Int) (i : Nat) (x : Int) : (nums l).set i (.int .u8 x) = nums (l.set i x) := by
  simp [nums, List.map_set]
theorem nums_get {l : List Int} {i : Nat} (h : i < l.length) : (nums l)[i]? = some (.int .u8 (l.getD i 0)) := by
  simp [nums, h]
theorem nums_getI {l : List Int} {i : Nat} (h : i < (nums l).length) : (nums l)[i]'h = .int .u8 (l.getD i 0) := by
  have h2 := h
  rw [nums_len] at h2
  simp [nums, h2]
def TU.w1 (t : TU) (k : Nat) (x : Int) : TU := { t with s := t.s.set (4 + k) x }
def TU.w2 (t : TU) (k : Nat) (x y : Int) : TU := { t with s := t.s.set (4 + k) x, d := t.d.set (4 + k) y }
section
variable {t : TU} (ok : t.okb) {k : Nat} (hk : k < 12)
include ok hk
theorem TU.ok1 {x : Int} : (t.w1 k x).ok := ⟨by simp [TU.w1, ok.s], ok.d, ok.sp, ok.dp⟩
theorem TU.okb2 {x y : Int} (hx : 0 ≤ x ∧ x < 256) (hy : 0 ≤ y ∧ y < 256) : (t.w2 k x y).okb := by
  refine ⟨⟨by simp [TU.w2, ok.s], by simp [TU.w2, ok.d], ok.sp, ok.dp⟩, ok.pr, fun n hn => ?_, fun n hn => ?_⟩
  · rcases List.mem_or_eq_of_mem_set hn with h | rfl
    · exact ok.bs n h
    · exact hx
  · rcases List.mem_or_eq_of_mem_set hn with h | rfl
    · exact ok.bd n h
    · exact hy
theorem TU.set1 (x : Int) : t.row.set (2 + (4 + k)) (.int .u8 x) = (t.w1 k x).row := by
  have := ok.s
  have e : 2 + (4 + k) = (4 + k) + 1 + 1 := by omega
  have : 4 + k < (nums t.s).length := by rw [nums_len]; omega
  rw [e]
  simp only [TU.row, List.set_cons_succ, TU.w1]
  rw [List.set_append_left _ _ this, nums_set]
theorem TU.set2 (x y : Int) : (t.w1 k x).row.set (18 + (4 + k)) (.int .u8 y) = (t.w2 k x y).row := by
  have h1 := ok.s
  have h2 := ok.d
  have e : 18 + (4 + k) = (16 + (4 + k)) + 1 + 1 := by omega
  have h3 : (nums (t.s.set (4 + k) x)).length = 16 := by rw [nums_len]; simp [h1]
  have h4 : 4 + k < (nums t.d).length := by rw [nums_len]; omega
  rw [e]
  simp only [TU.row, List.set_cons_succ, TU.w1, TU.w2]
  rw [List.set_append_right _ _ (by omega), h3, show 16 + (4 + k) - 16 = 4 + k by omega, List.set_append_left _ _ h4, nums_set]
theorem TU.bytes2 (hv : t.v6 = false) (x y : Int) : (t.w2 k x y).bytes = t.bytes := by
  simp [TU.bytes, TU.w2, TU.n, hv, List.take_set_of_le]
end
attribute [-simp] getElem?_pos
theorem law_c {h : IHeap} {t : TU} {o : Int} (ok : t.okb) (ho : 0 ≤ o ∧ o < 256) : FN Try.prog 5 #[t.val, .int .u8 o] h (Q := ⟨fun v h' => v = .bool true⟩) := by
  have bne := t.bne
  refine FN.enter mixed (fn := Try.f5) (by kernel_rfl) rfl (by kernel_rfl) fun e hn hg hd => ?_
  simp [Try.f5] at hn
  have a0 : e.get 0 = t.val := hg 0 (by omega)
  have a1 : e.get 1 = .int .u8 o := hg 1 (by omega)
  clear hg
  simp (maxSteps := 1000000) (disch := first | (simp; done) | (simp only [IHeap.size_push', IHeap.size_set']; omega) | omega) [a0, a1, hn, hd, TU.val, TU.all36 ok.took]
  refine FN.mono (bytes_c ok.took) ?_
  rintro v h1 ⟨fr1, q, hq, rfl, gq⟩
  have hqz := IHeap.get_lt gq
  have hz1 := fr1.size
  simp only [IHeap.size_push'] at hz1 hq
  have gt : h1.get h.size = some (.row false 0 t.row) := by
    rw [fr1.get _ (by (try simp only [IHeap.size_push', IHeap.size_set']); omega)]
    simp (maxSteps := 1000000) (disch := first | (simp; done) | (simp only [IHeap.size_push', IHeap.size_set']; omega) | omega) [getU]
  simp (maxSteps := 1000000) (disch := first | (simp; done) | (simp only [IHeap.size_push', IHeap.size_set']; omega) | omega) [a0, a1, hn, hd]
  rw [str26 gq rfl bne]
  simp (maxSteps := 1000000) (disch := first | (simp; done) | (simp only [IHeap.size_push', IHeap.size_set']; omega) | omega) [hn, hd, gt, TU.all36 ok.took]
  refine FN.mono (rbytes_c ok.took) ?_
  rintro v h2 ⟨fr2, q2, hq2, rfl, gq2⟩
  simp (maxSteps := 1000000) (disch := first | (simp; done) | (simp only [IHeap.size_push', IHeap.size_set']; omega) | omega) [hn, hd]
  rw [str26 gq2 rfl bne]
  have gt2 : h2.get h.size = some (.row false 0 t.row) := by
    rw [fr2.get _ (by (try simp only [IHeap.size_push', IHeap.size_set']); omega)]
    simp (maxSteps := 1000000) (disch := first | (simp; done) | (simp only [IHeap.size_push', IHeap.size_set']; omega) | omega) [getU, gt]
  have gb2 : h2.get q = some (.row false 1 (nums t.bytes)) := by
    rw [fr2.get _ (by (try simp only [IHeap.size_push', IHeap.size_set']); omega)]
    simp (maxSteps := 1000000) (disch := first | (simp; done) | (simp only [IHeap.size_push', IHeap.size_set']; omega) | omega) [getU, gq]
  simp (maxSteps := 1000000) (disch := first | (simp; done) | (simp only [IHeap.size_push', IHeap.size_set']; omega) | omega) [hn, hd, gt2, TU.all36 ok.took, beqS]
  refine FN.ct (tuple_c ok) ?_
  rintro h3 fr3
  have hz2 := fr2.size
  have gt3 : h3.get h.size = some (.row false 0 t.row) := by
    rw [fr3.get _ (by (try simp only [IHeap.size_push', IHeap.size_set']); omega)]
    simp (maxSteps := 1000000) (disch := first | (simp; done) | (simp only [IHeap.size_push', IHeap.size_set']; omega) | omega) [getU, gt2]
  have gb3 : h3.get q = some (.row false 1 (nums t.bytes)) := by
    rw [fr3.get _ (by (try simp only [IHeap.size_push', IHeap.size_set']); omega)]
    simp (maxSteps := 1000000) (disch := first | (simp; done) | (simp only [IHeap.size_push', IHeap.size_set']; omega) | omega) [getU, gb2]
  simp (maxSteps := 1000000) (disch := first | (simp; done) | (simp only [IHeap.size_push', IHeap.size_set']; omega) | omega) [hn, hd, gt3, TU.all36 ok.took]
  refine FN.ct (rtuple_c ok) ?_
  rintro h4 fr4
  have hz3 := fr3.size
  have gt4 : h4.get h.size = some (.row false 0 t.row) := by
    rw [fr4.get _ (by (try simp only [IHeap.size_push', IHeap.size_set']); omega)]
    simp (maxSteps := 1000000) (disch := first | (simp; done) | (simp only [IHeap.size_push', IHeap.size_set']; omega) | omega) [getU, gt3]
  have gb4 : h4.get q = some (.row false 1 (nums t.bytes)) := by
    rw [fr4.get _ (by (try simp only [IHeap.size_push', IHeap.size_set']); omega)]
    simp (maxSteps := 1000000) (disch := first | (simp; done) | (simp only [IHeap.size_push', IHeap.size_set']; omega) | omega) [getU, gb3]
  simp (maxSteps := 1000000) (disch := first | (simp; done) | (simp only [IHeap.size_push', IHeap.size_set']; omega) | omega) [hn, hd, gt4, TU.all36 ok.took]
  refine ⟨niC_pend [(1, 3), (8, 9)] (by kernel_rfl) ⟨?_, ?_, trivial⟩, ?_⟩
  · show h2.get q = h1.get q
    rw [gb2, gq]
  · show h3.get h.size = h2.get h.size
    rw [gt3, gt2]
  have hz4 := fr4.size
  generalize hN : t.bytes.length = N at *
  refine WPL.by_inv mixed (by kernel_rfl) (fun k e h' => ∃ (i : Nat) (l : List Int), i + k = N ∧ l.length = N ∧ e.n = 78 ∧ e.dfr = [] ∧ e.get 1 = .int .u8 o ∧ e.get 2 = .pointer (some ⟨h.size, 0, none⟩) ∧ e.get 5 = .slice (some ⟨q, 0, none⟩) N N ∧ e.get 24 = .int .i64 N ∧ e.get 25 = .int .i64 i ∧ h'.get h.size = some (.row false 0 t.row) ∧ h'.get q = some (.row false 1 (nums l))) N ?_ ?_
  · refine ⟨0, t.bytes, ?_⟩
    simp (maxSteps := 1000000) (disch := first | (simp; done) | (simp only [IHeap.size_push', IHeap.size_set']; omega) | omega) [a0, a1, hn, hd, gt4, gb4, hN]
  have hNs : N < 1000 := by rw [← hN]; exact ok.bl
  have hqs : h.size < q := by omega
  clear hn hd a0 a1 e gt4 gb4 gt3 gb3 gt2 gb2 gq2 gt gq fr1 fr2 fr3 fr4 hz1 hz2 hz3 hz4 hq2 hqz hq
  rintro k e h5 ⟨i, l, hi, hl, hn, hd, e1, e2, e5, e24, e25, gt, gq⟩
  have hqz := IHeap.get_lt gq
  cases k with
  | succ k =>
    have hlt : (i : Int) < N := by omega
    have hlt2 : i < (nums l).length := by rw [nums_len]; omega
    have hlt3 : i + 1 ≤ (nums l).length := hlt2
    simp (maxSteps := 1000000) (disch := first | (simp; done) | (simp only [IHeap.size_push', IHeap.size_set']; omega) | omega) [e1, e2, e5, e24, e25, hn, hd, hlt, gq, nums_get, nums_getI, hl, one_int, nums_set, wrap64, hlt3]
    refine ⟨k, by omega, i + 1, by omega, l.set i (IntKind.u8.wrap (l.getD i 0 + 1)), ?_⟩
    simp (maxSteps := 1000000) (disch := first | (simp; done) | (simp only [IHeap.size_push', IHeap.size_set']; omega) | omega) [e1, e2, e5, e24, e25, hn, hd, hl]
    exact gt
  | zero =>
    obtain rfl : i = N := by omega
    have hz := IHeap.get_lt gt
    obtain ⟨k, hk, hk12⟩ : ∃ k : Nat, o.tmod 12 = (k : Int) ∧ k < 12 := by
      refine ⟨(o % 12).toNat, ?_, by omega⟩
      rw [Int.tmod_eq_emod_of_nonneg ho.1]; omega
    have i0 : (0 : Int) ≤ 4 + k := by omega
    have i1 : (4 : Int) + k < 16 := by omega
    have i2 : ((4 : Int) + k).toNat = 4 + k := by omega
    have spl : ∀ cs : List Value, cs.length = 36 → splice cs 0 t.row = t.row := fun cs hc => splice_all (by rw [hc, TU.len ok.took])
    have rs := TU.rs ok.took (i := 4 + k) (by omega)
    have rd := TU.rd ok.took (i := 4 + k) (by omega)
    have all36 := TU.all36 ok.took
    have len := TU.len ok.took
    have j1 : 2 + (4 + k) ≤ 35 := by omega
    have j2 : 18 + (4 + k) ≤ 35 := by omega
    have i3 : 4 + k < 16 := by omega
    have a2 : ∀ x y : Int, slots (t.w2 k x y).row 0 36 = some (t.w2 k x y).row := fun x y => slots_all (TU.len ⟨by simp [TU.w2, ok.s], by simp [TU.w2, ok.d], ok.sp, ok.dp⟩)
    have spl2 : ∀ (x : Int) (v : Value), splice (t.w1 k x).row (18 + (4 + k)) [v] = (t.w1 k x).row.set (18 + (4 + k)) v := fun x v => splice_one v (by rw [TU.len (TU.ok1 ok hk12)]; omega)
    cases hv : t.v6
    · simp (maxSteps := 1000000) (disch := first | (simp; done) | (simp only [IHeap.size_push', IHeap.size_set']; omega) | omega) [e1, e2, e5, e24, e25, hn, hd, gt, all36, TU.all1, len, TU.r0 ok.took, hv, hk, wrap64, jidx_arr31, i0, i1, i2, rs, rd, spl, spl2, one_int, j1, j2, TU.set1 ok hk12, TU.set2 ok hk12, TU.len (TU.ok1 ok hk12), TU.rd (TU.ok1 ok hk12) i3, a2]
      generalize hx : IntKind.u8.wrap ↑((t.s[4 + k]?.getD 0 % 2 ^ IntKind.u8.bits).toNat ^^^ (o % 2 ^ IntKind.u8.bits).toNat) = x
      have hx2 : 0 ≤ x ∧ x < 256 := by rw [← hx, u8wrap]; omega
      generalize hy : IntKind.u8.wrap ↑(((t.w1 k x).d[4 + k]?.getD 0 % 2 ^ IntKind.u8.bits).toNat ^^^ (o % 2 ^ IntKind.u8.bits).toNat) = y
      have hy2 : 0 ≤ y ∧ y < 256 := by rw [← hy, u8wrap]; omega
      generalize hu : t.w2 k x y = u
      have oku : u.okb := by rw [← hu]; exact TU.okb2 ok hk12 hx2 hy2
      have hb : u.bytes = t.bytes := by rw [← hu]; exact TU.bytes2 ok hk12 hv x y
      have au := TU.all36 oku.took
      have hu0 : (h5.push (.row false 0 u.row)).get h5.size = some (.row false 0 u.row) := by simp (maxSteps := 1000000) (disch := first | (simp; done) | (simp only [IHeap.size_push', IHeap.size_set']; omega) | omega) []
      have ht0 : (h5.push (.row false 0 u.row)).get h.size = some (.row false 0 t.row) := by simp (maxSteps := 1000000) (disch := first | (simp; done) | (simp only [IHeap.size_push', IHeap.size_set']; omega) | omega) [gt]
      have hs0 : (h5.push (.row false 0 u.row)).size = h5.size + 1 := by simp only [IHeap.size_push']
      generalize h5.push (.row false 0 u.row) = g0 at hu0 ht0 hs0 ⊢
      refine FN.ct (tuple_c oku) ?_
      rintro g1 f1
      have z1 := f1.size
      have u1 : g1.get h5.size = some (.row false 0 u.row) := by
        rw [f1.get _ (by (try simp only [IHeap.size_push', IHeap.size_set']); omega)]
        simp (maxSteps := 1000000) (disch := first | (simp; done) | (simp only [IHeap.size_push', IHeap.size_set']; omega) | omega) [getU, hu0]
      have t1 : g1.get h.size = some (.row false 0 t.row) := by
        rw [f1.get _ (by (try simp only [IHeap.size_push', IHeap.size_set']); omega)]
        simp (maxSteps := 1000000) (disch := first | (simp; done) | (simp only [IHeap.size_push', IHeap.size_set']; omega) | omega) [getU, ht0]
      simp (maxSteps := 1000000) (disch := first | (simp; done) | (simp only [IHeap.size_push', IHeap.size_set']; omega) | omega) [hn, hd, t1, e2, all36]
      refine FN.ct (tuple_c ok) ?_
      rintro g2 f2
      have z2 := f2.size
      have u2 : g2.get h5.size = some (.row false 0 u.row) := by
        rw [f2.get _ (by (try simp only [IHeap.size_push', IHeap.size_set']); omega)]
        simp (maxSteps := 1000000) (disch := first | (simp; done) | (simp only [IHeap.size_push', IHeap.size_set']; omega) | omega) [getU, u1]
      have t2 : g2.get h.size = some (.row false 0 t.row) := by
        rw [f2.get _ (by (try simp only [IHeap.size_push', IHeap.size_set']); omega)]
        simp (maxSteps := 1000000) (disch := first | (simp; done) | (simp only [IHeap.size_push', IHeap.size_set']; omega) | omega) [getU, t1]
      simp (maxSteps := 1000000) (disch := first | (simp; done) | (simp only [IHeap.size_push', IHeap.size_set']; omega) | omega) [hn, hd, u2, e2, au, hb]
      refine FN.mono (bytes_c oku.took) ?_
      rintro v g3 ⟨f3, p, hp, rfl, gp⟩
      have z3 := f3.size
      have u3 : g3.get h5.size = some (.row false 0 u.row) := by
        rw [f3.get _ (by (try simp only [IHeap.size_push', IHeap.size_set']); omega)]
        simp (maxSteps := 1000000) (disch := first | (simp; done) | (simp only [IHeap.size_push', IHeap.size_set']; omega) | omega) [getU, u2]
      have t3 : g3.get h.size = some (.row false 0 t.row) := by
        rw [f3.get _ (by (try simp only [IHeap.size_push', IHeap.size_set']); omega)]
        simp (maxSteps := 1000000) (disch := first | (simp; done) | (simp only [IHeap.size_push', IHeap.size_set']; omega) | omega) [getU, t2]
      rw [hb] at gp ⊢
      simp (maxSteps := 1000000) (disch := first | (simp; done) | (simp only [IHeap.size_push', IHeap.size_set']; omega) | omega) [hn, hd]
      rw [str26 gp rfl bne]
      simp (maxSteps := 1000000) (disch := first | (simp; done) | (simp only [IHeap.size_push', IHeap.size_set']; omega) | omega) [hn, hd, t3, e2, all36]
      refine FN.mono (rbytes_c ok.took) ?_
      rintro v g4 ⟨f4, p2, hp2, rfl, gp2⟩
      have hpz := IHeap.get_lt gp
      have z4 := f4.size
      have gp4 : g4.get p = some (.row false 1 (nums t.bytes)) := by
        rw [f4.get _ (by (try simp only [IHeap.size_push', IHeap.size_set']); omega)]
        simp (maxSteps := 1000000) (disch := first | (simp; done) | (simp only [IHeap.size_push', IHeap.size_set']; omega) | omega) [getU, gp]
      have t4 : g4.get h.size = some (.row false 0 t.row) := by
        rw [f4.get _ (by (try simp only [IHeap.size_push', IHeap.size_set']); omega)]
        simp (maxSteps := 1000000) (disch := first | (simp; done) | (simp only [IHeap.size_push', IHeap.size_set']; omega) | omega) [getU, t3]
      simp (maxSteps := 1000000) (disch := first | (simp; done) | (simp only [IHeap.size_push', IHeap.size_set']; omega) | omega) [hn, hd]
      rw [str26 gp2 rfl bne]
      simp (maxSteps := 1000000) (disch := first | (simp; done) | (simp only [IHeap.size_push', IHeap.size_set']; omega) | omega) [hn, hd, beqS]
      refine FN.of known_c ?_
      simp (maxSteps := 1000000) (disch := first | (simp; done) | (simp only [IHeap.size_push', IHeap.size_set']; omega) | omega) [hn, hd]
      refine niC_pend [(1, 2), (7, 9), (8, 10)] (by kernel_rfl) ⟨?_, ?_, ?_, trivial⟩
      · show g1.get h.size = g0.get h.size
        rw [t1, ht0]
      · show g3.get h.size = g2.get h.size
        rw [t3, t2]
      · show g4.get p = g3.get p
        rw [gp4, gp]
    · simp (maxSteps := 1000000) (disch := first | (simp; done) | (simp only [IHeap.size_push', IHeap.size_set']; omega) | omega) [e1, e2, e5, e24, e25, hn, hd, gt, all36, TU.all1, len, TU.r0 ok.took, hv, spl]
      have oku := ok
      have hb : t.bytes = t.bytes := rfl
      have au := TU.all36 ok.took
      have hu0 : (h5.push (.row false 0 t.row)).get h5.size = some (.row false 0 t.row) := by simp (maxSteps := 1000000) (disch := first | (simp; done) | (simp only [IHeap.size_push', IHeap.size_set']; omega) | omega) []
      have ht0 : (h5.push (.row false 0 t.row)).get h.size = some (.row false 0 t.row) := by simp (maxSteps := 1000000) (disch := first | (simp; done) | (simp only [IHeap.size_push', IHeap.size_set']; omega) | omega) [gt]
      have hs0 : (h5.push (.row false 0 t.row)).size = h5.size + 1 := by simp only [IHeap.size_push']
      generalize h5.push (.row false 0 t.row) = g0 at hu0 ht0 hs0 ⊢
      refine FN.ct (tuple_c ok) ?_
      rintro g1 f1
      have z1 := f1.size
      have u1 : g1.get h5.size = some (.row false 0 t.row) := by
        rw [f1.get _ (by (try simp only [IHeap.size_push', IHeap.size_set']); omega)]
        simp (maxSteps := 1000000) (disch := first | (simp; done) | (simp only [IHeap.size_push', IHeap.size_set']; omega) | omega) [getU, hu0]
      have t1 : g1.get h.size = some (.row false 0 t.row) := by
        rw [f1.get _ (by (try simp only [IHeap.size_push', IHeap.size_set']); omega)]
        simp (maxSteps := 1000000) (disch := first | (simp; done) | (simp only [IHeap.size_push', IHeap.size_set']; omega) | omega) [getU, ht0]
      simp (maxSteps := 1000000) (disch := first | (simp; done) | (simp only [IHeap.size_push', IHeap.size_set']; omega) | omega) [hn, hd, t1, e2, all36]
      refine FN.ct (tuple_c ok) ?_
      rintro g2 f2
      have z2 := f2.size
      have u2 : g2.get h5.size = some (.row false 0 t.row) := by
        rw [f2.get _ (by (try simp only [IHeap.size_push', IHeap.size_set']); omega)]
        simp (maxSteps := 1000000) (disch := first | (simp; done) | (simp only [IHeap.size_push', IHeap.size_set']; omega) | omega) [getU, u1]
      have t2 : g2.get h.size = some (.row false 0 t.row) := by
        rw [f2.get _ (by (try simp only [IHeap.size_push', IHeap.size_set']); omega)]
        simp (maxSteps := 1000000) (disch := first | (simp; done) | (simp only [IHeap.size_push', IHeap.size_set']; omega) | omega) [getU, t1]
      simp (maxSteps := 1000000) (disch := first | (simp; done) | (simp only [IHeap.size_push', IHeap.size_set']; omega) | omega) [hn, hd, u2, e2, au]
      refine FN.mono (bytes_c ok.took) ?_
      rintro v g3 ⟨f3, p, hp, rfl, gp⟩
      have z3 := f3.size
      have u3 : g3.get h5.size = some (.row false 0 t.row) := by
        rw [f3.get _ (by (try simp only [IHeap.size_push', IHeap.size_set']); omega)]
        simp (maxSteps := 1000000) (disch := first | (simp; done) | (simp only [IHeap.size_push', IHeap.size_set']; omega) | omega) [getU, u2]
      have t3 : g3.get h.size = some (.row false 0 t.row) := by
        rw [f3.get _ (by (try simp only [IHeap.size_push', IHeap.size_set']); omega)]
        simp (maxSteps := 1000000) (disch := first | (simp; done) | (simp only [IHeap.size_push', IHeap.size_set']; omega) | omega) [getU, t2]
      simp (maxSteps := 1000000) (disch := first | (simp; done) | (simp only [IHeap.size_push', IHeap.size_set']; omega) | omega) [hn, hd]
      rw [str26 gp rfl bne]
      simp (maxSteps := 1000000) (disch := first | (simp; done) | (simp only [IHeap.size_push', IHeap.size_set']; omega) | omega) [hn, hd, t3, e2, all36]
      refine FN.mono (rbytes_c ok.took) ?_
      rintro v g4 ⟨f4, p2, hp2, rfl, gp2⟩
      have hpz := IHeap.get_lt gp
      have z4 := f4.size
      have gp4 : g4.get p = some (.row false 1 (nums t.bytes)) := by
        rw [f4.get _ (by (try simp only [IHeap.size_push', IHeap.size_set']); omega)]
        simp (maxSteps := 1000000) (disch := first | (simp; done) | (simp only [IHeap.size_push', IHeap.size_set']; omega) | omega) [getU, gp]
      have t4 : g4.get h.size = some (.row false 0 t.row) := by
        rw [f4.get _ (by (try simp only [IHeap.size_push', IHeap.size_set']); omega)]
        simp (maxSteps := 1000000) (disch := first | (simp; done) | (simp only [IHeap.size_push', IHeap.size_set']; omega) | omega) [getU, t3]
      simp (maxSteps := 1000000) (disch := first | (simp; done) | (simp only [IHeap.size_push', IHeap.size_set']; omega) | omega) [hn, hd]
      rw [str26 gp2 rfl bne]
      simp (maxSteps := 1000000) (disch := first | (simp; done) | (simp only [IHeap.size_push', IHeap.size_set']; omega) | omega) [hn, hd, beqS]
      refine FN.of known_c ?_
      simp (maxSteps := 1000000) (disch := first | (simp; done) | (simp only [IHeap.size_push', IHeap.size_set']; omega) | omega) [hn, hd]
      refine niC_pend [(1, 2), (7, 9), (8, 10)] (by kernel_rfl) ⟨?_, ?_, ?_, trivial⟩
      · show g1.get h.size = g0.get h.size
        rw [t1, ht0]
      · show g3.get h.size = g2.get h.size
        rw [t3, t2]
      · show g4.get p = g3.get p
        rw [gp4, gp]
end Go.Proofs.Ytmeonhnaadjamaa.Ideal
