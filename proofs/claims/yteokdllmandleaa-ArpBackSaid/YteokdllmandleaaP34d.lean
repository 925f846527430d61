import Derived.Test.YteokdllmandleaaP34c
noncomputable section
open Go.Proofs
namespace Go.Proofs.Yteokdllmandleaa.Ideal
open Go.RowKit
set_option linter.unusedSimpArgs false
set_option linter.unusedVariables false
set_option linter.unusedSectionVars false
set_option maxRecDepth 100000
set_option maxHeartbeats 4000000
attribute [-simp] IHeap.size_set IHeap.size_push
attribute [local simp ↓] Hid.ap_mk
attribute [local simp] scopeQ_normal scopeQ_ret scopeQ_exit WP_skip WP_label WP_exit WP_goto WP_ret WP_region WP_seq WP_cond WP_block WP_scope WP_loop WP_range thenQ_normal thenQ_ret thenQ_exit thenQ_goto loopQ_normal loopQ_ret loopQ_exit invQ_normal invQ_ret invQ_exit outOf_normal outOf_ret outOf_goto outOf_exit ev_tmp ev_const ev_func
  wops_nil wops_cons wantedE_none wantedE_some jgd_some wnx_eq niC_false wdo_move wdo_assign wdo_pick wdo_load wdo_store wdo_alloc wdo_box wdo_fieldAddr wdo_indexAddr wdo_field wdo_extract wdo_build wdo_buildSlice wdo_makeSlice wdo_binOp wdo_unOp wdo_makeFunc wdo_nilCheck wdo_callV wdo_len wdo_append wdo_copy wdo_delete wdo_max wdo_min wdo_convert jcvt_int
  xput_get put_n put_none put_dfr ibin finQ_n finQ_r finD_nil splice_one ires_nil ires_one ires_two ires_three ires1_tmp ires1_cell jcell_ptr rowLoad_row wrap64 wrapU64 wrapU8 wrapU16 wrapU32 callV_fn buildOf Instr.fill Value.cells Value.oneCell' kindOf slots_all splice_all IHeap.size_set' IHeap.size_push' IHeap.get_set_same IHeap.get_set_ne IHeap.get_pushed IHeap.get_push_ne IHeap.set_set IHeap.set_push IHeap.set_pushed IHeap.set_set3 getU_nil getU_same getU_ne jif_true jif_false pushH_eq setH_eq forceL_eq forceV_eq ibuildSlice
attribute [local simp] wdo_index jopt_some wdo_cut33 wdo_all23 wdo_all24 arrAll
attribute [-simp] Value.oneCell'
attribute [local simp] one_int' one_slc'
theorem fdiv_pow (m k : Nat) (hk : k < 64) : (m : Int).fdiv (2 ^ min k IntKind.u64.bits) = ((m / 2 ^ k : Nat) : Int) := by
  rw [show min k IntKind.u64.bits = k from Nat.min_eq_left (by show k ≤ 64; omega), Int.fdiv_eq_ediv_of_nonneg _ (by exact_mod_cast Nat.zero_le _)]
  push_cast
  rfl
theorem mask32 {a : Nat} (h : a < 4294967296) : IntKind.u64.wrap ((a % 2 ^ IntKind.u64.bits &&& 4294967295 % 2 ^ IntKind.u64.bits : Nat) : Int) = a := by
  have e1 : a % 2 ^ IntKind.u64.bits = a := Nat.mod_eq_of_lt (by show a < 2 ^ 64; omega)
  have e2 : 4294967295 % 2 ^ IntKind.u64.bits = 2 ^ 32 - 1 := by decide
  rw [e1, e2, Nat.and_two_pow_sub_one_eq_mod, Nat.mod_eq_of_lt (by omega)]
  exact wrapU64 (by omega) (by omega)
theorem mul64_one {h : IHeap} {b : Nat} (hb : b ≤ 65536) : ICall Try.prog 30 #[.int .u64 1, .int .u64 b] h (.tuple #[.int .u64 0, .int .u64 b]) h := by
  refine ICall.of_FN ?_
  refine FN.enter mixed (fn := Try.f30) (by kernel_rfl) rfl (by kernel_rfl) fun e hn hg hd => ?_
  simp [Try.f30] at hn
  have a0 : e.get 0 = .int .u64 1 := hg 0 (by omega)
  have a1 : e.get 1 = .int .u64 b := hg 1 (by omega)
  clear hg
  have am : IntKind.u64.wrap ((1 % 2 ^ IntKind.u64.bits &&& 4294967295 % 2 ^ IntKind.u64.bits : Nat) : Int) = 1 := mask32 (a := 1) (by omega)
  have bm := mask32 (a := b) (by omega)
  have zm : IntKind.u64.wrap ((0 % 2 ^ IntKind.u64.bits &&& 4294967295 % 2 ^ IntKind.u64.bits : Nat) : Int) = 0 := mask32 (a := 0) (by omega)
  have bz : (b : Int) / 4294967296 = 0 := by omega
  have w1 : IntKind.u64.wrap (b : Int) = (b : Int) := wrapU64 (by omega) (by omega)
  have pz : (b : Int).fdiv (2 ^ min 32 IntKind.u64.bits) = 0 := by rw [fdiv_pow _ 32 (by omega)]; omega
  have oz : (1 : Int).fdiv (2 ^ min 32 IntKind.u64.bits) = 0 := by rw [show (1 : Int) = ((1 : Nat) : Int) from rfl, fdiv_pow _ 32 (by omega)]; rfl
  have zz : (0 : Int).fdiv (2 ^ min 32 IntKind.u64.bits) = 0 := Int.zero_fdiv _
  simp (maxSteps := 1000000) (disch := first | (simp; done) | (simp only [IHeap.size_push', IHeap.size_set']; omega) | omega) [a0, a1, hn, hd, fdiv_pow, am, bm, zm, bz, w1, pz, zz, oz]
theorem mul_one_c {h : IHeap} {b : Nat} (hb : b ≤ 65536) : ICall Try.prog 28 #[.int .u64 1, .int .u64 b] h (.tuple #[.int .u64 0, .int .u64 b]) h := by
  refine ICall.of_FN ?_
  refine FN.enter mixed (fn := Try.f28) (by kernel_rfl) rfl (by kernel_rfl) fun e hn hg hd => ?_
  simp [Try.f28] at hn
  have a0 : e.get 0 = .int .u64 1 := hg 0 (by omega)
  have a1 : e.get 1 = .int .u64 b := hg 1 (by omega)
  clear hg
  simp (maxSteps := 1000000) (disch := first | (simp; done) | (simp only [IHeap.size_push', IHeap.size_set']; omega) | omega) [a0, a1, hn, hd]
  refine FN.of (mul64_one hb) ?_
  simp (maxSteps := 1000000) (disch := first | (simp; done) | (simp only [IHeap.size_push', IHeap.size_set']; omega) | omega) [a0, a1, hn, hd]
theorem mk_bys {h : IHeap} (n : Nat) (hn : n ≤ 70000) : imakeSlice Try.prog h 33 (.int .i64 n) (.int .i64 n) = some (.slice (some ⟨h.size, 0, none⟩) n n, h.push (.row false 1 (bys (List.replicate n 0))), .alloc) := by
  have h2 : (0 : Int) ≤ n := by omega
  have h3 : (n : Int) < 9223372036854775808 := by omega
  have h4 : (n : Int) ≤ 140737488355328 := by omega
  have e : zeros #[Value.int .u8 0] n = bys (List.replicate n 0) := by
    apply List.ext_getElem?
    intro j
    by_cases hj : j < n
    · simp [zeros, bys, hj]
    · simp [zeros, bys, hj]
  unfold imakeSlice
  simp [h2, h3, h4, e]
theorem repeat6_c {h : IHeap} {p : Nat} (hp : h.get p = some (.row false 1 [.int .u8 255])) :
    FN Try.prog 23 #[.slice (some ⟨p, 0, none⟩) 1 1, .int .i64 6] h (Q := ⟨fun v h' => v = .slice (some ⟨h.size, 0, none⟩) 6 6 ∧ h'.size = h.size + 1 ∧ h'.get h.size = some (.row false 1 (bys [255, 255, 255, 255, 255, 255])) ∧ ∀ i, i < h.size → h'.get i = h.get i⟩) := by
  refine FN.enter mixed (fn := Try.f23) (by kernel_rfl) rfl (by kernel_rfl) fun e hn hg hd => ?_
  simp [Try.f23] at hn
  have a0 : e.get 0 = .slice (some ⟨p, 0, none⟩) 1 1 := hg 0 (by omega)
  have a1 : e.get 1 = .int .i64 6 := hg 1 (by omega)
  clear hg
  have hpz := IHeap.get_lt hp
  have mk := mk_bys (h := h) 6 (by omega)
  rw [show ((6 : Nat) : Int) = 6 from rfl] at mk
  simp (maxSteps := 1000000) (disch := first | (simp; done) | (simp only [IHeap.size_push', IHeap.size_set']; omega) | omega) [a0, a1, hn, hd, wrapU64]
  refine FN.of (mul_one_c (b := 6) (by omega)) ?_
  simp (maxSteps := 1000000) (disch := first | (simp; done) | (simp only [IHeap.size_push', IHeap.size_set']; omega) | omega) [a0, a1, hn, hd, wrapU64, wrap64, mk, icopy, srcOf, slots, hp, bys, List.replicate, splice]
  refine WPL.unroll mixed (by kernel_rfl) ?_
  simp (maxSteps := 1000000) (disch := first | (simp; done) | (simp only [IHeap.size_push', IHeap.size_set']; omega) | omega) [a0, a1, hn, hd, cutN, cutV, islice, bounds, bnd, cutAddr, icopy, srcOf, slots, bys, splice, kindOf, wrap64]
  refine ⟨niC_pend [] (by kernel_rfl) trivial, ?_⟩
  refine WPL.unroll mixed (by kernel_rfl) ?_
  simp (maxSteps := 1000000) (disch := first | (simp; done) | (simp only [IHeap.size_push', IHeap.size_set']; omega) | omega) [a0, a1, hn, hd, cutN, cutV, islice, bounds, bnd, cutAddr, icopy, srcOf, slots, bys, splice, kindOf, wrap64]
  refine ⟨niC_pend [] (by kernel_rfl) trivial, ?_⟩
  refine WPL.unroll mixed (by kernel_rfl) ?_
  simp (maxSteps := 1000000) (disch := first | (simp; done) | (simp only [IHeap.size_push', IHeap.size_set']; omega) | omega) [a0, a1, hn, hd, cutN, cutV, islice, bounds, bnd, cutAddr, icopy, srcOf, slots, bys, splice, kindOf, wrap64]
  refine ⟨niC_pend [] (by kernel_rfl) trivial, ?_⟩
  refine WPL.unroll mixed (by kernel_rfl) ?_
  simp (maxSteps := 1000000) (disch := first | (simp; done) | (simp only [IHeap.size_push', IHeap.size_set']; omega) | omega) [a0, a1, hn, hd, cutN, cutV, islice, bounds, bnd, cutAddr, icopy, srcOf, slots, bys, splice, kindOf, wrap64]
  exact fun i hi => by rw [IHeap.get_push_ne _ (by omega)]
/-- A frame's head. -/
structure ER where
  dst : List Nat
  src : List Nat
  l1 : dst.length = 6
  l2 : src.length = 6
def ER.row (a : ER) : List Value := bys (a.dst ++ a.src) ++ [.int .u16 2054]
def ER.val (a : ER) : Value := .agg a.row.toArray
def ER.wl (a : ER) (l : List Nat) : List Nat := a.dst ++ a.src ++ [8, 6] ++ l
theorem ER.row_len (a : ER) : a.row.length = 13 := by simp [ER.row, bys_len, a.l1, a.l2]
theorem ER.row_one (a : ER) : a.row.all (·.oneCell') = true := by
  unfold ER.row
  rw [List.all_append, bys_all]
  rfl
theorem slots_left {xs ys : List Value} {o n : Nat} (h : o + n ≤ xs.length) : slots (xs ++ ys) o n = slots xs o n := by
  unfold slots
  rw [if_pos (by rw [List.length_append]; omega), if_pos h]
  congr 1
  rw [List.drop_append_of_le_length (by omega), List.take_append_of_le_length (by rw [List.length_drop]; omega)]
theorem ER.sdst (a : ER) : slots a.row 0 6 = some (bys a.dst) := by
  rw [ER.row, slots_left (by rw [bys_len, List.length_append, a.l1, a.l2]; omega), slots_bys (by rw [List.length_append, a.l1, a.l2]; omega)]
  congr 2
  unfold sub
  rw [List.drop_zero, List.take_left' a.l1]
theorem ER.ssrc (a : ER) : slots a.row 6 6 = some (bys a.src) := by
  rw [ER.row, slots_left (by rw [bys_len, List.length_append, a.l1, a.l2]; omega), slots_bys (by rw [List.length_append, a.l1, a.l2]; omega)]
  congr 2
  unfold sub
  rw [List.drop_left' a.l1, List.take_of_length_le (by have := a.l2; omega)]
theorem ER.get12 (a : ER) : a.row[12]? = some (.int .u16 2054) := by
  unfold ER.row
  rw [List.getElem?_append_right (by rw [bys_len, List.length_append, a.l1, a.l2]; omega), bys_len, List.length_append, a.l1, a.l2]
  rfl
/-- What is written: a frame in a row of its own. -/
def EwV (h : IHeap) (a : ER) (l : List Nat) (v : Value) (h' : IHeap) : Prop := h.size ≤ h'.size ∧ (∀ i, i < h.size → h'.get i = h.get i) ∧ ∃ r, v = .tuple #[.slice (some ⟨r, 0, none⟩) (14 + l.length) (14 + l.length), .int .i64 0] ∧ h.size ≤ r ∧ h'.get r = some (.row false 1 (bys (a.wl l)))
theorem ewrite_c {h : IHeap} {r c : Nat} {ro : Bool} {z : Nat} (a : ER) {l : List Nat} (hl : l.length ≤ 1000) (gr : h.get r = some (.row ro z (bys l))) : FN Try.prog 24 #[a.val, .slice (some ⟨r, 0, none⟩) l.length c] h (Q := ⟨fun v h' => EwV h a l v h'⟩) := by
  refine FN.enter mixed (fn := Try.f24) (by kernel_rfl) rfl (by kernel_rfl) fun e hn hg hd => ?_
  simp [Try.f24] at hn
  have a0 : e.get 0 = a.val := hg 0 (by omega)
  have a1 : e.get 1 = .slice (some ⟨r, 0, none⟩) l.length c := hg 1 (by omega)
  clear hg
  have rz := IHeap.get_lt gr
  have c1 : ¬ (1646 : Int) < l.length := by omega
  have g12 := a.get12
  have rl := a.row_len
  have g12' : ∀ hh, a.row[12]'hh = .int .u16 2054 := fun hh => by rw [List.getElem?_eq_getElem hh] at g12; injection g12
  have l1 := a.l1
  have l2 := a.l2
  obtain ⟨H, hH⟩ : ∃ H, H = (h.push (.row false 0 a.row)).push (.row false 1 (bys [])) := ⟨_, rfl⟩
  have Hz : H.size = h.size + 2 := by rw [hH]; simp only [IHeap.size_push']
  have H0 : H.get h.size = some (.row false 0 a.row) := by rw [hH, IHeap.get_push_ne _ (by simp only [IHeap.size_push']; omega)]; exact IHeap.get_pushed _ rfl
  have H1 : H.get (h.size + 1) = some (.row false 1 (bys [])) := by rw [hH]; exact IHeap.get_pushed _ (by simp only [IHeap.size_push'])
  have Ho : ∀ i, i < h.size → H.get i = h.get i := fun i hi => by rw [hH, IHeap.get_push_ne _ (by simp only [IHeap.size_push']; omega), IHeap.get_push_ne _ (by omega)]
  obtain ⟨h2, j2, ap2, r2, k2, z2, f2⟩ := app33 (h := H) (i := h.size + 1) (n := 0) (m := 6) (cs := []) (news := a.dst) (x := .slice (some ⟨h.size, 0, none⟩) 6 6) (src33 H0 a.sdst (by rw [bys_len, l1])) l1 H1 rfl (by omega)
  simp only [Nat.zero_add, List.nil_append] at ap2 r2
  have h20 : h2.get h.size = some (.row false 0 a.row) := by rw [k2 _ (by omega) (by omega)]; exact H0
  obtain ⟨h3, j3, ap3, r3, k3, z3, f3⟩ := app33 (h := h2) (i := j2) (n := 6) (m := 6) (cs := a.dst) (news := a.src) (x := .slice (some ⟨h.size, 6, none⟩) 6 6) (src33 h20 a.ssrc (by rw [bys_len, l2])) l2 r2 l1 (by omega)
  have h30 : h3.get h.size = some (.row false 0 a.row) := by rw [k3 _ (by omega) (by omega)]; exact h20
  have j3z := IHeap.get_lt r3
  have r3' : (h3.push (.row false 1 (bys [8, 6]))).get j3 = some (.row false 1 (bys (a.dst ++ a.src))) := by rw [IHeap.get_push_ne _ (by omega)]; exact r3
  obtain ⟨h4, j4, ap4, r4, k4, z4, f4⟩ := app33 (h := h3.push (.row false 1 (bys [8, 6]))) (i := j3) (n := 12) (m := 2) (cs := a.dst ++ a.src) (news := [8, 6]) (x := .slice (some ⟨h3.size, 0, none⟩) 2 2) (src33 (IHeap.get_pushed _ rfl) (slots_full _ rfl) rfl) rfl r3' (by rw [List.length_append, l1, l2]) (by omega)
  simp only [IHeap.size_push'] at k4 z4 f4
  have o4 : ∀ i, i < h.size → h4.get i = h.get i := fun i hi => by
    rw [k4 i (by omega) (by omega), IHeap.get_push_ne _ (by omega), k3 i (by omega) (by omega), k2 i (by omega) (by omega), Ho i hi]
  have gr4 : h4.get r = some (.row ro z (bys l)) := by rw [o4 r rz]; exact gr
  obtain ⟨h5, j5, ap5, r5, k5, z5, f5⟩ := app33 (h := h4) (i := j4) (n := 14) (m := l.length) (cs := a.dst ++ a.src ++ [8, 6]) (news := l) (x := .slice (some ⟨r, 0, none⟩) l.length c) (src33 gr4 (slots_full _ (by rw [bys_len])) (by rw [bys_len])) rfl r4 (by simp [l1, l2]) (by omega)
  have eb : [Value.int .u8 8, .int .u8 6] = bys [8, 6] := rfl
  have ez : zeros #[Value.int .u8 0] 0 = bys [] := rfl
  have ez2 : zeros #[Value.int .u8 0] 2 = [Value.int .u8 0, .int .u8 0] := rfl
  simp (maxSteps := 1000000) (disch := first | (simp; done) | (simp only [IHeap.size_push', IHeap.size_set']; omega) | omega) [a0, a1, hn, hd, ER.val, a.row_one, c1, rl, ez]
  rw [← hH]
  simp (maxSteps := 1000000) (disch := first | (simp; done) | (simp only [IHeap.size_push', IHeap.size_set']; omega) | omega) [a0, a1, hn, hd, ap2, ap3, h30, g12, g12', ez2]
  rw [show [Value.int .u8 (IntKind.u8.wrap (Int.fdiv 2054 (2 ^ min 8 IntKind.u16.bits))), Value.int .u8 (IntKind.u8.wrap 2054)] = bys [8, 6] from rfl, ap4]
  simp (maxSteps := 1000000) (disch := first | (simp; done) | (simp only [IHeap.size_push', IHeap.size_set']; omega) | omega) [a0, a1, hn, hd, ap5]
  refine ⟨niC_pend [] (by kernel_rfl) trivial, ⟨by omega, fun i hi => by rw [k5 i (by omega) (by omega)]; exact o4 i hi, j5, rfl, by omega, ?_⟩⟩
  rw [r5]
  unfold ER.wl
  rfl
def fillT (b x : List Nat) (j : Nat) (rest : List Nat) : List Nat := b ++ (x.take j ++ (List.replicate (x.length - j) 0 ++ rest))
theorem fillT_set {b x rest : List Nat} {j n : Nat} (hb : b.length = n) (h : j < x.length) : (fillT b x j rest).set (n + j) x[j] = fillT b x (j + 1) rest := by
  unfold fillT
  rw [List.set_append_right _ _ (by omega), show n + j - b.length = j by omega, List.set_append_right _ _ (by rw [List.length_take]; omega), List.length_take, Nat.min_eq_left (by omega), Nat.sub_self, List.take_succ_eq_append_getElem h, List.append_assoc]
  congr 2
  rw [show x.length - j = (x.length - (j + 1)) + 1 by omega, List.replicate_succ]
  rfl
theorem fillT_len {b x rest : List Nat} {j : Nat} (h : j ≤ x.length) : (fillT b x j rest).length = b.length + x.length + rest.length := by
  unfold fillT
  simp
  omega
theorem fillT_all {b x rest : List Nat} {n : Nat} (h : x.length = n) : fillT b x n rest = b ++ x ++ rest := by
  unfold fillT
  rw [List.take_of_length_le (by omega), h, Nat.sub_self]
  simp
theorem fillT_rest {b x rest : List Nat} {j i v n : Nat} (hn : b.length + x.length = n) (h : j ≤ x.length) : (fillT b x j rest).set (n + i) v = fillT b x j (rest.set i v) := by
  unfold fillT
  have h1 : (x.take j).length = j := by rw [List.length_take]; omega
  rw [List.set_append_right _ _ (by omega), List.set_append_right _ _ (by omega), List.set_append_right _ _ (by rw [List.length_replicate]; omega), h1, List.length_replicate]
  congr 4
  omega
theorem splice_bys {l : List Nat} {i x : Nat} (h : i < l.length) : splice (bys l) i [.int .u8 x] = bys (l.set i x) := by
  rw [splice_one _ (by rw [bys_len]; exact h)]
  simp [bys, List.map_set]
theorem rewrite02_c {h : IHeap} {r c : Nat} {ro : Bool} {z : Nat} (a : ER) {l : List Nat} (hl : l.length ≤ 1000) (gr : h.get r = some (.row ro z (bys l))) : FN Try.prog 25 #[a.val, .slice (some ⟨r, 0, none⟩) l.length c] h (Q := ⟨fun v h' => EwV h a l v h'⟩) := by
  refine FN.enter mixed (fn := Try.f25) (by kernel_rfl) rfl (by kernel_rfl) fun e hn hg hd => ?_
  simp [Try.f25] at hn
  have a0 : e.get 0 = a.val := hg 0 (by omega)
  have a1 : e.get 1 = .slice (some ⟨r, 0, none⟩) l.length c := hg 1 (by omega)
  clear hg
  have rz := IHeap.get_lt gr
  have c1 : ¬ (1660 : Int) < l.length + 14 := by omega
  have g12 := a.get12
  have rl := a.row_len
  have g12' : ∀ hh, a.row[12]'hh = .int .u16 2054 := fun hh => by rw [List.getElem?_eq_getElem hh] at g12; injection g12
  have l1 := a.l1
  have l2 := a.l2
  obtain ⟨N, hN⟩ : ∃ N, 14 + l.length = N := ⟨_, rfl⟩
  have cN : (14 : Int) + l.length = N := by omega
  have mk : ∀ h, imakeSlice Try.prog h 33 (.int .i64 N) (.int .i64 N) = _ := fun h => mk_bys (h := h) N (by omega)
  simp (maxSteps := 1000000) (disch := first | (simp; done) | (simp only [IHeap.size_push', IHeap.size_set']; omega) | omega) [a0, a1, hn, hd, ER.val, a.row_one, c1, wrap64, cN, mk]
  refine WPL.by_inv mixed (by kernel_rfl) (fun y e h' => ∃ j : Nat, j + y = 6 ∧ e.n = 63 ∧ e.dfr = [] ∧ e.get 1 = .slice (some ⟨r, 0, none⟩) l.length c ∧ e.get 2 = .pointer (some ⟨h.size, 0, none⟩) ∧ e.get 6 = .slice (some ⟨h.size + 1, 0, none⟩) N N ∧ e.get 7 = .int .i64 j ∧ h'.size = h.size + 2 ∧ (∀ i, i < h.size → h'.get i = h.get i) ∧ h'.get h.size = some (.row false 0 a.row) ∧ h'.get (h.size + 1) = some (.row false 1 (bys (fillT [] a.dst j (fillT [] a.src j (List.replicate (2 + l.length) 0)))))) 6 ?_ ?_
  · refine ⟨0, ?_⟩
    simp (maxSteps := 1000000) (disch := first | (simp; done) | (simp only [IHeap.size_push', IHeap.size_set']; omega) | omega) [a0, a1, hn, hd]
    refine ⟨fun i hi => by rw [IHeap.get_push_ne _ (by simp only [IHeap.size_push']; omega), IHeap.get_push_ne _ (by omega)], ?_⟩
    congr 1
    unfold fillT
    rw [l1, l2, ← hN]
    simp only [List.take_zero, List.nil_append, Nat.sub_zero, List.replicate_append_replicate]
    congr 1
    omega
  clear hn hd a0 a1 e
  rintro y e h1 ⟨j, hj, hn, hd, e1, e2, e6, e7, z1, o1, g0, g1⟩
  cases y with
  | succ y =>
    have hlt : j < 6 := by omega
    have hlt2 : (j : Int) < 6 := by omega
    have d1 : j < a.dst.length := by omega
    have s1 : j < a.src.length := by omega
    have gd := slots_at a.sdst (j := j) hlt
    have gs := slots_at a.ssrc (j := j) hlt
    rw [bys_at d1, Nat.zero_add] at gd
    rw [bys_at s1] at gs
    have gd' : ∀ hh, a.row[j]'hh = .int .u8 (a.dst[j] : Nat) := fun hh => by rw [List.getElem?_eq_getElem hh] at gd; injection gd
    have gs' : ∀ hh, a.row[6 + j]'hh = .int .u8 (a.src[j] : Nat) := fun hh => by rw [List.getElem?_eq_getElem hh] at gs; injection gs
    obtain ⟨X, hX⟩ : ∃ X, fillT [] a.dst j (fillT [] a.src j (List.replicate (2 + l.length) 0)) = X := ⟨_, rfl⟩
    have Xl : X.length = N := by rw [← hX, fillT_len (by omega), fillT_len (by omega)]; simp; omega
    rw [hX] at g1
    have jN : j < N := by omega
    have jN2 : (j : Int) < N := by omega
    obtain ⟨q, hq⟩ : ∃ q, 6 + j = q := ⟨_, rfl⟩
    have cq : (6 : Int) + j = q := by omega
    rw [hq] at gs gs'
    have jN3 : q < N := by omega
    have jN4 : (q : Int) < N := by omega
    simp (maxSteps := 1000000) (disch := first | (simp; done) | (simp only [IHeap.size_push', IHeap.size_set']; omega) | omega) [cq, hq, e1, e2, e6, e7, hn, hd, hlt, hlt2, g0, g1, gd, gd', gs, gs', rl, bys_len, Xl, jN, jN2, jN3, jN4, splice_bys, wrap64, z1, show j + 1 ≤ N by omega, show q + 1 ≤ N by omega, show j < 21 by omega, show j < 13 by omega, show q < 13 by omega]
    have e3 : splice (bys (X.set j a.dst[j])) q [.int .u8 (a.src[j] : Nat)] = bys (fillT [] a.dst (j + 1) (fillT [] a.src (j + 1) (List.replicate (2 + l.length) 0))) := by
      rw [splice_bys (by rw [List.length_set, Xl]; exact jN3), ← hX, ← hq]
      congr 1
      have e4 := fillT_set (b := []) (x := a.dst) (rest := fillT [] a.src j (List.replicate (2 + l.length) 0)) (n := 0) rfl d1
      rw [Nat.zero_add] at e4
      have e5 := fillT_set (b := []) (x := a.src) (rest := List.replicate (2 + l.length) 0) (n := 0) rfl s1
      rw [Nat.zero_add] at e5
      rw [e4, fillT_rest (by simp [l1]) (by omega), e5]
    rw [e3]
    exact ⟨y, by omega, j + 1, by omega, by omega, fun i hi => by rw [IHeap.get_set_ne _ (by omega)]; exact o1 i hi, rfl⟩
  | zero =>
    obtain rfl : j = 6 := by omega
    rw [fillT_all l1, fillT_all l2] at g1
    obtain ⟨X, hX⟩ : ∃ X, [] ++ a.dst ++ ([] ++ a.src ++ List.replicate (2 + l.length) 0) = X := ⟨_, rfl⟩
    have Xl : X.length = N := by rw [← hX]; simp [l1, l2]; omega
    rw [hX] at g1
    have b1 : (12 : Int) < N := by omega
    have b2 : (13 : Int) < N := by omega
    have b3 : 12 < N := by omega
    have b4 : 13 < N := by omega
    have s8 : splice (bys X) 12 [.int .u8 8] = bys (X.set 12 8) := splice_bys (x := 8) (by omega)
    have s6 : splice (bys (X.set 12 8)) 13 [.int .u8 6] = bys ((X.set 12 8).set 13 6) := splice_bys (x := 6) (by rw [List.length_set]; omega)
    simp (maxSteps := 1000000) (disch := first | (simp; done) | (simp only [IHeap.size_push', IHeap.size_set']; omega) | omega) [s8, s6, e1, e2, e6, e7, hn, hd, g0, g1, g12, g12', rl, wrap64, z1, b1, b2, b3, b4, show 13 ≤ N by omega, show 14 ≤ N by omega, bys_len, Xl, splice_bys]
    have eX : (X.set 12 8).set 13 6 = fillT (a.dst ++ a.src ++ [8, 6]) l 0 [] := by
      rw [← hX]
      unfold fillT
      simp only [List.nil_append, List.append_nil, List.take_zero, Nat.sub_zero]
      rw [show 2 + l.length = l.length + 1 + 1 by omega, List.replicate_succ, List.replicate_succ]
      rw [List.set_append_right _ _ (by omega), List.set_append_right _ _ (by omega), List.set_append_right _ _ (by omega), List.set_append_right _ _ (by omega), l1, l2]
      simp
    rw [eX]
    have Hl : (a.dst ++ a.src ++ [8, 6]).length = 14 := by simp [l1, l2]
    have wl : a.dst ++ a.src ++ [8, 6] ++ l = a.wl l := rfl
    generalize a.dst ++ a.src ++ [8, 6] = B at Hl wl ⊢
    refine WPL.by_inv mixed (by kernel_rfl) (fun y e h' => ∃ j : Nat, j + y = l.length ∧ e.n = 63 ∧ e.dfr = [] ∧ e.get 1 = .slice (some ⟨r, 0, none⟩) l.length c ∧ e.get 6 = .slice (some ⟨h.size + 1, 0, none⟩) N N ∧ e.get 8 = .int .i64 j ∧ h'.size = h.size + 2 ∧ (∀ i, i < h.size → h'.get i = h.get i) ∧ h'.get (h.size + 1) = some (.row false 1 (bys (fillT B l j [])))) l.length ?_ ?_
    · refine ⟨0, ?_⟩
      simp (maxSteps := 1000000) (disch := first | (simp; done) | (simp only [IHeap.size_push', IHeap.size_set']; omega) | omega) [e1, e2, e6, e7, hn, hd, z1]
      exact fun i hi => by rw [IHeap.get_set_ne _ (by omega)]; exact o1 i hi
    clear hn hd e1 e2 e6 e7 e z1 o1 g0 g1
    rintro y e h2 ⟨j, hj, hn, hd, e1, e6, e8, z2, o2, g2⟩
    cases y with
    | succ y =>
      have hlt : j < l.length := by omega
      have hlt2 : (j : Int) < l.length := by omega
      obtain ⟨q, hq⟩ : ∃ q, 14 + j = q := ⟨_, rfl⟩
      have cq : (14 : Int) + j = q := by omega
      have q1 : q < N := by omega
      have q2 : (q : Int) < N := by omega
      have gj := bys_at hlt
      have gj' : ∀ hh, (bys l)[j]'hh = .int .u8 (l[j] : Nat) := fun hh => by rw [List.getElem?_eq_getElem hh] at gj; injection gj
      have gr2 : h2.get r = some (.row ro z (bys l)) := by rw [o2 r rz]; exact gr
      have fl : (fillT B l j []).length = N := by rw [fillT_len (by omega), Hl]; simp; omega
      have sp : splice (bys (fillT B l j [])) q [.int .u8 (l[j] : Nat)] = bys (fillT B l (j + 1) []) := by
        rw [splice_bys (by rw [fl]; exact q1), ← hq, fillT_set Hl hlt]
      simp (maxSteps := 1000000) (disch := first | (simp; done) | (simp only [IHeap.size_push', IHeap.size_set']; omega) | omega) [e1, e6, e8, hn, hd, hlt, hlt2, gr2, gj, gj', g2, bys_len, fl, cq, q1, q2, sp, wrap64, z2, show q + 1 ≤ N by omega]
      exact ⟨y, by omega, j + 1, by omega, by omega, fun i hi => by rw [IHeap.get_set_ne _ (by omega)]; exact o2 i hi, rfl⟩
    | zero =>
      obtain rfl : j = l.length := by omega
      rw [fillT_all rfl, List.append_nil, wl] at g2
      simp (maxSteps := 1000000) (disch := first | (simp; done) | (simp only [IHeap.size_push', IHeap.size_set']; omega) | omega) [e1, e6, e8, hn, hd]
      rw [← hN]
      exact ⟨by omega, o2, h.size + 1, rfl, by omega, g2⟩
end Go.Proofs.Yteokdllmandleaa.Ideal
