import Derived.Test.YtkpbdhfaobmbpaaP43f
noncomputable section
open Go.Proofs
namespace Go.Proofs.Ytkpbdhfaobmbpaa.Ideal
open Go.RowKit
set_option linter.unusedSimpArgs false
set_option linter.unusedVariables false
set_option linter.unusedSectionVars false
set_option maxRecDepth 100000
set_option maxHeartbeats 4000000
attribute [-simp] IHeap.size_set IHeap.size_push
attribute [local simp ↓] Hid.ap_mk
attribute [local simp] scopeQ_normal scopeQ_ret scopeQ_exit WP_skip WP_label WP_exit WP_goto WP_ret WP_region WP_seq WP_cond WP_block WP_scope WP_loop WP_range thenQ_normal thenQ_ret thenQ_exit thenQ_goto loopQ_normal loopQ_ret loopQ_exit invQ_normal invQ_ret invQ_exit outOf_normal outOf_ret outOf_goto outOf_exit ev_tmp ev_const ev_func
  wops_nil wops_cons wantedE_none wantedE_some jgd_some wnx_eq niC_false wdo_move wdo_assign wdo_pick wdo_load wdo_store wdo_alloc wdo_box wdo_fieldAddr wdo_indexAddr wdo_field wdo_extract wdo_build wdo_buildSlice wdo_makeSlice wdo_binOp wdo_unOp wdo_makeFunc wdo_nilCheck wdo_callV wdo_len wdo_append wdo_copy wdo_delete wdo_max wdo_min wdo_convert jcvt_int
  xput_get put_n put_none put_dfr ibin finQ_n finQ_r finD_nil splice_one ires_nil ires_one ires_two ires_three ires1_tmp ires1_cell jcell_ptr rowLoad_row wrap64 wrapU64 wrapU8 wrapU16 wrapU32 callV_fn buildOf Instr.fill Value.cells Value.oneCell' kindOf slots_all splice_all IHeap.size_set' IHeap.size_push' IHeap.get_set_same IHeap.get_set_ne IHeap.get_pushed IHeap.get_push_ne IHeap.set_set IHeap.set_push IHeap.set_pushed IHeap.set_set3 getU_nil getU_same getU_ne jif_true jif_false pushH_eq setH_eq forceL_eq forceV_eq ibuildSlice
attribute [local simp] wdo_index jopt_some wdo_toArr
attribute [-simp] Value.oneCell'
attribute [local simp] one_int' one_slc'
theorem one_bool' (b : Bool) : (Value.bool b).oneCell' = true := rfl
attribute [local simp] one_bool'
theorem Wk.keep {h h' : IHeap} (w : Wk h.size h h') : Keep h h' := ⟨w.le, w.eq⟩
theorem Wk.low {lo l2 : Nat} {h h' : IHeap} (w : Wk l2 h h') (hl : lo ≤ l2) : Wk lo h h' := ⟨fun i hi => w.eq i (by omega), w.row, w.le⟩
/-- A shot that may not be. -/
def badS (s : SH) : Bool := decide (1000000 ≤ s.micro) || decide (s.had < s.xs.length)
/-- A shot's bytes. -/
def recL (high : Bool) (most : Nat) (s : SH) : List Nat := layL high s.sec 4 ++ layL high s.micro 4 ++ layL high (min s.xs.length most) 4 ++ layL high s.had 4 ++ s.xs.take (min s.xs.length most)
def baseL (high : Bool) (most : Nat) : List Nat := headL high ++ layL high most 4 ++ layL high 1 4
def wres (most : Nat) (high : Bool) (S : List SH) : List Nat × Nat :=
  if most = 0 ∨ 65535 < most then ([], 2) else if S.any badS then ([], 5) else (baseL high most ++ S.flatMap (recL high most), 0)
theorem headL_len (high : Bool) : (headL high).length = 16 := by simp [headL, layL_len]
theorem baseL_len (high : Bool) (most : Nat) : (baseL high most).length = 24 := by simp [baseL, headL_len, layL_len]
theorem recL_len (high : Bool) (most : Nat) (s : SH) : (recL high most s).length = 16 + min s.xs.length most := by simp [recL, layL_len]; omega
theorem recs_len {high : Bool} {most : Nat} : ∀ {S : List SH}, (∀ s ∈ S, s.xs.length ≤ 400) → (S.flatMap (recL high most)).length ≤ S.length * 416
  | [], _ => by simp
  | s :: S, h => by
    have := recs_len (high := high) (most := most) (S := S) fun t ht => h t (by simp [ht])
    have h1 := h s (by simp)
    rw [List.flatMap_cons, List.length_append, List.length_cons, recL_len]
    omega
theorem hz26 (lo hi : Option Value) (h1 : isZ lo = true) (h2 : isZ hi = true) : pureVal Try.prog (Instr.sliceAt 26 (.slice none 0 0) lo hi none) = some (.slice none 0 0) := by
  unfold isZ at h1 h2
  split at h1 <;> split at h2 <;> first | (cases h1; done) | (cases h2; done) | skip
  · kernel_rfl
  · simp at h2; subst h2; kernel_rfl
  · simp at h1; subst h1; kernel_rfl
  · simp at h1 h2; subst h1; subst h2; kernel_rfl
theorem wdo_cut26 {draw : Bool} {all : Array Oper} {os : List Oper} {e : XEnv} {h : IHeap} (d : Option Tmp) (ty : TypeId) (p : String) (af : Array Edge) (g : Option (Nat × Bool)) [Q : Hid (XEnv → IHeap → Prop)] [E : Hid (List Ent)] (x : Operand) (lo hi : Option Operand) :
    wdo Try.prog draw all ⟨d, .slice 26 x lo hi none, ty, p, af, g⟩ os e h = jopt (cutN Try.prog h 26 (e.ev x) (lo.map e.ev) (hi.map e.ev)) (R := ⟨jgen Try.prog e ⟨d, .slice 26 x lo hi none, ty, p, af, g⟩ h (K := ⟨fun v h' k => wnx Try.prog draw all os e d h v h' k⟩)⟩) (K := ⟨fun v k => wnx Try.prog draw all os e d h v h k⟩) := wdo_cutN d ty p af g 26 hz26 x lo hi
attribute [local simp] wdo_cut26
/-- The first bytes of a slice. -/
theorem cut_slb {h : IHeap} {sl : Value} {xs : List Nat} {k : Nat} {K : IntKind} (b : SlB h sl xs) (hk : k ≤ xs.length) : ∃ A c kd, (∀ h', Keep h h' → cutN Try.prog h' 26 sl none (some (.int K (k : Nat))) = some (.slice A k c, kd)) ∧ SlB h (.slice A k c) (xs.take k) := by
  obtain ⟨A, c, rfl, h0, h2, hc⟩ := id b
  have lt : (xs.take k).length = k := by rw [List.length_take]; omega
  cases A with
  | none =>
    obtain ⟨rfl, rfl⟩ := h0 rfl
    have : k = 0 := by simpa using hk
    subst this
    exact ⟨none, 0, .pure, fun _ _ => rfl, by simpa using b⟩
  | some a =>
    obtain ⟨r, q, ro, z, cs, e, hz, h4, h5⟩ := h2 (by simp)
    cases e
    refine ⟨some ⟨r, q, none⟩, c, .read r, fun h' kp => ?_, some ⟨r, q, none⟩, c, by rw [lt], fun h => (by cases h), fun _ => ⟨r, q, ro, z, cs, rfl, hz, h4, ?_⟩, by omega⟩
    · have isl := islice_eq (P := Try.prog) (q := q) (l := 0) (n := xs.length) (lo := none) (hi := some (.int K (k : Nat))) sl26 (kp.get h4) (hz.imp And.right id) (bounds_hi (k := K) (c := c) (by omega))
      simp only [Nat.zero_mul, Nat.add_zero, Nat.sub_zero] at isl
      simp only [cutN, cutV, isl, Option.map_some, kindOf]
    · rw [lt]
      unfold slots at h5 ⊢
      split at h5
      · rename_i hq
        rw [if_pos (by omega)]
        have e5 := Option.some.inj h5
        rw [show bys (xs.take k) = (bys xs).take k by simp [bys], ← e5, List.take_take, Nat.min_eq_left hk]
      · cases h5
theorem may_c {h : IHeap} {s : SH} (ok : s.ok h) (l4 : s.xs.length ≤ 400) (hh : s.had < 4294967296) : ICall Try.prog 25 #[s.val] h (.bool (!badS s)) (h.push (.row false 0 s.cells)) := by
  refine ICall.of_FN ?_
  have o1 := ok.one
  obtain ⟨A, c, ea, _⟩ := id ok.b
  refine FN.enter mixed (fn := Try.f25) (by kernel_rfl) rfl (by kernel_rfl) fun e hn hg hd => ?_
  simp [Try.f25] at hn
  have a0 : e.get 0 = s.val := hg 0 (by omega)
  clear hg
  by_cases c1 : (s.micro : Int) < 1000000
  · have e1 : decide (1000000 ≤ s.micro) = false := decide_eq_false (by omega)
    by_cases c2 : (s.xs.length : Int) ≤ s.had
    · have : badS s = false := by
        unfold badS
        rw [e1, decide_eq_false (by omega)]
        rfl
      simp (maxSteps := 1000000) (disch := first | (simp; done) | (simp only [IHeap.size_push', IHeap.size_set']; omega) | omega) [a0, hn, hd, SH.val, SH.cells, ea, c1, c2, this]
    · have : badS s = true := by
        unfold badS
        rw [e1, decide_eq_true (by omega)]
        rfl
      simp (maxSteps := 1000000) (disch := first | (simp; done) | (simp only [IHeap.size_push', IHeap.size_set']; omega) | omega) [a0, hn, hd, SH.val, SH.cells, ea, c1, c2, this]
  · have : badS s = true := by
      unfold badS
      rw [decide_eq_true (by omega), Bool.true_or]
    simp (maxSteps := 1000000) (disch := first | (simp; done) | (simp only [IHeap.size_push', IHeap.size_set']; omega) | omega) [a0, hn, hd, SH.val, SH.cells, ea, c1, undef, this]
theorem idx57 (a b c d i : Nat) (hi : i < 4) (ha : a < 4294967296) (hb : b < 4294967296) (hc : c < 4294967296) (hd : d < 4294967296) : ∃ n : Nat, idxV Try.prog 57 (.agg #[.int .u32 a, .int .u32 b, .int .u32 c, .int .u32 d]) (.int .i64 i) = some (.int .u32 n, .pure) ∧ n < 4294967296 ∧ [a, b, c, d].take (i + 1) = [a, b, c, d].take i ++ [n] := by
  rcases (by omega : i = 0 ∨ i = 1 ∨ i = 2 ∨ i = 3) with rfl | rfl | rfl | rfl
  · exact ⟨a, by simp [idxV], ha, rfl⟩
  · exact ⟨b, by simp [idxV], hb, rfl⟩
  · exact ⟨c, by simp [idxV], hc, rfl⟩
  · exact ⟨d, by simp [idxV], hd, rfl⟩
theorem write_c {h : IHeap} {v : Value} {S : List SH} {most : Nat} {high : Bool} (x : ShS h v S) (hS : S.length ≤ 60) (h4 : ∀ s ∈ S, s.xs.length ≤ 400) (hh : ∀ s ∈ S, s.had < 4294967296) (hm : most < 4294967296) :
    FN Try.prog 9 #[.int .u32 most, .bool high, v] h (Q := ⟨fun v h' => ∃ sl, v = .tuple #[sl, .int .i64 ((wres most high S).2 : Nat)] ∧ OwnB h.size h' sl (wres most high S).1 ∧ Keep h h'⟩) := by
  obtain ⟨A, c, rfl, _⟩ := id x
  refine FN.enter mixed (fn := Try.f9) (by kernel_rfl) rfl (by kernel_rfl) fun e hn hg hd => ?_
  simp [Try.f9] at hn
  have a0 : e.get 0 = .int .u32 most := hg 0 (by omega)
  have a1 : e.get 1 = .bool high := hg 1 (by omega)
  have a2 : e.get 2 = .slice A S.length c := hg 2 (by omega)
  clear hg
  by_cases m0 : (most : Int) < 1
  · have : wres most high S = ([], 2) := by unfold wres; rw [if_pos (.inl (by omega))]
    simp (maxSteps := 1000000) (disch := first | (simp; done) | (simp only [IHeap.size_push', IHeap.size_set']; omega) | omega) [a0, a1, a2, hn, hd, m0, undef, this]
    exact ⟨.inl ⟨rfl, rfl⟩, Keep.refl h⟩
  · by_cases m1 : (65535 : Int) < most
    · have : wres most high S = ([], 2) := by unfold wres; rw [if_pos (.inr (by omega))]
      simp (maxSteps := 1000000) (disch := first | (simp; done) | (simp only [IHeap.size_push', IHeap.size_set']; omega) | omega) [a0, a1, a2, hn, hd, m0, m1, undef, this]
      exact ⟨.inl ⟨rfl, rfl⟩, Keep.refl h⟩
    simp (maxSteps := 1000000) (disch := first | (simp; done) | (simp only [IHeap.size_push', IHeap.size_set']; omega) | omega) [a0, a1, a2, hn, hd, m0, m1, undef]
    have hc := head_c (h := h.push (.row false 0 [.bool high])) (high := high)
    refine FN.mono hc ?_
    rintro v1 h1 ⟨o1, w1⟩
    have z1 := w1.le
    rw [IHeap.size_push'] at z1
    simp (maxSteps := 1000000) (disch := first | (simp; done) | (simp only [IHeap.size_push', IHeap.size_set']; omega) | omega) [a0, a1, a2, hn, hd, m0, m1, undef]
    
    have lb : (headL high).length = 16 := headL_len high
    have l2 := lay_c (n := most) (many := 4) (high := high) o1 (by rw [IHeap.size_push'] at *; omega) hm (by omega) (by omega)
    refine FN.mono l2 ?_
    rintro v2 h2 ⟨o2, w2⟩
    have z2 := w2.le
    simp (maxSteps := 1000000) (disch := first | (simp; done) | (simp only [IHeap.size_push', IHeap.size_set']; omega) | omega) [a0, a1, a2, hn, hd, m0, m1, undef]
    have l3 := lay_c (n := 1) (many := 4) (high := high) o2 (by rw [IHeap.size_push'] at *; omega) (by omega) (by omega) (by rw [List.length_append, layL_len]; omega)
    refine FN.mono l3 ?_
    rintro v3 h3 ⟨o3, w3⟩
    have z3 := w3.le
    simp (maxSteps := 1000000) (disch := first | (simp; done) | (simp only [IHeap.size_push', IHeap.size_set']; omega) | omega) [a0, a1, a2, hn, hd, m0, m1, undef]
    have o4 : OwnB h.size h3 v3 (baseL high most) := o3.low (by rw [IHeap.size_push']; omega)
    have w4 : Wk h.size h h3 := ((Keep.push h (.row false 0 [.bool high])).wk (Nat.le_refl _)).trans ((w1.trans (w2.trans w3)).low (by rw [IHeap.size_push']; omega))
    refine WPL.by_inv mixed (by kernel_rfl) (fun k e h' => ∃ (j : Nat) (w : Value), j + k = S.length ∧ e.n = 74 ∧ e.dfr = [] ∧ e.get 0 = .int .u32 most ∧ e.get 9 = .func (.func 23) #[.agg #[.bool high]] #[] ∧ e.get 10 = w ∧ e.get 33 = .slice A S.length c ∧ e.get 34 = .int .i64 S.length ∧ e.get 35 = .int .i64 j ∧ OwnB h.size h' w (baseL high most ++ (S.take j).flatMap (recL high most)) ∧ Wk h.size h h' ∧ (S.take j).any badS = false) S.length ?_ ?_
    · refine ⟨0, v3, ?_⟩
      simp (maxSteps := 1000000) (disch := first | (simp; done) | (simp only [IHeap.size_push', IHeap.size_set']; omega) | omega) [a0, a1, a2, hn, hd]
      exact ⟨o4, w4⟩
    clear hn hd a0 a1 a2 e
    rintro k e h1 ⟨j, w, hj, hn, hd, a0, a9, a10, a33, a34, a35, ow, wk, nb⟩
    cases k with
    | zero =>
      obtain rfl : j = S.length := by omega
      rw [List.take_length] at nb ow
      have : wres most high S = (baseL high most ++ S.flatMap (recL high most), 0) := by
        unfold wres
        rw [if_neg (by omega), if_neg (by rw [nb]; simp)]
      simp (maxSteps := 1000000) (disch := first | (simp; done) | (simp only [IHeap.size_push', IHeap.size_set']; omega) | omega) [a0, a9, a10, a33, a34, a35, hn, hd, this]
      exact ⟨ow, wk.keep⟩
    | succ k =>
      have j2 : j < S.length := by omega
      have j1 : (j : Int) < S.length := by omega
      have kp := wk.keep
      obtain ⟨r, q, ro, z, cs, rfl, hg, hz, hs, hok⟩ := (x.keep kp).at j2
      obtain ⟨s, es⟩ : ∃ s, S[j] = s := ⟨_, rfl⟩
      have ht1 : S.take (j + 1) = S.take j ++ [s] := by rw [List.take_succ_eq_append_getElem j2, es]
      have l4 := h4 S[j] (List.getElem_mem j2)
      have hh4 := hh S[j] (List.getElem_mem j2)
      have sm : s ∈ S := es ▸ List.getElem_mem j2
      rw [es] at hs hok l4 hh4
      obtain ⟨B, d, eb, _⟩ := hok.b
      have mc := may_c (hok.keep (Keep.push h1 (.row false 0 s.cells))) l4 hh4
      simp only [SH.val, SH.cells, eb] at mc
      simp (maxSteps := 1000000) (disch := first | (simp; done) | (simp only [IHeap.size_push', IHeap.size_set']; omega) | omega) [a0, a9, a10, a33, a34, a35, hn, hd, j1, j2, hg, hs, SH.cells, eb]
      refine FN.of mc ?_
      by_cases bd : badS s = true
      · have : wres most high S = ([], 5) := by
          unfold wres
          rw [if_neg (by omega), if_pos (List.any_eq_true.2 ⟨s, sm, bd⟩)]
        simp (maxSteps := 1000000) (disch := first | (simp; done) | (simp only [IHeap.size_push', IHeap.size_set']; omega) | omega) [a0, a9, a10, a33, a34, a35, hn, hd, bd, this]
        exact ⟨.inl ⟨rfl, rfl⟩, (kp.push' _).push' _⟩
      · have bd : badS s = false := by simpa using bd
        have hok0 : s.ok h := by
          obtain ⟨_, _, _, _, _, _, x6⟩ := id x
          exact x6 s sm
        obtain ⟨A2, c2, kd, ct, sb⟩ := cut_slb (K := .i64) (k := min s.xs.length most) hok0.b (by omega)
        have ct := ct _ ((kp.push' (.row false 0 s.cells)).push' (.row false 0 s.cells))
        simp only [SH.cells, eb] at ct
        have em : (if most < s.xs.length then (most : Int) else (s.xs.length : Int)) = ((min s.xs.length most : Nat) : Int) := by split <;> omega
        obtain ⟨m, hm2⟩ : ∃ m, min s.xs.length most = m := ⟨_, rfl⟩
        rw [hm2] at ct sb em
        simp (maxSteps := 1000000) (disch := first | (simp; done) | (simp only [IHeap.size_push', IHeap.size_set']; omega) | omega) [a0, a9, a10, a33, a34, a35, hn, hd, bd, SH.cells, eb, ct, em]
        have kp2 := (kp.push' (.row false 0 s.cells)).push' (.row false 0 s.cells)
        have ow2 := ow.keep ((Keep.push h1 (.row false 0 s.cells)).push' (.row false 0 s.cells))
        simp only [SH.cells, eb] at kp2 ow2
        have ml : m ≤ 400 := by omega
        have mt : (s.xs.take m).length = m := by rw [List.length_take]; omega
        have rl : (List.flatMap (recL high most) (S.take j)).length ≤ 60 * 416 := by
          have := recs_len (high := high) (most := most) (S := S.take j) fun t ht => h4 t (List.mem_of_mem_take ht)
          rw [List.length_take] at this
          omega
        have bl := baseL_len high most
        have cu : IntKind.u32.wrap (m : Int) = m := by
          simp [IntKind.wrap, IntKind.signed, IntKind.bits]
          omega
        refine WPL.by_inv mixed (by kernel_rfl) (fun k2 e' h' => ∃ (i : Nat) (w' : Value), i + k2 = 4 ∧ e'.n = 74 ∧ e'.dfr = [] ∧ e'.get 0 = .int .u32 most ∧ e'.get 9 = .func (.func 23) #[.agg #[.bool high]] #[] ∧ e'.get 10 = w' ∧ e'.get 13 = .slice A2 m c2 ∧ e'.get 33 = .slice (some ⟨r, q, none⟩) S.length c ∧ e'.get 34 = .int .i64 S.length ∧ e'.get 35 = .int .i64 j ∧ e'.get 60 = .agg #[.int .u32 s.sec, .int .u32 s.micro, .int .u32 m, .int .u32 s.had] ∧ e'.get 61 = .int .i64 i ∧ OwnB h.size h' w' (baseL high most ++ (S.take j).flatMap (recL high most) ++ (([s.sec, s.micro, m, s.had].take i).flatMap fun n => layL high n 4)) ∧ Wk h.size h h') 4 ?_ ?_
        · refine ⟨0, w, ?_⟩
          simp (maxSteps := 1000000) (disch := first | (simp; done) | (simp only [IHeap.size_push', IHeap.size_set']; omega) | omega) [a0, a9, a10, a33, a34, a35, hn, hd, cu]
          exact ⟨ow2, kp2.wk (Nat.le_refl _)⟩
        clear hn hd a0 a9 a10 a33 a34 a35 e
        rintro k2 e h2 ⟨i, w2, hi, hn, hd, a0, a9, a10, a13, a33, a34, a35, a60, a61, ow3, wk3⟩
        have z2 := wk3.le
        cases k2 with
        | zero =>
          obtain rfl : i = 4 := by omega
          have sb2 := sb.keep wk3.keep
          have sr : srcOf h2 1 (.slice A2 m c2) = some ((s.xs.take m).length, bys (s.xs.take m)) := by
            have := SlB.src (A := A2) (c := c2) (by rw [mt]; exact sb2)
            rwa [mt] at this ⊢
          obtain ⟨v', h', ap, ow4, wk4⟩ := app_bys ow3 rfl sr wk3.le (by simp only [List.take, List.flatMap_cons, List.flatMap_nil, List.length_append, layL_len, List.length_nil]; omega)
          simp (maxSteps := 1000000) (disch := first | (simp; done) | (simp only [IHeap.size_push', IHeap.size_set']; omega) | omega) [a0, a9, a10, a13, a33, a34, a35, a60, a61, hn, hd, ap]
          refine ⟨k, by omega, j + 1, by omega, by omega, ?_, wk3.trans wk4, ?_⟩
          · have : recL high most s = ([s.sec, s.micro, m, s.had].take 4).flatMap (fun n => layL high n 4) ++ s.xs.take m := by
              unfold recL
              rw [hm2]
              simp only [List.take, List.flatMap_cons, List.flatMap_nil, List.append_nil, List.append_assoc]
            rw [ht1, List.flatMap_append, List.flatMap_cons, List.flatMap_nil, List.append_nil, this, ← List.append_assoc, ← List.append_assoc]
            exact ow4
          · intro t ht
            rw [ht1, List.mem_append, List.mem_singleton] at ht
            rcases ht with ht | rfl
            · have := List.any_eq_false.1 nb t ht
              simpa using this
            · exact bd
        | succ k2 =>
          have i4 : (i : Int) < 4 := by omega
          obtain ⟨n, iv, n4, nt⟩ := idx57 s.sec s.micro m s.had i (by omega) hok0.s1 hok0.m1 (by omega) hh4
          have lt4 : (([s.sec, s.micro, m, s.had].take i).flatMap fun n => layL high n 4).length ≤ 16 := by
            have : ∀ l : List Nat, (l.flatMap fun n => layL high n 4).length = l.length * 4 := by
              intro l
              induction l with
              | nil => rfl
              | cons a l ih => rw [List.flatMap_cons, List.length_append, ih, layL_len, List.length_cons]; omega
            rw [this, List.length_take]
            simp only [List.length_cons, List.length_nil]
            omega
          have lc := lay_c (n := n) (many := 4) (high := high) ow3 wk3.le n4 (by omega) (by rw [List.length_append, List.length_append]; omega)
          simp (maxSteps := 1000000) (disch := first | (simp; done) | (simp only [IHeap.size_push', IHeap.size_set']; omega) | omega) [a0, a9, a10, a13, a33, a34, a35, a60, a61, hn, hd, i4, iv]
          refine FN.mono lc ?_
          rintro v' h' ⟨ow4, wk4⟩
          simp (maxSteps := 1000000) (disch := first | (simp; done) | (simp only [IHeap.size_push', IHeap.size_set']; omega) | omega) [a0, a9, a10, a13, a33, a34, a35, a60, a61, hn, hd, i4, iv]
          refine ⟨k2, by omega, i + 1, by omega, by omega, ?_, wk3.trans wk4⟩
          rw [nt, List.flatMap_append, List.flatMap_cons, List.flatMap_nil, List.append_nil]
          rw [List.append_assoc] at ow4
          exact ow4
end Go.Proofs.Ytkpbdhfaobmbpaa.Ideal
