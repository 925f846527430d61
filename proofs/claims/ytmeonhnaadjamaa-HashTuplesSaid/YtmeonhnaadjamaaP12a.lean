import Derived.Test.YtmeonhnaadjamaaI29
import Derived.Test.YtmeonhnaadjamaaF12
noncomputable section
open Go.Proofs
namespace Go.Proofs.Ytmeonhnaadjamaa.Ideal
set_option linter.unusedSimpArgs false
set_option linter.unusedVariables false
set_option linter.unusedSectionVars false
set_option linter.unnecessarySimpa false
set_option maxRecDepth 100000
set_option maxHeartbeats 2000000
attribute [-simp] IHeap.size_set IHeap.size_push
attribute [local simp ↓] Hid.ap_mk
attribute [local simp] scopeQ_normal scopeQ_ret scopeQ_exit WP_skip WP_label WP_exit WP_goto WP_ret WP_region WP_seq WP_cond WP_block WP_scope WP_loop WP_range thenQ_normal thenQ_ret thenQ_exit thenQ_goto loopQ_normal loopQ_ret loopQ_exit invQ_normal invQ_ret invQ_exit outOf_normal outOf_ret outOf_goto outOf_exit ev_tmp ev_const ev_func
  wops_nil wops_cons wantedE_none wantedE_some jgd_some wnx_eq niC_false wdo_move wdo_assign wdo_pick wdo_load wdo_store wdo_alloc wdo_box wdo_fieldAddr wdo_indexAddr wdo_field wdo_extract wdo_build wdo_buildSlice wdo_makeSlice wdo_binOp wdo_unOp wdo_makeFunc wdo_nilCheck wdo_callV wdo_len wdo_append wdo_copy wdo_delete wdo_max wdo_min wdo_convert jcvt_int
  xput_get put_n put_none put_dfr ibin finQ_n finQ_r finD_nil splice_one ires_nil ires_one ires_two ires_three ires1_tmp ires1_cell jcell_ptr rowLoad_row wrap64 wrapU64 wrapU8 wrapU16 wrapU32 callV_fn buildOf Instr.fill Value.cells Value.oneCell' kindOf slots_all splice_all IHeap.size_set' IHeap.size_push' IHeap.get_set_same IHeap.get_set_ne IHeap.get_pushed IHeap.get_push_ne IHeap.set_set IHeap.set_push IHeap.set_pushed IHeap.set_set3 getU_nil getU_same getU_ne jif_true jif_false pushH_eq setH_eq forceL_eq forceV_eq ibuildSlice

theorem mixed : Try.prog.follows .mixedOrders = true := by kernel_rfl
theorem u8_5 : isU8 Try.prog 5 = true := by kernel_rfl
theorem ni26 : notInt Try.prog 26 = true := by kernel_rfl
theorem u8wrap (n : Int) : IntKind.u8.wrap n = n % 256 := byEq rfl
/-- A tuple. -/
structure TU where
  v6 : Bool
  pr : Int
  s : List Int
  d : List Int
  sp : Int
  dp : Int
def nums (l : List Int) : List Value := l.map (Value.int .u8)
theorem nums_len (l : List Int) : (nums l).length = l.length := by simp [nums]
theorem nums_app (l m : List Int) : nums l ++ nums m = nums (l ++ m) := by simp [nums, List.map_append]
theorem nums_nil : ([] : List Value) = nums [] := by simp [nums]
theorem nums_one (a : Int) : [Value.int .u8 a] = nums [a] := by simp [nums]
theorem nums_two (a b : Int) : [Value.int .u8 a, Value.int .u8 b] = nums [a, b] := by simp [nums]
theorem nums_four (a b c d : Int) : [Value.int .u8 a, Value.int .u8 b, Value.int .u8 c, Value.int .u8 d] = nums [a, b, c, d] := by simp [nums]
theorem nums_cell (l : List Int) : ∀ x ∈ nums l, x.oneCell' = true := by
  intro x hx
  obtain ⟨a, _, rfl⟩ := List.mem_map.1 hx
  rfl
theorem nums_all (l : List Int) : (nums l).all (·.oneCell') = true := List.all_eq_true.2 (nums_cell l)
theorem ints_nums : ∀ (l : List Int), intsOf (nums l) = some l
  | [] => by simp [nums, intsOf]
  | a :: l => by
    have := ints_nums l
    simp only [nums] at this
    simp [nums, intsOf, this]
def TU.row (t : TU) : List Value := .bool t.v6 :: .int .u8 t.pr :: (nums t.s ++ (nums t.d ++ [.int .u16 t.sp, .int .u16 t.dp]))
def TU.val (t : TU) : Value := .agg t.row.toArray
structure TU.ok (t : TU) : Prop where
  s : t.s.length = 16
  d : t.d.length = 16
  sp : 0 ≤ t.sp ∧ t.sp < 65536
  dp : 0 ≤ t.dp ∧ t.dp < 65536
def TU.n (t : TU) : Nat := if t.v6 then 16 else 4
def TU.bytes (t : TU) : List Int := [if t.v6 then 6 else 4, t.pr] ++ t.s.take t.n ++ t.d.take t.n ++ [t.sp / 256, t.sp % 256, t.dp / 256, t.dp % 256]
section
variable {t : TU} (ok : t.ok)
include ok
theorem TU.n_le : t.n ≤ 16 := by unfold TU.n; split <;> omega
theorem TU.len : t.row.length = 36 := by simp [TU.row, nums_len, ok.s, ok.d]
theorem TU.blen : t.bytes.length = 6 + 2 * t.n := by
  have := TU.n_le ok
  simp [TU.bytes, ok.s, ok.d]; omega
theorem TU.r0 : t.row[0]? = some (.bool t.v6) := by simp [TU.row]
theorem TU.r1 : t.row[1]? = some (.int .u8 t.pr) := by simp [TU.row]
theorem TU.r34 : t.row[34]? = some (.int .u16 t.sp) := by
  simp [TU.row, List.getElem?_append, nums_len, ok.s, ok.d]
theorem TU.r35 : t.row[35]? = some (.int .u16 t.dp) := by
  simp [TU.row, List.getElem?_append, nums_len, ok.s, ok.d]
theorem TU.rs {i : Nat} (hi : i < 16) : t.row[2 + i]? = some (.int .u8 (t.s.getD i 0)) := by
  have := ok.s
  have e : 2 + i = i + 2 := by omega
  simp [TU.row, e, List.getElem?_append, nums_len, this, hi, nums]
theorem TU.rd {i : Nat} (hi : i < 16) : t.row[18 + i]? = some (.int .u8 (t.d.getD i 0)) := by
  have := ok.s
  have := ok.d
  have e : 18 + i = (i + 16) + 2 := by omega
  have e2 : ¬ i + 16 < 16 := by omega
  simp [TU.row, e, List.getElem?_append, nums_len, *, nums]
theorem TU.ss {n : Nat} (hn : n ≤ 16) : slots t.row 2 n = some (nums (t.s.take n)) := by
  have := ok.s
  have := TU.len ok
  unfold slots
  rw [if_pos (by omega)]
  simp [TU.row, List.take_append, nums_len, ok.s]
  rw [Nat.sub_eq_zero_of_le hn]
  simp [nums]
theorem TU.sd {n : Nat} (hn : n ≤ 16) : slots t.row 18 n = some (nums (t.d.take n)) := by
  have := TU.len ok
  unfold slots
  rw [if_pos (by omega)]
  have e : (nums t.s).drop 16 = [] := List.drop_eq_nil_of_le (by rw [nums_len, ok.s]; omega)
  simp [TU.row, List.take_append, List.drop_append, nums_len, ok.s, ok.d, e]
  rw [Nat.sub_eq_zero_of_le hn]
  simp [nums]
theorem TU.all36 : slots t.row 0 36 = some t.row := by
  have := TU.len ok
  rw [← this]; simp [slots]
end
/-- A slice of so many bytes, in a row of its own. -/
def BytesIn (l : List Int) (v : Value) (h : IHeap) : Prop := ∃ q, v = .slice (some ⟨q, 0, none⟩) l.length l.length ∧ h.get q = some (.row false 1 (nums l))
def CB (g : FuncId) (t : TU) (h : IHeap) : Prop := FN Try.prog g #[t.val] h (Q := ⟨fun v h' => Fr h h' [] ∧ ∃ q, h.size ≤ q ∧ v = .slice (some ⟨q, 0, none⟩) t.bytes.length t.bytes.length ∧ h'.get q = some (.row false 1 (nums t.bytes))⟩)
section
variable {P : Program} {rd : Option Nat} {draw : Bool} {all : Array Oper} {os : List Oper} {e : XEnv} {h : IHeap} (d : Option Tmp) (ty : TypeId) (p : String) (af : Array Edge) (g : Option (Nat × Bool)) [Q : Hid (XEnv → IHeap → Prop)] [E : Hid (List Ent)]
theorem wdo_str (x : Operand) : wdo P draw all ⟨d, .convert 26 9 x, ty, p, af, g⟩ os e h = jopt (bytesStr P h 26 9 (e.ev x)) (R := ⟨jcvt P e ⟨d, .convert 26 9 x, ty, p, af, g⟩ h (e.ev x) (P.underlying 26) (P.underlying 9) (K := ⟨fun v h' k => wnx P draw all os e d h v h' k⟩)⟩) (K := ⟨fun v k => wnx P draw all os e d h v h k⟩) := wdo_bytesStr ..
end
attribute [local simp] wdo_arrCut jopt_some u8_5 ni26
attribute [local simp high] wdo_str
theorem slots_nums (l : List Int) (n : Nat) (h : n = l.length) : slots (nums l) 0 n = some (nums l) := by
  rw [h, ← nums_len]; simp [slots]
theorem app_new {h : IHeap} {i q n c k j : Nat} {l m : List Int} {ro : Bool} {esz : Nat} {cs : List Value} (hi : h.get i = some (.row false 1 (nums l))) (hc : c = l.length) (hn : n = l.length) (hj : h.get j = some (.row ro esz cs)) (hk : k ≠ 0) (hs : slots cs q k = some (nums m)) (hm : m.length = k) (hl : l.length + k < 100000) (c2 : Nat) :
    iappend Try.prog h 26 26 (.slice (some ⟨i, 0, none⟩) n c) (.slice (some ⟨j, q, none⟩) k c2) = some (.slice (some ⟨h.size, 0, none⟩) (n + k) (n + k), (h.set i .dead).push (.row false 1 (nums (l ++ m)))) := by
  subst hc; subst hn
  have h1 : ¬ l.length + k ≤ l.length := by omega
  have h2 : l.length + k ≤ 140737488355328 ∧ l.length + k ≤ 4611686018427387904 := by omega
  have h3 := slots_nums l l.length rfl
  have h4 := nums_all m
  simp [-Value.oneCell', iappend, asrcOf, srcOf, ni26, hk, hj, hs, h4, h1, h2, hi, h3, nums_app, hm]
theorem cut31 (i q : Nat) (k : IntKind) (n : Int) (h0 : 0 ≤ n) (h1 : n ≤ 16) : arrCut Try.prog 31 (.pointer (some ⟨i, q, none⟩)) (.int k n) = some (.slice (some ⟨i, q, none⟩) n.toNat 16, .pure) := arrCut_eq 31 i q 16 1 k n (by kernel_rfl) h0 (by omega) (by omega)
theorem zeros1 (v : Value) : zeros #[v] 1 = [v] := by simp [zeros]
theorem zeros2 (v : Value) : zeros #[v] 2 = [v, v] := by simp [zeros]
theorem zeros4 (v : Value) : zeros #[v] 4 = [v, v, v, v] := by simp [zeros]
theorem bytes_c {h : IHeap} {t : TU} (ok : t.ok) : CB 16 t h := by
  refine FN.enter mixed (fn := Try.f16) (by kernel_rfl) rfl (by kernel_rfl) fun e hn hg hd => ?_
  simp [Try.f16] at hn
  have a0 : e.get 0 = t.val := hg 0 (by omega)
  clear hg
  have l1 := ok.s
  have l2 := ok.d
  have s1 : t.sp.fdiv (2 ^ min 8 IntKind.u16.bits) = t.sp / 256 := Int.fdiv_eq_ediv_of_nonneg _ (by decide)
  have s2 : t.dp.fdiv (2 ^ min 8 IntKind.u16.bits) = t.dp / 256 := Int.fdiv_eq_ediv_of_nonneg _ (by decide)
  have s3 : IntKind.u8.wrap (t.sp / 256) = t.sp / 256 := wrapU8 (by have := ok.sp; omega) (by have := ok.sp; omega)
  have s4 : IntKind.u8.wrap (t.dp / 256) = t.dp / 256 := wrapU8 (by have := ok.dp; omega) (by have := ok.dp; omega)
  have s5 := u8wrap t.sp
  have s6 := u8wrap t.dp
  cases hv : t.v6
  · simp (maxSteps := 1000000) (disch := first | (simp; done) | (simp only [IHeap.size_push', IHeap.size_set']; omega) | omega) [a0, hn, hd, TU.val, TU.r0 ok, TU.r1 ok, hv, cut31, zeros1, zeros2, zeros4]
    rw [app_new (l := [4, t.pr]) (j := h.size) (m := t.s.take 4) (cs := t.row) (esz := 0) (ro := false) (by simp (maxSteps := 1000000) (disch := first | (simp; done) | (simp only [IHeap.size_push', IHeap.size_set']; omega) | omega) [nums]) (by rfl) (by rfl) (by simp (maxSteps := 1000000) (disch := first | (simp; done) | (simp only [IHeap.size_push', IHeap.size_set']; omega) | omega) []) (by omega) (TU.ss ok (by omega)) (by simp [l1]) (by simp)]
    simp (maxSteps := 1000000) (disch := first | (simp; done) | (simp only [IHeap.size_push', IHeap.size_set']; omega) | omega) [hn, hd, cut31]
    refine ⟨niC_of (by kernel_rfl), ?_⟩
    rw [app_new (l := [4, t.pr] ++ t.s.take 4) (j := h.size) (m := t.d.take 4) (cs := t.row) (esz := 0) (ro := false) (by simp (maxSteps := 1000000) (disch := first | (simp; done) | (simp only [IHeap.size_push', IHeap.size_set']; omega) | omega) []) (by simp [l1]) (by simp [l1]) (by simp (maxSteps := 1000000) (disch := first | (simp; done) | (simp only [IHeap.size_push', IHeap.size_set']; omega) | omega) []) (by omega) (TU.sd ok (by omega)) (by simp [l2]) (by simp [l1])]
    simp (maxSteps := 1000000) (disch := first | (simp; done) | (simp only [IHeap.size_push', IHeap.size_set']; omega) | omega) [hn, hd, TU.r34 ok, TU.r35 ok, zeros1, zeros2, zeros4, s1, s2, s3, s4, s5, s6]
    rw [nums_four]
    rw [app_new (l := 4 :: t.pr :: (t.s.take 4 ++ t.d.take 4)) (j := h.size + 1 + 1 + 1 + 1) (m := [t.sp / 256, t.sp % 256, t.dp / 256, t.dp % 256]) (k := 4) (cs := nums [t.sp / 256, t.sp % 256, t.dp / 256, t.dp % 256]) (esz := 1) (ro := false) (by simp (maxSteps := 1000000) (disch := first | (simp; done) | (simp only [IHeap.size_push', IHeap.size_set']; omega) | omega) []) (by simp [l1, l2]) (by simp [l1, l2]) (by simp (maxSteps := 1000000) (disch := first | (simp; done) | (simp only [IHeap.size_push', IHeap.size_set']; omega) | omega) []) (by omega) (slots_nums _ _ rfl) (by rfl) (by simp [l1, l2])]
    simp (maxSteps := 1000000) (disch := first | (simp; done) | (simp only [IHeap.size_push', IHeap.size_set']; omega) | omega) [hn, hd]
    have hb : t.bytes = 4 :: t.pr :: (t.s.take 4 ++ (t.d.take 4 ++ [t.sp / 256, t.sp % 256, t.dp / 256, t.dp % 256])) := by simp [TU.bytes, TU.n, hv]
    have hl : t.bytes.length = 14 := by rw [hb]; simp [l1, l2]
    refine ⟨⟨by simp <;> omega, fun i hi => by simp only [IHeap.get_set_if, IHeap.get_push, IHeap.size_set', IHeap.size_push', getU, ]; grind⟩, h.size + 1 + 1 + 1 + 1 + 1, by omega, ?_⟩
    rw [hl, hb]
    simp (maxSteps := 1000000) (disch := first | (simp; done) | (simp only [IHeap.size_push', IHeap.size_set']; omega) | omega) []
  · simp (maxSteps := 1000000) (disch := first | (simp; done) | (simp only [IHeap.size_push', IHeap.size_set']; omega) | omega) [a0, hn, hd, TU.val, TU.r0 ok, TU.r1 ok, hv, cut31, zeros1, zeros2, zeros4]
    rw [app_new (l := [6, t.pr]) (j := h.size) (m := t.s.take 16) (cs := t.row) (esz := 0) (ro := false) (by simp (maxSteps := 1000000) (disch := first | (simp; done) | (simp only [IHeap.size_push', IHeap.size_set']; omega) | omega) [nums]) (by rfl) (by rfl) (by simp (maxSteps := 1000000) (disch := first | (simp; done) | (simp only [IHeap.size_push', IHeap.size_set']; omega) | omega) []) (by omega) (TU.ss ok (by omega)) (by simp [l1]) (by simp)]
    simp (maxSteps := 1000000) (disch := first | (simp; done) | (simp only [IHeap.size_push', IHeap.size_set']; omega) | omega) [hn, hd, cut31]
    refine ⟨niC_of (by kernel_rfl), ?_⟩
    rw [app_new (l := [6, t.pr] ++ t.s.take 16) (j := h.size) (m := t.d.take 16) (cs := t.row) (esz := 0) (ro := false) (by simp (maxSteps := 1000000) (disch := first | (simp; done) | (simp only [IHeap.size_push', IHeap.size_set']; omega) | omega) []) (by simp [l1]) (by simp [l1]) (by simp (maxSteps := 1000000) (disch := first | (simp; done) | (simp only [IHeap.size_push', IHeap.size_set']; omega) | omega) []) (by omega) (TU.sd ok (by omega)) (by simp [l2]) (by simp [l1])]
    simp (maxSteps := 1000000) (disch := first | (simp; done) | (simp only [IHeap.size_push', IHeap.size_set']; omega) | omega) [hn, hd, TU.r34 ok, TU.r35 ok, zeros1, zeros2, zeros4, s1, s2, s3, s4, s5, s6]
    rw [nums_four]
    rw [app_new (l := 6 :: t.pr :: (t.s.take 16 ++ t.d.take 16)) (j := h.size + 1 + 1 + 1 + 1) (m := [t.sp / 256, t.sp % 256, t.dp / 256, t.dp % 256]) (k := 4) (cs := nums [t.sp / 256, t.sp % 256, t.dp / 256, t.dp % 256]) (esz := 1) (ro := false) (by simp (maxSteps := 1000000) (disch := first | (simp; done) | (simp only [IHeap.size_push', IHeap.size_set']; omega) | omega) []) (by simp [l1, l2]) (by simp [l1, l2]) (by simp (maxSteps := 1000000) (disch := first | (simp; done) | (simp only [IHeap.size_push', IHeap.size_set']; omega) | omega) []) (by omega) (slots_nums _ _ rfl) (by rfl) (by simp [l1, l2])]
    simp (maxSteps := 1000000) (disch := first | (simp; done) | (simp only [IHeap.size_push', IHeap.size_set']; omega) | omega) [hn, hd]
    have hb : t.bytes = 6 :: t.pr :: (t.s.take 16 ++ (t.d.take 16 ++ [t.sp / 256, t.sp % 256, t.dp / 256, t.dp % 256])) := by simp [TU.bytes, TU.n, hv]
    have hl : t.bytes.length = 38 := by rw [hb]; simp [l1, l2]
    refine ⟨⟨by simp <;> omega, fun i hi => by simp only [IHeap.get_set_if, IHeap.get_push, IHeap.size_set', IHeap.size_push', getU, ]; grind⟩, h.size + 1 + 1 + 1 + 1 + 1, by omega, ?_⟩
    rw [hl, hb]
    simp (maxSteps := 1000000) (disch := first | (simp; done) | (simp only [IHeap.size_push', IHeap.size_set']; omega) | omega) []
end Go.Proofs.Ytmeonhnaadjamaa.Ideal
