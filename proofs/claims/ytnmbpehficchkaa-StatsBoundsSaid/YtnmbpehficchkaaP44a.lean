import Derived.Test.YtnmbpehficchkaaI40
import Derived.Test.YtnmbpehficchkaaF44
noncomputable section
open Go.Proofs
namespace Go.Proofs.Ytnmbpehficchkaa.Ideal
set_option linter.unusedSimpArgs false
set_option linter.unusedVariables false
set_option maxRecDepth 100000
set_option maxHeartbeats 1000000
attribute [-simp] IHeap.size_set IHeap.size_push
attribute [local simp ↓] Hid.ap_mk
attribute [local simp] scopeQ_normal scopeQ_ret scopeQ_exit WP_skip WP_label WP_exit WP_goto WP_ret WP_region WP_seq WP_cond WP_block WP_scope WP_loop WP_range thenQ_normal thenQ_ret thenQ_exit thenQ_goto loopQ_normal loopQ_ret loopQ_exit invQ_normal invQ_ret invQ_exit outOf_normal outOf_ret outOf_goto outOf_exit ev_tmp ev_const ev_func
  wops_nil wops_cons wantedE_none wantedE_some jgd_some wnx_eq niC_false wdo_move wdo_assign wdo_pick wdo_load wdo_store wdo_alloc wdo_box wdo_fieldAddr wdo_indexAddr wdo_field wdo_extract wdo_build wdo_buildSlice wdo_makeSlice wdo_binOp wdo_unOp wdo_makeFunc wdo_nilCheck wdo_callV wdo_len wdo_append wdo_copy wdo_delete wdo_max wdo_min wdo_convert jcvt_int
  xput_get put_n put_none put_dfr ibin finQ_n finQ_r finD_nil splice_one ires_nil ires_one ires_two ires_three ires1_tmp ires1_cell jcell_ptr rowLoad_row wrap64 wrapU64 wrapU8 wrapU16 wrapU32 callV_fn buildOf Instr.fill Value.cells Value.oneCell' kindOf slots_all splice_all IHeap.size_set' IHeap.size_push' IHeap.get_set_same IHeap.get_set_ne IHeap.get_pushed IHeap.get_push_ne IHeap.set_set IHeap.set_push IHeap.set_pushed IHeap.set_set3 getU_nil getU_same getU_ne jif_true jif_false pushH_eq setH_eq forceL_eq forceV_eq ibuildSlice
attribute [local simp] wdo_index jopt_some
theorem mixed : Try.prog.follows .mixedOrders = true := by kernel_rfl
/-- A histogram: counts by the number of binary digits, the sum, both ends. -/
structure HG where
  by' : List Int
  sum : Int
  least : Int
  greatest : Int
  hl : by'.length = 65
def HG.row (x : HG) : List Value := x.by'.map (.int .u64) ++ [.int .u64 x.sum, .int .u64 x.least, .int .u64 x.greatest]
def HG.obj (x : HG) : IObj := .row false 0 x.row
structure HG.ok (x : HG) (N : Int) : Prop where
  pos : ∀ b ∈ x.by', 0 ≤ b
  tot : x.by'.sum ≤ N
theorem sum_take_le : ∀ {l : List Int} (j : Nat), (∀ b ∈ l, 0 ≤ b) → 0 ≤ (l.take j).sum ∧ (l.take j).sum ≤ l.sum
  | [], j, _ => by simp
  | a :: l, 0, h => by
    have := sum_take_le (l := l) l.length (fun b hb => h b (by simp [hb]))
    rw [List.take_length] at this
    have := h a (by simp)
    simp; omega
  | a :: l, j + 1, h => by
    have := sum_take_le (l := l) j (fun b hb => h b (by simp [hb]))
    have := h a (by simp)
    simp; omega
theorem sum_take_succ {l : List Int} {j : Nat} (h : j < l.length) : (l.take (j + 1)).sum = (l.take j).sum + l[j] := by
  rw [List.take_succ_eq_append_getElem h, List.sum_append]
  simp
theorem HG.row_len (x : HG) : x.row.length = 68 := by simp [HG.row, x.hl]
theorem HG.slots_by (x : HG) : slots x.row 0 65 = some (x.by'.map (.int .u64)) := by
  simp [slots, HG.row, x.hl]
theorem HG.get_by (x : HG) {i : Nat} (hi : i < 65) : x.row[i]? = some (.int .u64 (x.by'[i]'(by rw [x.hl]; exact hi))) := by
  unfold HG.row
  rw [List.getElem?_append_left (by simp [x.hl, hi])]
  simp [x.hl, hi]
theorem HG.get65 (x : HG) : x.row[65]? = some (.int .u64 x.sum) := by
  unfold HG.row
  rw [List.getElem?_append_right (by simp [x.hl])]
  simp [x.hl]
theorem HG.get66 (x : HG) : x.row[66]? = some (.int .u64 x.least) := by
  unfold HG.row
  rw [List.getElem?_append_right (by simp [x.hl])]
  simp [x.hl]
theorem HG.get67 (x : HG) : x.row[67]? = some (.int .u64 x.greatest) := by
  unfold HG.row
  rw [List.getElem?_append_right (by simp [x.hl])]
  simp [x.hl]
theorem count_c {h : IHeap} {p : Nat} {x : HG} (ok : x.ok 1000) (hp : h.get p = some x.obj) : ICall Try.prog 25 #[.pointer (some ⟨p, 0, none⟩)] h (.int .u64 x.by'.sum) h := by
  refine ICall.of_FN ?_
  refine FN.enter mixed (fn := Try.f25) (by kernel_rfl) rfl (by kernel_rfl) fun e hn hg hd => ?_
  simp [Try.f25] at hn
  have a0 : e.get 0 = .pointer (some ⟨p, 0, none⟩) := hg 0 (by omega)
  clear hg
  have sb := HG.slots_by x
  have hpz := IHeap.get_lt hp
  simp only [HG.obj] at hp
  simp (maxSteps := 1000000) (disch := first | (simp; done) | (simp only [IHeap.size_push', IHeap.size_set']; omega) | omega) [a0, hn, hp, hd, sb]
  refine WPL.by_inv mixed (by kernel_rfl) (fun k e h' => ∃ j, j + k = 65 ∧ h' = h ∧ e.n = 19 ∧ e.dfr = [] ∧ e.get 10 = .agg (x.by'.map (.int .u64)).toArray ∧ e.get 11 = .int .i64 j ∧ e.get 2 = .int .u64 (x.by'.take j).sum) 65 ?_ ?_
  · refine ⟨0, ?_⟩
    simp (maxSteps := 1000000) (disch := first | (simp; done) | (simp only [IHeap.size_push', IHeap.size_set']; omega) | omega) [a0, hn, hd]
  clear hn hd a0 e
  rintro k e h1 ⟨j, hj, rfl, hn, hd, e10, e11, e2⟩
  cases k with
  | zero =>
    obtain rfl : j = 65 := by omega
    rw [← x.hl, List.take_length] at e2
    simp (maxSteps := 1000000) (disch := first | (simp; done) | (simp only [IHeap.size_push', IHeap.size_set']; omega) | omega) [e10, e11, e2, hn, hd]
  | succ k =>
    have h1 : (j : Int) < 65 := by omega
    have hl : j < x.by'.length := by rw [x.hl]; omega
    have h2 : (x.by'.map (Value.int .u64)).toArray[j]? = some (.int .u64 x.by'[j]) := by simp [hl]
    have b1 := sum_take_le j ok.pos
    have b2 := sum_take_le (j + 1) ok.pos
    rw [sum_take_succ hl] at b2
    have b3 := ok.tot
    simp (maxSteps := 1000000) (disch := first | (simp; done) | (simp only [IHeap.size_push', IHeap.size_set']; omega) | omega) [e10, e11, e2, hn, hd, h1, h2, idxV]
    exact ⟨k, by omega, j + 1, by omega, by omega, (sum_take_succ hl).symm⟩
/-- Both ends, if anything was counted. -/
def HG.ends (x : HG) : Value := if x.by'.sum = 0 then .tuple #[.int .u64 0, .int .u64 0, .bool false] else .tuple #[.int .u64 x.least, .int .u64 x.greatest, .bool true]
theorem ends_c {h : IHeap} {p : Nat} {x : HG} (ok : x.ok 1000) (hp : h.get p = some x.obj) : ICall Try.prog 11 #[.pointer (some ⟨p, 0, none⟩)] h x.ends h := by
  refine ICall.of_FN ?_
  refine FN.enter mixed (fn := Try.f11) (by kernel_rfl) rfl (by kernel_rfl) fun e hn hg hd => ?_
  simp [Try.f11] at hn
  have a0 : e.get 0 = .pointer (some ⟨p, 0, none⟩) := hg 0 (by omega)
  clear hg
  have h66 := HG.get66 x
  have h67 := HG.get67 x
  have h1 := hp
  simp only [HG.obj] at hp
  simp (maxSteps := 1000000) (disch := first | (simp; done) | (simp only [IHeap.size_push', IHeap.size_set']; omega) | omega) [a0, hn, hp, hd]
  refine FN.of (count_c ok h1) ?_
  by_cases hs : x.by'.sum = 0
  · simp (maxSteps := 1000000) (disch := first | (simp; done) | (simp only [IHeap.size_push', IHeap.size_set']; omega) | omega) [a0, hn, hp, hd, hs, HG.ends]
  · simp (maxSteps := 1000000) (disch := first | (simp; done) | (simp only [IHeap.size_push', IHeap.size_set']; omega) | omega) [a0, hn, hp, hd, hs, h66, h67, HG.ends]
    exact niC_of (by kernel_rfl)
/-- How many binary digits. -/
def bl (n : Nat) : Nat := if n = 0 then 0 else n.log2 + 1
theorem bl_le {n b : Nat} : bl n ≤ b ↔ n < 2 ^ b := by
  unfold bl
  split
  · rename_i h; subst h; simp [Nat.two_pow_pos]
  · rename_i h
    rw [← Nat.log2_lt h]
    omega
theorem bl_shift {n k : Nat} (h : 2 ^ k ≤ n) : bl n = bl (n / 2 ^ k) + k := by
  have key : ∀ b, bl n ≤ b + k ↔ bl (n / 2 ^ k) ≤ b := by
    intro b
    rw [bl_le, bl_le, Nat.div_lt_iff_lt_mul (Nat.two_pow_pos k), Nat.pow_add]
  have hk : k < bl n := by
    rcases Nat.lt_or_ge k (bl n) with h1 | h1
    · exact h1
    · have := bl_le.1 h1; omega
  have h1 := (key (bl (n / 2 ^ k))).2 (Nat.le_refl _)
  have h2 := (key (bl n - k)).1 (by omega)
  omega
theorem fdiv_pow (m k : Nat) (hk : k < 64) : (m : Int).fdiv (2 ^ min k IntKind.u64.bits) = ((m / 2 ^ k : Nat) : Int) := by
  rw [show min k IntKind.u64.bits = k from Nat.min_eq_left (by show k ≤ 64; omega), Int.fdiv_eq_ediv_of_nonneg _ (by exact_mod_cast Nat.zero_le _)]
  push_cast
  rfl
/-- An element of a constant string, by a byte: looked at for all bytes. -/
def ev0 (m : Nat) : Operand → Value
  | .const v => v
  | _ => .int .u8 m
noncomputable def tabB (o : Oper) (m : Nat) : Bool := match pureVal Try.prog (execOp (ev0 m) o) with
  | some (.value (.int .u8 v)) => decide (v = bl m)
  | _ => false
theorem iplain_tab {e : XEnv} {d : Option Tmp} {t ty : TypeId} {p : String} {af : Array Edge} {g : Option (Nat × Bool)} {B : ByteArray} {y : Nat} {m : Nat} (hb : (List.range 256).all (tabB ⟨d, .index t (.const (.string B)) (.tmp y), ty, p, af, g⟩) = true) (hy : e.get y = .int .u8 m) (hm : m < 256) :
    iplain Try.prog e.ev ⟨d, .index t (.const (.string B)) (.tmp y), ty, p, af, g⟩ = some (.int .u8 (bl m)) := by
  have h1 : execOp e.ev ⟨d, .index t (.const (.string B)) (.tmp y), ty, p, af, g⟩ = execOp (ev0 m) ⟨d, .index t (.const (.string B)) (.tmp y), ty, p, af, g⟩ := by
    simp [execOp, ev_const, ev_tmp, hy, ev0]
  have h2 := List.all_eq_true.1 hb m (List.mem_range.2 hm)
  unfold tabB at h2
  unfold iplain
  dsimp only
  rw [h1, if_pos]
  · split at h2
    · rename_i v hv
      rw [hv]
      simp at h2
      subst h2
      rfl
    · cases h2
  · simp [Op.operands, ev_const, ev_tmp, hy, plainV, scal]
theorem len64_c {h : IHeap} {n : Nat} (hn : n < 2 ^ 64) : ICall Try.prog 27 #[.int .u64 n] h (.int .i64 (bl n)) h := by
  have hb := hn
  clear hn
  refine ICall.of_FN ?_
  refine FN.enter mixed (fn := Try.f27) (by kernel_rfl) rfl (by kernel_rfl) fun e hn hg hd => ?_
  simp [Try.f27] at hn
  have a0 : e.get 0 = .int .u64 n := hg 0 (by omega)
  clear hg
  rw [WP_seq (Q := _)]
  simp (maxSteps := 1000000) (disch := first | (simp; done) | (simp only [IHeap.size_push', IHeap.size_set']; omega) | omega) [-WP_seq, a0, hn, hd]
  refine WP.cut1 (fun e' h' => h' = h ∧ ∃ m r : Nat, e'.n = 25 ∧ e'.dfr = [] ∧ e'.get 0 = .int .u64 m ∧ e'.get 2 = .int .i64 r ∧ bl m + r = bl n ∧ m < 2 ^ 32 ∧ r ≤ 32) ?_ ?_
  · by_cases c1 : (4294967296 : Int) ≤ n
    · simp (maxSteps := 1000000) (disch := first | (simp; done) | (simp only [IHeap.size_push', IHeap.size_set']; omega) | omega) [a0, hn, hd, c1, fdiv_pow]
      have : bl n = bl (n / 4294967296) + 32 := bl_shift (n := n) (k := 32) (by omega)
      exact ⟨n / 4294967296, by omega, 32, by omega, by omega, by omega, by omega⟩
    · simp (maxSteps := 1000000) (disch := first | (simp; done) | (simp only [IHeap.size_push', IHeap.size_set']; omega) | omega) [a0, hn, hd, c1]
      exact ⟨n, by omega, 0, by omega, by omega, by omega, by omega⟩
  clear hn hd a0 e
  rintro e h1 ⟨rfl, m, r, hn, hd, a0, a2, hm, hr, hr2⟩
  refine WP.cut1 (fun e' h' => h' = h1 ∧ ∃ m r : Nat, e'.n = 25 ∧ e'.dfr = [] ∧ e'.get 0 = .int .u64 m ∧ e'.get 2 = .int .i64 r ∧ bl m + r = bl n ∧ m < 2 ^ 16 ∧ r ≤ 48) ?_ ?_
  · by_cases c1 : (65536 : Int) ≤ m
    · simp (maxSteps := 1000000) (disch := first | (simp; done) | (simp only [IHeap.size_push', IHeap.size_set']; omega) | omega) [a0, a2, hn, hd, c1, fdiv_pow]
      have : bl m = bl (m / 65536) + 16 := bl_shift (n := m) (k := 16) (by omega)
      exact ⟨m / 65536, by omega, r + 16, by omega, by omega, by omega, by omega⟩
    · simp (maxSteps := 1000000) (disch := first | (simp; done) | (simp only [IHeap.size_push', IHeap.size_set']; omega) | omega) [a0, a2, hn, hd, c1]
      exact ⟨m, by omega, r, by omega, by omega, by omega, by omega⟩
  clear hn hd a0 a2 e hr hr2 hm m r
  rintro e h1 ⟨rfl, m, r, hn, hd, a0, a2, hm, hr, hr2⟩
  refine WP.cut1 (fun e' h' => h' = h1 ∧ ∃ m r : Nat, e'.n = 25 ∧ e'.dfr = [] ∧ e'.get 0 = .int .u64 m ∧ e'.get 2 = .int .i64 r ∧ bl m + r = bl n ∧ m < 2 ^ 8 ∧ r ≤ 56) ?_ ?_
  · by_cases c1 : (256 : Int) ≤ m
    · simp (maxSteps := 1000000) (disch := first | (simp; done) | (simp only [IHeap.size_push', IHeap.size_set']; omega) | omega) [a0, a2, hn, hd, c1, fdiv_pow]
      have : bl m = bl (m / 256) + 8 := bl_shift (n := m) (k := 8) (by omega)
      exact ⟨m / 256, by omega, r + 8, by omega, by omega, by omega, by omega⟩
    · simp (maxSteps := 1000000) (disch := first | (simp; done) | (simp only [IHeap.size_push', IHeap.size_set']; omega) | omega) [a0, a2, hn, hd, c1]
      exact ⟨m, by omega, r, by omega, by omega, by omega, by omega⟩
  clear hn hd a0 a2 e hr hr2 hm m r
  rintro e h1 ⟨rfl, m, r, hn, hd, a0, a2, hm, hr, hr2⟩
  simp (maxSteps := 1000000) (disch := first | (simp; done) | (simp only [IHeap.size_push', IHeap.size_set']; omega) | omega) [a0, a2, hn, hd, idxV]
  unfold jopt
  simp only [Hid.ap_mk]
  rw [jgen_plain (v := .int .u8 (bl m))]
  · simp (maxSteps := 1000000) (disch := first | (simp; done) | (simp only [IHeap.size_push', IHeap.size_set']; omega) | omega) [a0, a2, hn, hd]
    have := bl_le.2 hr
    have w1 : IntKind.i64.wrap (bl m : Int) = bl m := wrap64 (by omega) (by omega)
    rw [w1, wrap64 (by omega) (by omega)]
    omega
  · simp [iop]
  · simp [ipure]
    exact iplain_tab (by kernel_rfl) (by simp (maxSteps := 1000000) (disch := first | (simp; done) | (simp only [IHeap.size_push', IHeap.size_set']; omega) | omega) [hn]) hr
theorem HG.set_by (x : HG) {i : Nat} (hi : i < 65) (v : Int) : x.row.set i (.int .u64 v) = ({ x with by' := x.by'.set i v, hl := by simp [x.hl] } : HG).row := by
  unfold HG.row
  rw [List.set_append_left _ _ (by simp [x.hl, hi])]
  simp
theorem HG.set65 (x : HG) (v : Int) : x.row.set 65 (.int .u64 v) = ({ x with sum := v } : HG).row := by
  unfold HG.row
  rw [List.set_append_right _ _ (by simp [x.hl])]
  simp [x.hl]
theorem HG.set66 (x : HG) (v : Int) : x.row.set 66 (.int .u64 v) = ({ x with least := v } : HG).row := by
  unfold HG.row
  rw [List.set_append_right _ _ (by simp [x.hl])]
  simp [x.hl]
theorem HG.set67 (x : HG) (v : Int) : x.row.set 67 (.int .u64 v) = ({ x with greatest := v } : HG).row := by
  unfold HG.row
  rw [List.set_append_right _ _ (by simp [x.hl])]
  simp [x.hl]
theorem HG.sp_by (x : HG) {i : Nat} (hi : i < 65) (v : Int) : splice x.row i [.int .u64 v] = ({ x with by' := x.by'.set i v, hl := by simp [x.hl] } : HG).row := by
  rw [splice_one _ (by rw [HG.row_len]; omega), HG.set_by x hi]
theorem HG.sp65 (x : HG) (v : Int) : splice x.row 65 [.int .u64 v] = ({ x with sum := v } : HG).row := by
  rw [splice_one _ (by rw [HG.row_len]; omega), HG.set65]
theorem HG.sp66 (x : HG) (v : Int) : splice x.row 66 [.int .u64 v] = ({ x with least := v } : HG).row := by
  rw [splice_one _ (by rw [HG.row_len]; omega), HG.set66]
theorem HG.sp67 (x : HG) (v : Int) : splice x.row 67 [.int .u64 v] = ({ x with greatest := v } : HG).row := by
  rw [splice_one _ (by rw [HG.row_len]; omega), HG.set67]
/-- One more number. -/
def HG.first (x : HG) (n : Nat) : HG := if x.by'.sum = 0 then { x with least := n, greatest := n } else x
def HG.wide (x : HG) (n : Nat) : HG := { x with least := if (n : Int) < x.least then n else x.least, greatest := if (n : Int) > x.greatest then n else x.greatest }
def HG.add (x : HG) (n : Nat) : HG := { (x.first n).wide n with by' := x.by'.set (bl n) (x.by'.getD (bl n) 0 + 1), sum := IntKind.u64.wrap (x.sum + n), hl := by simp [x.hl] }
theorem HG.first_by (x : HG) (n : Nat) : (x.first n).by' = x.by' := by unfold HG.first; split <;> rfl
theorem HG.first_sum (x : HG) (n : Nat) : (x.first n).sum = x.sum := by unfold HG.first; split <;> rfl
theorem HG.ok.first {x : HG} {N : Int} (ok : x.ok N) (n : Nat) : (x.first n).ok N := ⟨by rw [HG.first_by]; exact ok.pos, by rw [HG.first_by]; exact ok.tot⟩
theorem HG.ok.wide {x : HG} {N : Int} (ok : x.ok N) (n : Nat) : (x.wide n).ok N := ⟨ok.pos, ok.tot⟩
theorem add_c {h : IHeap} {p : Nat} {x : HG} {n : Nat} (hb : n < 2 ^ 64) (ok : x.ok 1000) (hp : h.get p = some x.obj) : ICall Try.prog 9 #[.pointer (some ⟨p, 0, none⟩), .int .u64 n] h (.tuple #[]) (h.set p (x.add n).obj) := by
  refine ICall.of_FN ?_
  refine FN.enter mixed (fn := Try.f9) (by kernel_rfl) rfl (by kernel_rfl) fun e hn hg hd => ?_
  simp [Try.f9] at hn
  have a0 : e.get 0 = .pointer (some ⟨p, 0, none⟩) := hg 0 (by omega)
  have a1 : e.get 1 = .int .u64 n := hg 1 (by omega)
  clear hg
  have hpz := IHeap.get_lt hp
  simp (maxSteps := 1000000) (disch := first | (simp; done) | (simp only [IHeap.size_push', IHeap.size_set']; omega) | omega) [a0, a1, hn, hd]
  refine FN.of (ends_c ok hp) ?_
  simp only [HG.obj] at hp ⊢
  have hl := x.hl
  have hb6 : bl n ≤ 64 := bl_le.2 hb
  have hb7 : bl n < 65 := by omega
  have hbp := ok.pos _ (List.getElem_mem (l := x.by') (n := bl n) (by omega))
  have hgd : x.by'.getD (bl n) 0 = x.by'[bl n] := by simp [hl, hb7]
  have hb9 : bl n ≤ 67 := by omega
  have hb8 : (bl n : Int) < 65 := by omega
  have tk := sum_take_le (bl n) ok.pos
  have tk2 := sum_take_le (bl n + 1) ok.pos
  have tot := ok.tot
  rw [sum_take_succ (by omega)] at tk2
  by_cases hs : x.by'.sum = 0
  · simp (maxSteps := 1000000) (disch := first | (simp; done) | (simp only [IHeap.size_push', IHeap.size_set']; omega) | omega) [a0, a1, hn, hd, hp, HG.ends, hs, HG.row_len, HG.sp65, HG.sp66, HG.sp67, HG.sp_by, HG.get65, HG.get66, HG.get67, HG.get_by]
    refine ⟨niC_of (by kernel_rfl), FN.of (len64_c hb) ?_⟩
    simp (maxSteps := 1000000) (disch := first | (simp; done) | (simp only [IHeap.size_push', IHeap.size_set']; omega) | omega) [a0, a1, hn, hd, hp, hs, HG.row_len, HG.sp65, HG.sp66, HG.sp67, HG.sp_by, HG.get65, HG.get66, HG.get67, HG.get_by, hb7, hb8, hb9, wrapU64]
    exact ⟨niC_of (by kernel_rfl), by simp only [HG.add, HG.first, HG.wide, hs, HG.obj, hgd, if_true, if_false, Int.lt_irrefl, gt_iff_lt]⟩
  · simp (maxSteps := 1000000) (disch := first | (simp; done) | (simp only [IHeap.size_push', IHeap.size_set']; omega) | omega) [a0, a1, hn, hd, hp, HG.ends, hs, HG.row_len, HG.sp65, HG.sp66, HG.sp67, HG.sp_by, HG.get65, HG.get66, HG.get67, HG.get_by]
    refine ⟨niC_of (by kernel_rfl), FN.of (len64_c hb) ?_⟩
    simp (maxSteps := 1000000) (disch := first | (simp; done) | (simp only [IHeap.size_push', IHeap.size_set']; omega) | omega) [a0, a1, hn, hd, hp, hs, HG.row_len, HG.sp65, HG.sp66, HG.sp67, HG.sp_by, HG.get65, HG.get66, HG.get67, HG.get_by, hb7, hb8, hb9, wrapU64]
    exact ⟨niC_of (by kernel_rfl), by simp only [HG.add, HG.first, HG.wide, hs, HG.obj, hgd, if_true, if_false, Int.lt_irrefl, gt_iff_lt]⟩
end Go.Proofs.Ytnmbpehficchkaa.Ideal
