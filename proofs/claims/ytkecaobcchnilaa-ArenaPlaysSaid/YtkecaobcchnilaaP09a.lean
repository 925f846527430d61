import Derived.Test.YtkecaobcchnilaaI29
import Derived.Test.YtkecaobcchnilaaF09
noncomputable section
open Go.Proofs
namespace Go.Proofs.Ytkecaobcchnilaa.Ideal
set_option linter.unusedSimpArgs false
set_option linter.unusedVariables false
set_option linter.unusedSectionVars false
set_option linter.unnecessarySimpa false
set_option maxRecDepth 100000
set_option maxHeartbeats 2000000
attribute [-simp] IHeap.size_set IHeap.size_push
attribute [local simp ↓] Hid.ap_mk
attribute [local simp] scopeQ_normal scopeQ_ret scopeQ_exit WP_skip WP_label WP_exit WP_goto WP_ret WP_region WP_seq WP_cond WP_block WP_scope WP_loop WP_range thenQ_normal thenQ_ret thenQ_exit thenQ_goto loopQ_normal loopQ_ret loopQ_exit invQ_normal invQ_ret invQ_exit outOf_normal outOf_ret outOf_goto outOf_exit ev_tmp ev_const ev_func
  wops_nil wops_cons wantedE_none wantedE_some jgd_some wnx_eq niC_false wdo_move wdo_assign wdo_pick wdo_load wdo_store wdo_alloc wdo_box wdo_fieldAddr wdo_indexAddr wdo_field wdo_extract wdo_build wdo_buildSlice wdo_makeSlice wdo_binOp wdo_unOp wdo_makeFunc wdo_nilCheck wdo_callV wdo_len wdo_append wdo_copy wdo_delete wdo_max wdo_min wdo_convert jcvt_int
  xput_get put_n put_none put_dfr ibin finQ_n finQ_r finD_nil splice_one ires_nil ires_one ires_two ires_three ires1_tmp ires1_cell jcell_ptr rowLoad_row wrap64 wrapU64 wrapU8 wrapU16 wrapU32 callV_fn buildOf Instr.fill Value.cells Value.oneCell' kindOf slots_all splice_all IHeap.size_set' IHeap.size_push' IHeap.get_set_same IHeap.get_set_ne IHeap.get_pushed IHeap.get_push_ne IHeap.set_set IHeap.set_push IHeap.set_pushed IHeap.set_set3 getU_nil getU_same getU_ne jif_true jif_false pushH_eq setH_eq forceL_eq forceV_eq ibuildSlice
attribute [-simp] Value.oneCell'
theorem mixed : Try.prog.follows .mixedOrders = true := by kernel_rfl
theorem ni51 : notInt Try.prog 51 = true := by kernel_rfl
theorem one_int (k : IntKind) (n : Int) : Value.oneCell' (.int k n) = true := byEq rfl
theorem one_slc (a : Option Addr) (n c : Nat) : Value.oneCell' (.slice a n c) = true := byEq rfl
/-- Cells: serial, next. -/
def flat : List (Int × Int) → List Value
  | [] => []
  | c :: l => .int .u64 c.1 :: .int .i64 c.2 :: flat l
theorem flat_len : ∀ l : List (Int × Int), (flat l).length = l.length * 2
  | [] => rfl
  | c :: l => by simp [flat, flat_len l]; omega
theorem flat_app : ∀ l m : List (Int × Int), flat l ++ flat m = flat (l ++ m)
  | [], m => rfl
  | c :: l, m => by simp [flat, flat_app l m]
theorem flat_get0 : ∀ {l : List (Int × Int)} {i : Nat} {c : Int × Int}, l[i]? = some c → (flat l)[i * 2]? = some (.int .u64 c.1)
  | c :: l, 0, d, h => by
    rw [List.getElem?_cons_zero] at h
    cases h; rfl
  | c :: l, i + 1, d, h => by
    have := flat_get0 (l := l) (i := i) (by simpa using h)
    rw [show (i + 1) * 2 = i * 2 + 1 + 1 by omega]
    simpa [flat] using this
theorem flat_get1 : ∀ {l : List (Int × Int)} {i : Nat} {c : Int × Int}, l[i]? = some c → (flat l)[i * 2 + 1]? = some (.int .i64 c.2)
  | c :: l, 0, d, h => by
    rw [List.getElem?_cons_zero] at h
    cases h; rfl
  | c :: l, i + 1, d, h => by
    have := flat_get1 (l := l) (i := i) (by simpa using h)
    rw [show (i + 1) * 2 + 1 = i * 2 + 1 + 1 + 1 by omega]
    simpa [flat] using this
theorem splice_cons {a : Value} {cs vs : List Value} {q : Nat} : splice (a :: cs) (q + 1) vs = a :: splice cs q vs := by
  have e : q + 1 + vs.length = (q + vs.length) + 1 := by omega
  simp [splice, e]
theorem flat_set : ∀ {l : List (Int × Int)} {i : Nat} {s n : Int}, i < l.length → splice (flat l) (i * 2) [.int .u64 s, .int .i64 n] = flat (l.set i (s, n))
  | c :: l, 0, s, n, h => by simp [flat, splice]
  | c :: l, i + 1, s, n, h => by
    have := flat_set (l := l) (i := i) (s := s) (n := n) (by simpa using h)
    rw [show (i + 1) * 2 = i * 2 + 1 + 1 by omega]
    simp only [flat, List.set_cons_succ]
    rw [splice_cons, splice_cons, this]
theorem flat_all : ∀ l : List (Int × Int), (flat l).all (·.oneCell') = true
  | [] => rfl
  | c :: l => by simp [flat, flat_all l, one_int]
/-- An arena. -/
structure AR where
  cs : List (Int × Int)
  free : Int
  size : Int
  ser : Int
  live : Int
def AR.slc (a : AR) (q : Nat) : Value := if a.cs = [] then .slice none 0 0 else .slice (some ⟨q, 0, none⟩) a.cs.length a.cs.length
def AR.row (a : AR) (q : Nat) : List Value := [a.slc q, .int .i64 a.free, .int .i64 a.size, .int .u64 a.ser, .int .i64 a.live]
structure AR.at (a : AR) (h : IHeap) (p q : Nat) : Prop where
  gp : h.get p = some (.row false 0 (a.row q))
  gq : a.cs ≠ [] → h.get q = some (.row false 2 (flat a.cs)) ∧ q ≠ p
structure AR.ok (a : AR) : Prop where
  size : 1 ≤ a.size ∧ a.size ≤ 65536
  len : (a.cs.length : Int) ≤ a.size
  free : -1 ≤ a.free ∧ a.free < a.cs.length
  ser : 0 ≤ a.ser ∧ a.ser < 1000000000
  live : 0 ≤ a.live ∧ a.live < 1000000000
theorem none_c {h : IHeap} {p q : Nat} {a : AR} (ok : a.ok) (x : a.at h p q) : ICall Try.prog 22 #[.pointer (some ⟨p, 0, none⟩)] h (.bool false) h := by
  refine ICall.of_FN ?_
  refine FN.enter mixed (fn := Try.f22) (by kernel_rfl) rfl (by kernel_rfl) fun e hn hg hd => ?_
  simp [Try.f22] at hn
  have a0 : e.get 0 = .pointer (some ⟨p, 0, none⟩) := hg 0 (by omega)
  clear hg
  have := ok.size
  have hp := x.gp
  have : ¬ a.size = 0 := by omega
  simp (maxSteps := 1000000) (disch := first | (simp; done) | (simp only [IHeap.size_push', IHeap.size_set']; omega) | omega) [a0, hn, hp, AR.row, hd, this]
theorem len_c {h : IHeap} {p q : Nat} {a : AR} (ok : a.ok) (x : a.at h p q) : ICall Try.prog 9 #[.pointer (some ⟨p, 0, none⟩)] h (.int .i64 a.live) h := by
  refine ICall.of_FN ?_
  refine FN.enter mixed (fn := Try.f9) (by kernel_rfl) rfl (by kernel_rfl) fun e hn hg hd => ?_
  simp [Try.f9] at hn
  have a0 : e.get 0 = .pointer (some ⟨p, 0, none⟩) := hg 0 (by omega)
  clear hg
  have hp := x.gp
  simp (maxSteps := 1000000) (disch := first | (simp; done) | (simp only [IHeap.size_push', IHeap.size_set']; omega) | omega) [a0, hn, hd]
  refine FN.of (none_c ok x) ?_
  simp (maxSteps := 1000000) (disch := first | (simp; done) | (simp only [IHeap.size_push', IHeap.size_set']; omega) | omega) [a0, hn, hd, hp, AR.row]
def newAR (n : Int) : AR := { cs := [], free := -1, size := n, ser := 0, live := 0 }
theorem new_c {h : IHeap} {n : Int} (hn1 : 1 ≤ n ∧ n ≤ 65536) : ICall Try.prog 7 #[.int .i64 n] h (.tuple #[.pointer (some ⟨h.size, 0, none⟩), .int .i64 0]) (h.push (.row false 0 ((newAR n).row 0))) := by
  refine ICall.of_FN ?_
  refine FN.enter mixed (fn := Try.f7) (by kernel_rfl) rfl (by kernel_rfl) fun e hn hg hd => ?_
  simp [Try.f7] at hn
  have a0 : e.get 0 = .int .i64 n := hg 0 (by omega)
  clear hg
  have h1 : ¬ n < 1 := by omega
  have h2 : ¬ 65536 < n := by omega
  simp (maxSteps := 1000000) (disch := first | (simp; done) | (simp only [IHeap.size_push', IHeap.size_set']; omega) | omega) [a0, hn, hd, h1, h2, newAR, AR.row, AR.slc]
def AR.lives (a : AR) (i s : Int) : Bool := decide (s > 0) && decide (0 ≤ i) && decide (i < a.cs.length) && ((a.cs.getD i.toNat (0, 0)).1 == s)
theorem live_c {h : IHeap} {p q : Nat} {a : AR} (ok : a.ok) (x : a.at h p q) (i s : Int) : CT Try.prog 11 #[.pointer (some ⟨p, 0, none⟩), .agg #[.int .i64 i, .int .u64 s]] h (.bool (a.lives i s)) [] := by
  refine FN.enter mixed (fn := Try.f11) (by kernel_rfl) rfl (by kernel_rfl) fun e hn hg hd => ?_
  simp [Try.f11] at hn
  have a0 : e.get 0 = .pointer (some ⟨p, 0, none⟩) := hg 0 (by omega)
  have a1 : e.get 1 = .agg #[.int .i64 i, .int .u64 s] := hg 1 (by omega)
  clear hg
  have hp := x.gp
  have hpz := IHeap.get_lt hp
  simp (maxSteps := 1000000) (disch := first | (simp; done) | (simp only [IHeap.size_push', IHeap.size_set']; omega) | omega) [a0, a1, hn, hd]
  have x2 : a.at (h.push (.row false 0 [.int .i64 i, .int .u64 s])) p q := by
    refine ⟨by simp (maxSteps := 1000000) (disch := first | (simp; done) | (simp only [IHeap.size_push', IHeap.size_set']; omega) | omega) [hp], fun hc => ?_⟩
    obtain ⟨g1, g2⟩ := x.gq hc
    have := IHeap.get_lt g1
    exact ⟨by simp (maxSteps := 1000000) (disch := first | (simp; done) | (simp only [IHeap.size_push', IHeap.size_set']; omega) | omega) [g1], g2⟩
  have hp2 := x2.gp
  have hlen := ok.len
  have hsz := ok.size
  by_cases h1 : 0 < s
  · by_cases h2 : 0 ≤ i
    · obtain ⟨k, rfl⟩ : ∃ k : Nat, i = k := ⟨i.toNat, by omega⟩
      by_cases hc : a.cs = []
      · refine FN.of (none_c ok x2) ?_
        have h3 : ¬ (k : Int) < 0 := by omega
        simp (maxSteps := 1000000) (disch := first | (simp; done) | (simp only [IHeap.size_push', IHeap.size_set']; omega) | omega) [a0, a1, hn, hd, hp, AR.row, AR.slc, hc, h1, h2, h3]
        refine ⟨niC_of (by kernel_rfl), by simp [AR.lives, hc, h3], ⟨by simp <;> omega, fun i hi => by simp only [IHeap.get_set_if, IHeap.get_push, IHeap.size_set', IHeap.size_push', getU, ]; grind⟩⟩
      · have hq := (x2.gq hc).1
        by_cases h3 : (k : Int) < a.cs.length
        · have h4 : k < a.cs.length := by omega
          have h5 := flat_get0 (List.getElem?_eq_getElem h4)
          refine FN.of (none_c ok x2) ?_
          simp (maxSteps := 1000000) (disch := first | (simp; done) | (simp only [IHeap.size_push', IHeap.size_set']; omega) | omega) [a0, a1, hn, hd, hp, AR.row, AR.slc, hc, h1, h2, h3, h5, hq]
          refine ⟨niC_of (by kernel_rfl), ?_, ⟨by simp <;> omega, fun i hi => by simp only [IHeap.get_set_if, IHeap.get_push, IHeap.size_set', IHeap.size_push', getU, ]; grind⟩⟩
          simp [AR.lives, h1, h4]
        · refine FN.of (none_c ok x2) ?_
          simp (maxSteps := 1000000) (disch := first | (simp; done) | (simp only [IHeap.size_push', IHeap.size_set']; omega) | omega) [a0, a1, hn, hd, hp, AR.row, AR.slc, hc, h1, h2, h3]
          have h4 : ¬ k < a.cs.length := by omega
          refine ⟨niC_of (by kernel_rfl), by simp [AR.lives, h4], ⟨by simp <;> omega, fun i hi => by simp only [IHeap.get_set_if, IHeap.get_push, IHeap.size_set', IHeap.size_push', getU, ]; grind⟩⟩
    · refine FN.of (none_c ok x2) ?_
      simp (maxSteps := 1000000) (disch := first | (simp; done) | (simp only [IHeap.size_push', IHeap.size_set']; omega) | omega) [a0, a1, hn, hd, h1, h2]
      refine ⟨niC_of (by kernel_rfl), by simp [AR.lives, h2], ⟨by simp <;> omega, fun i hi => by simp only [IHeap.get_set_if, IHeap.get_push, IHeap.size_set', IHeap.size_push', getU, ]; grind⟩⟩
  · refine FN.of (none_c ok x2) ?_
    simp (maxSteps := 1000000) (disch := first | (simp; done) | (simp only [IHeap.size_push', IHeap.size_set']; omega) | omega) [a0, a1, hn, hd, h1]
    refine ⟨niC_of (by kernel_rfl), by simp [AR.lives, h1], ⟨by simp <;> omega, fun i hi => by simp only [IHeap.get_set_if, IHeap.get_push, IHeap.size_set', IHeap.size_push', getU, ]; grind⟩⟩
end Go.Proofs.Ytkecaobcchnilaa.Ideal
