import Derived.Test.YtmobpbhbllhdcaaI40
import Derived.Test.YtmobpbhbllhdcaaF14
noncomputable section
open Go.Proofs
namespace Go.Proofs.Ytmobpbhbllhdcaa.Ideal
open Go.RowKit
set_option linter.unusedSimpArgs false
set_option linter.unusedVariables false
set_option linter.unusedSectionVars false
set_option linter.unnecessarySimpa false
set_option maxRecDepth 100000
set_option maxHeartbeats 2000000
attribute [-simp] IHeap.size_set IHeap.size_push
attribute [local simp ↓] Hid.ap_mk
attribute [local simp] scopeQ_normal scopeQ_ret scopeQ_exit WP_skip WP_label WP_exit WP_goto WP_ret WP_region WP_seq WP_cond WP_block WP_scope WP_loop WP_range thenQ_normal thenQ_ret thenQ_exit thenQ_goto loopQ_normal loopQ_ret loopQ_exit invQ_normal invQ_ret invQ_exit outOf_normal outOf_ret outOf_goto outOf_exit ev_tmp ev_const ev_func
  wops_nil wops_cons wantedE_none wantedE_some jgd_some wnx_eq niC_false wdo_move wdo_assign wdo_pick wdo_load wdo_store wdo_alloc wdo_box wdo_fieldAddr wdo_indexAddr wdo_field wdo_extract wdo_build wdo_buildSlice wdo_makeSlice wdo_binOp wdo_unOp wdo_makeFunc wdo_nilCheck wdo_callV wdo_len wdo_append wdo_copy wdo_delete wdo_max wdo_min wdo_convert jcvt_int
  xput_get put_n put_none put_dfr ibin finQ_n finQ_r finD_nil splice_one ires_nil ires_one ires_two ires_three ires1_tmp ires1_cell jcell_ptr rowLoad_row wrap64 wrapU64 wrapU8 wrapU16 wrapU32 callV_fn buildOf Instr.fill Value.cells Value.oneCell' kindOf slots_all splice_all IHeap.size_set' IHeap.size_push' IHeap.get_set_same IHeap.get_set_ne IHeap.get_pushed IHeap.get_push_ne IHeap.set_set IHeap.set_push IHeap.set_pushed IHeap.set_set3 getU_nil getU_same getU_ne jif_true jif_false pushH_eq setH_eq forceL_eq forceV_eq ibuildSlice
attribute [-simp] Value.oneCell'
theorem mixed : Try.prog.follows .mixedOrders = true := by kernel_rfl
theorem one_int (k : IntKind) (n : Int) : (Value.int k n).oneCell' = true := byEq rfl
/-- Places: hash, what, state. -/
abbrev PL := Int × Int × Int
def plV (c : PL) : List Value := [.int .u64 c.1, .int .u32 c.2.1, .int .u8 c.2.2]
def flat3 : List PL → List Value
  | [] => []
  | c :: l => .int .u64 c.1 :: .int .u32 c.2.1 :: .int .u8 c.2.2 :: flat3 l
theorem flat3_len : ∀ l : List PL, (flat3 l).length = l.length * 3
  | [] => rfl
  | c :: l => by simp [flat3, flat3_len l]; omega
theorem flat3_all : ∀ l : List PL, (flat3 l).all (·.oneCell') = true
  | [] => rfl
  | c :: l => by simp [flat3, flat3_all l, one_int]
theorem flat3_rep (n : Nat) : zeros #[.int .u64 0, .int .u32 0, .int .u8 0] n = flat3 (List.replicate n (0, 0, 0)) := by
  induction n with
  | zero => rfl
  | succ n ih =>
    unfold zeros at ih ⊢
    rw [List.replicate_succ, List.flatten_cons, ih, List.replicate_succ]
    rfl
theorem flat3_slots : ∀ {l : List PL} {i : Nat} {c : PL}, l[i]? = some c → slots (flat3 l) (i * 3) 3 = some (plV c)
  | [], i, c, h => by simp at h
  | d :: l, 0, c, h => by
    simp at h; subst h
    simp [slots, flat3, plV]
  | d :: l, i + 1, c, h => by
    have := flat3_slots (l := l) (i := i) (c := c) (by simpa using h)
    unfold slots at this ⊢
    rw [show (i + 1) * 3 = i * 3 + 1 + 1 + 1 by omega]
    simp only [flat3, List.length_cons, List.drop_succ_cons] at this ⊢
    split at this
    · rw [if_pos (by omega)]; exact this
    · cases this
theorem slots_at {cs vs : List Value} {q n j : Nat} (h : slots cs q n = some vs) (hj : j < n) : cs[q + j]? = vs[j]? := by
  unfold slots at h
  split at h
  · cases h
    rw [List.getElem?_take, if_pos hj, List.getElem?_drop]
  · cases h
theorem flat3_get0 {l : List PL} {i : Nat} {c : PL} (h : l[i]? = some c) : (flat3 l)[i * 3]? = some (.int .u64 c.1) := slots_at (flat3_slots h) (j := 0) (by omega)
theorem flat3_get1 {l : List PL} {i : Nat} {c : PL} (h : l[i]? = some c) : (flat3 l)[i * 3 + 1]? = some (.int .u32 c.2.1) := slots_at (flat3_slots h) (j := 1) (by omega)
theorem flat3_get2 {l : List PL} {i : Nat} {c : PL} (h : l[i]? = some c) : (flat3 l)[i * 3 + 2]? = some (.int .u8 c.2.2) := slots_at (flat3_slots h) (j := 2) (by omega)
theorem flat3_slots2 {l : List PL} {i : Nat} {c : PL} (h : l[i]? = some c) : slots (flat3 l) (i * 3) 2 = some [.int .u64 c.1, .int .u32 c.2.1] := by
  have h3 := flat3_slots h
  unfold slots at h3 ⊢
  split at h3
  · rw [if_pos (by omega)]
    simp only [Option.some.injEq] at h3 ⊢
    have := congrArg (List.take 2) h3
    simpa [List.take_take, plV] using this
  · cases h3
theorem flat3_at2 {l : List PL} {i : Nat} {c : PL} (h : l[i]? = some c) (hh : i * 3 + 2 < (flat3 l).length) : (flat3 l)[i * 3 + 2]'hh = .int .u8 c.2.2 := by
  have := flat3_get2 h
  rw [List.getElem?_eq_getElem hh] at this
  exact Option.some.inj this
theorem splice_cons {a : Value} {cs vs : List Value} {q : Nat} : splice (a :: cs) (q + 1) vs = a :: splice cs q vs := by
  have e : q + 1 + vs.length = (q + vs.length) + 1 := by omega
  simp [splice, e]
theorem flat3_set : ∀ {l : List PL} {i : Nat} {a b c : Int}, i < l.length → splice (flat3 l) (i * 3) [.int .u64 a, .int .u32 b, .int .u8 c] = flat3 (l.set i (a, b, c))
  | d :: l, 0, a, b, c, h => by simp [flat3, splice]
  | d :: l, i + 1, a, b, c, h => by
    have := flat3_set (l := l) (i := i) (a := a) (b := b) (c := c) (by simpa using h)
    rw [show (i + 1) * 3 = i * 3 + 1 + 1 + 1 by omega]
    simp only [flat3, List.set_cons_succ]
    rw [splice_cons, splice_cons, splice_cons, this]
/-- A table. -/
structure TB where
  ps : List PL
  en : Int
  ma : Int
def TB.slc (t : TB) (q : Nat) : Value := if t.ps = [] then .slice none 0 0 else .slice (some ⟨q, 0, none⟩) t.ps.length t.ps.length
def TB.row (t : TB) (q : Nat) : List Value := [t.slc q, .int .i64 t.en, .int .i64 t.ma]
structure TB.at (t : TB) (h : IHeap) (p q : Nat) : Prop where
  gp : h.get p = some (.row false 0 (t.row q))
  gq : t.ps ≠ [] → h.get q = some (.row false 3 (flat3 t.ps)) ∧ q ≠ p
structure TB.ok (t : TB) : Prop where
  len : t.ps.length ≤ 300000
  en : 0 ≤ t.en ∧ t.en < 1000000000
  ma : 0 ≤ t.ma ∧ t.ma < 1000000000
/-- A table, or none. -/
def TIs (h : IHeap) (A : Option Addr) (t : TB) (q : Nat) : Prop := (A = none ∧ t = ⟨[], 0, 0⟩) ∨ ∃ p, A = some ⟨p, 0, none⟩ ∧ t.at h p q
theorem tat_inv {h h' : IHeap} {p q : Nat} {t : TB} (x : t.at h p q) (k : ∀ i, i < h.size → h'.get i = h.get i) : t.at h' p q := by
  refine ⟨(k _ (IHeap.get_lt x.gp)).trans x.gp, fun hc => ?_⟩
  obtain ⟨g1, g2⟩ := x.gq hc
  exact ⟨(k _ (IHeap.get_lt g1)).trans g1, g2⟩
theorem TIs.inv {h h' : IHeap} {A : Option Addr} {q : Nat} {t : TB} (x : TIs h A t q) (k : ∀ i, i < h.size → h'.get i = h.get i) : TIs h' A t q := by
  rcases x with x | ⟨p, e, x⟩
  · exact .inl x
  · exact .inr ⟨p, e, tat_inv x k⟩
theorem places_c {h : IHeap} {A : Option Addr} {q : Nat} {t : TB} (x : TIs h A t q) : ICall Try.prog 35 #[.pointer A] h (.int .i64 t.ps.length) h := by
  refine ICall.of_FN ?_
  refine FN.enter mixed (fn := Try.f35) (by kernel_rfl) rfl (by kernel_rfl) fun e hn hg hd => ?_
  simp [Try.f35] at hn
  have a0 : e.get 0 = .pointer A := hg 0 (by omega)
  clear hg
  rcases x with ⟨rfl, rfl⟩ | ⟨p, rfl, x⟩
  · simp (maxSteps := 1000000) (disch := first | (simp; done) | (simp only [IHeap.size_push', IHeap.size_set']; omega) | omega) [a0, hn, hd]
  · have hp := x.gp
    by_cases hc : t.ps = [] <;> simp (maxSteps := 1000000) (disch := first | (simp; done) | (simp only [IHeap.size_push', IHeap.size_set']; omega) | omega) [a0, hn, hd, hp, TB.row, TB.slc, hc]
theorem entries_c {h : IHeap} {A : Option Addr} {q : Nat} {t : TB} (x : TIs h A t q) : ICall Try.prog 32 #[.pointer A] h (.int .i64 t.en) h := by
  refine ICall.of_FN ?_
  refine FN.enter mixed (fn := Try.f32) (by kernel_rfl) rfl (by kernel_rfl) fun e hn hg hd => ?_
  simp [Try.f32] at hn
  have a0 : e.get 0 = .pointer A := hg 0 (by omega)
  clear hg
  rcases x with ⟨rfl, rfl⟩ | ⟨p, rfl, x⟩
  · simp (maxSteps := 1000000) (disch := first | (simp; done) | (simp only [IHeap.size_push', IHeap.size_set']; omega) | omega) [a0, hn, hd]
  · have hp := x.gp
    simp (maxSteps := 1000000) (disch := first | (simp; done) | (simp only [IHeap.size_push', IHeap.size_set']; omega) | omega) [a0, hn, hd, hp, TB.row]
theorem marks_c {h : IHeap} {A : Option Addr} {q : Nat} {t : TB} (x : TIs h A t q) : ICall Try.prog 54 #[.pointer A] h (.int .i64 t.ma) h := by
  refine ICall.of_FN ?_
  refine FN.enter mixed (fn := Try.f54) (by kernel_rfl) rfl (by kernel_rfl) fun e hn hg hd => ?_
  simp [Try.f54] at hn
  have a0 : e.get 0 = .pointer A := hg 0 (by omega)
  clear hg
  rcases x with ⟨rfl, rfl⟩ | ⟨p, rfl, x⟩
  · simp (maxSteps := 1000000) (disch := first | (simp; done) | (simp only [IHeap.size_push', IHeap.size_set']; omega) | omega) [a0, hn, hd]
  · have hp := x.gp
    simp (maxSteps := 1000000) (disch := first | (simp; done) | (simp only [IHeap.size_push', IHeap.size_set']; omega) | omega) [a0, hn, hd, hp, TB.row]
def TB.get (t : TB) (i : Int) : Value := if 0 ≤ i then (match t.ps[i.toNat]? with
  | some c => if c.2.2 = 1 then .tuple #[.agg #[.int .u64 c.1, .int .u32 c.2.1], .bool true] else .tuple #[.agg #[.int .u64 0, .int .u32 0], .bool false]
  | none => .tuple #[.agg #[.int .u64 0, .int .u32 0], .bool false]) else .tuple #[.agg #[.int .u64 0, .int .u32 0], .bool false]
theorem get_c {h : IHeap} {A : Option Addr} {q : Nat} {t : TB} (x : TIs h A t q) (i : Int) : CT Try.prog 36 #[.pointer A, .int .i64 i] h (t.get i) [] := by
  refine FN.enter mixed (fn := Try.f36) (by kernel_rfl) rfl (by kernel_rfl) fun e hn hg hd => ?_
  simp [Try.f36] at hn
  have a0 : e.get 0 = .pointer A := hg 0 (by omega)
  have a1 : e.get 1 = .int .i64 i := hg 1 (by omega)
  clear hg
  by_cases h1 : i < 0
  · have h0 : ¬ 0 ≤ i := by omega
    simp (maxSteps := 1000000) (disch := first | (simp; done) | (simp only [IHeap.size_push', IHeap.size_set']; omega) | omega) [a0, a1, hn, hd, h1, one_int, TB.get, h0, undef]
    exact (Fr.refl _).push _
  · obtain ⟨I, rfl⟩ : ∃ I : Nat, i = I := ⟨i.toNat, by omega⟩
    have h0 : (0 : Int) ≤ I := by omega
    simp (maxSteps := 1000000) (disch := first | (simp; done) | (simp only [IHeap.size_push', IHeap.size_set']; omega) | omega) [a0, a1, hn, hd, h1, one_int]
    have x2 : TIs (h.push (.row false 0 [.int .u64 0, .int .u32 0])) A t q := x.inv (fun i hi => by simp (maxSteps := 1000000) (disch := first | (simp; done) | (simp only [IHeap.size_push', IHeap.size_set']; omega) | omega) [])
    refine FN.of (places_c x2) ?_
    by_cases h2 : (I : Int) < t.ps.length
    · have h3 : I < t.ps.length := by omega
      have h4 : ¬ (t.ps.length : Int) ≤ I := by omega
      rcases x2 with ⟨rfl, rfl⟩ | ⟨p, rfl, x2⟩
      · simp at h3
      · have hc : t.ps ≠ [] := fun h => by rw [h] at h3; simp at h3
        have hp := x2.gp
        obtain ⟨hq, hqp⟩ := x2.gq hc
        obtain ⟨c, hcc⟩ : ∃ c, t.ps[I]? = some c := ⟨t.ps[I], by simp [h3]⟩
        have g2 := flat3_get2 hcc
        have g3 := flat3_slots2 hcc
        by_cases hz : c.2.2 = 1
        · have hv : t.get I = .tuple #[.agg #[.int .u64 c.1, .int .u32 c.2.1], .bool true] := by
            unfold TB.get; rw [if_pos h0, Int.toNat_natCast, hcc]; simp only [hz, if_true]
          simp (maxSteps := 1000000) (disch := first | (simp; done) | (simp only [IHeap.size_push', IHeap.size_set']; omega) | omega) [a0, a1, hn, hd, h1, h2, h3, h4, one_int, hv, hp, TB.row, TB.slc, hc, hq, g2, g3, hz]
          exact (Fr.refl _).push _
        · have hv : t.get I = .tuple #[.agg #[.int .u64 0, .int .u32 0], .bool false] := by
            unfold TB.get; rw [if_pos h0, Int.toNat_natCast, hcc]; simp only [hz, if_false]
          simp (maxSteps := 1000000) (disch := first | (simp; done) | (simp only [IHeap.size_push', IHeap.size_set']; omega) | omega) [a0, a1, hn, hd, h1, h2, h3, h4, one_int, hv, hp, TB.row, TB.slc, hc, hq, g2, g3, hz]
          exact (Fr.refl _).push _
    · have h4 : (t.ps.length : Int) ≤ I := by omega
      have hcc : t.ps[I]? = none := List.getElem?_eq_none (by omega)
      simp (maxSteps := 1000000) (disch := first | (simp; done) | (simp only [IHeap.size_push', IHeap.size_set']; omega) | omega) [a0, a1, hn, hd, h1, h2, h4, one_int, TB.get, hcc, undef]
      exact (Fr.refl _).push _
structure Keeps (h h' : IHeap) (p q : Nat) : Prop where
  size : h.size ≤ h'.size
  get : ∀ i, i < h.size → i ≠ p → i ≠ q → h'.get i = h.get i
def TB.isAt (t : TB) (i : Int) : Bool := decide (0 ≤ i) && (match t.ps[i.toNat]? with | some c => decide (c.2.2 = 1) | none => false)
def TB.drop (t : TB) (i : Int) : TB := if t.isAt i then { ps := t.ps.set i.toNat (0, 0, 2), en := t.en - 1, ma := t.ma + 1 } else t
def TB.dropV (t : TB) (i : Int) : Int := if t.ps = [] then 1 else if 0 ≤ i ∧ i < t.ps.length then (if t.isAt i then 0 else 7) else 2
theorem drop_nil {h : IHeap} {A : Option Addr} {q : Nat} {t : TB} (x : TIs h A t q) (hc : t.ps = []) (i : Int) : ICall Try.prog 30 #[.pointer A, .int .i64 i] h (.int .i64 1) h := by
  refine ICall.of_FN ?_
  refine FN.enter mixed (fn := Try.f30) (by kernel_rfl) rfl (by kernel_rfl) fun e hn hg hd => ?_
  simp [Try.f30] at hn
  have a0 : e.get 0 = .pointer A := hg 0 (by omega)
  have a1 : e.get 1 = .int .i64 i := hg 1 (by omega)
  clear hg
  simp (maxSteps := 1000000) (disch := first | (simp; done) | (simp only [IHeap.size_push', IHeap.size_set']; omega) | omega) [a0, a1, hn, hd]
  refine FN.of (places_c x) ?_
  simp (maxSteps := 1000000) (disch := first | (simp; done) | (simp only [IHeap.size_push', IHeap.size_set']; omega) | omega) [a0, a1, hn, hd, hc]
theorem drop_c {h : IHeap} {p q : Nat} {t : TB} (ok : t.ok) (x : t.at h p q) (i : Int) : FN Try.prog 30 #[.pointer (some ⟨p, 0, none⟩), .int .i64 i] h (Q := ⟨fun v h' => v = .int .i64 (t.dropV i) ∧ (t.drop i).at h' p q ∧ Keeps h h' p q⟩) := by
  by_cases hc : t.ps = []
  · refine FN.of (drop_nil (.inr ⟨p, rfl, x⟩) hc i) ?_
    have e1 : t.isAt i = false := by simp [TB.isAt, hc]
    exact ⟨by simp [TB.dropV, hc], by simpa [TB.drop, e1] using x, ⟨Nat.le_refl _, fun _ _ _ _ => rfl⟩⟩
  refine FN.enter mixed (fn := Try.f30) (by kernel_rfl) rfl (by kernel_rfl) fun e hn hg hd => ?_
  simp [Try.f30] at hn
  have a0 : e.get 0 = .pointer (some ⟨p, 0, none⟩) := hg 0 (by omega)
  have a1 : e.get 1 = .int .i64 i := hg 1 (by omega)
  clear hg
  have hp := x.gp
  obtain ⟨hq, hqp⟩ := x.gq hc
  have hpz := IHeap.get_lt hp
  have hqz := IHeap.get_lt hq
  have hpos := List.length_pos_iff.2 hc
  have hne : ¬ t.ps.length = 0 := by omega
  have hen := ok.en
  have hma := ok.ma
  have hll := ok.len
  simp (maxSteps := 1000000) (disch := first | (simp; done) | (simp only [IHeap.size_push', IHeap.size_set']; omega) | omega) [a0, a1, hn, hd]
  refine FN.of (places_c (.inr ⟨p, rfl, x⟩)) ?_
  by_cases h1 : i < 0
  · have h0 : ¬ 0 ≤ i := by omega
    simp (maxSteps := 1000000) (disch := first | (simp; done) | (simp only [IHeap.size_push', IHeap.size_set']; omega) | omega) [a0, a1, hn, hd, hne, hc, h1, TB.dropV, TB.drop, TB.isAt, h0, undef]
    exact ⟨x, ⟨Nat.le_refl _, fun _ _ _ _ => rfl⟩⟩
  · obtain ⟨I, rfl⟩ : ∃ I : Nat, i = I := ⟨i.toNat, by omega⟩
    have h0 : (0 : Int) ≤ I := by omega
    by_cases h2 : (I : Int) < t.ps.length
    · have h3 : I < t.ps.length := by omega
      have h4 : ¬ (t.ps.length : Int) ≤ I := by omega
      obtain ⟨c, hcc⟩ : ∃ c, t.ps[I]? = some c := ⟨t.ps[I], by simp [h3]⟩
      have g2 := flat3_get2 hcc
      have hl3 : I * 3 + 3 ≤ (flat3 t.ps).length := by rw [flat3_len]; omega
      by_cases hz : c.2.2 = 1
      · have e1 : t.isAt I = true := by simp only [TB.isAt, Int.toNat_natCast, hcc, hz, decide_true, Bool.and_true]; simp
        have e2 : t.dropV I = 0 := by simp [TB.dropV, hc, h2, e1, h3]
        have e3 : t.drop I = { ps := t.ps.set I (0, 0, 2), en := t.en - 1, ma := t.ma + 1 } := by simp [TB.drop, e1]
        have e4 : t.ps.set I (0, 0, 2) ≠ [] := by intro h; have := congrArg List.length h; simp at this; exact hc this
        simp (maxSteps := 1000000) (disch := first | (simp; done) | (simp only [IHeap.size_push', IHeap.size_set']; omega) | omega) [a0, a1, hn, hd, hne, hc, h1, h2, h3, h4, hp, TB.row, TB.slc, hq, g2, flat3_at2 hcc, hz, one_int, hl3, flat3_set, hqp, Ne.symm hqp, wrap64, e2]
        rw [e3]
        refine ⟨⟨by simp (maxSteps := 1000000) (disch := first | (simp; done) | (simp only [IHeap.size_push', IHeap.size_set']; omega) | omega) [TB.row, TB.slc, e4], fun _ => ⟨by simp (maxSteps := 1000000) (disch := first | (simp; done) | (simp only [IHeap.size_push', IHeap.size_set']; omega) | omega) [hqp, Ne.symm hqp], hqp⟩⟩, ⟨by simp only [IHeap.size_set']; omega, fun i hi hip hiq => by simp (maxSteps := 1000000) (disch := first | (simp; done) | (simp only [IHeap.size_push', IHeap.size_set']; omega) | omega) [hip, hiq, Ne.symm hip, Ne.symm hiq]⟩⟩
      · have e1 : t.isAt I = false := by simp only [TB.isAt, Int.toNat_natCast, hcc, hz, decide_false, Bool.and_false]
        have e2 : t.dropV I = 7 := by simp [TB.dropV, hc, h2, e1, h3]
        have e3 : t.drop I = t := by simp [TB.drop, e1]
        simp (maxSteps := 1000000) (disch := first | (simp; done) | (simp only [IHeap.size_push', IHeap.size_set']; omega) | omega) [a0, a1, hn, hd, hne, hc, h1, h2, h3, h4, hp, TB.row, TB.slc, hq, g2, flat3_at2 hcc, hz, e2]
        rw [e3]
        exact ⟨x, ⟨Nat.le_refl _, fun _ _ _ _ => rfl⟩⟩
    · have h4 : (t.ps.length : Int) ≤ I := by omega
      have hcc : t.ps[I]? = none := List.getElem?_eq_none (by omega)
      have e1 : t.isAt I = false := by simp only [TB.isAt, Int.toNat_natCast, hcc, Bool.and_false]
      have e2 : t.dropV I = 2 := by
        have : ¬ I < t.ps.length := by omega
        simp [TB.dropV, hc, this]
      have e3 : t.drop I = t := by simp [TB.drop, e1]
      simp (maxSteps := 1000000) (disch := first | (simp; done) | (simp only [IHeap.size_push', IHeap.size_set']; omega) | omega) [a0, a1, hn, hd, hne, hc, h1, h2, h4, e2]
      rw [e3]
      exact ⟨x, ⟨Nat.le_refl _, fun _ _ _ _ => rfl⟩⟩
theorem mk_pl {h : IHeap} (n : Nat) (hn : n ≤ 300000) : imakeSlice Try.prog h 88 (.int .i64 n) (.int .i64 n) = some (.slice (some ⟨h.size, 0, none⟩) n n, h.push (.row false 3 (flat3 (List.replicate n (0, 0, 0)))), .alloc) := by
  have h2 : (0 : Int) ≤ n := by omega
  have h3 : (n : Int) < 9223372036854775808 := by omega
  have h4 : 24 * (n : Int) ≤ 140737488355328 := by omega
  unfold imakeSlice
  simp [h2, h3, h4, flat3_rep]
def newTB (n : Nat) : TB := ⟨List.replicate n (0, 0, 0), 0, 0⟩
theorem new_c {h : IHeap} (n : Nat) (hn1 : 8 ≤ n ∧ n ≤ 262144) (hand : IntKind.i64.wrap ((n % 2 ^ IntKind.i64.bits &&& (((n : Int) - 1) % 2 ^ IntKind.i64.bits).toNat : Nat) : Int) = 0) : ICall Try.prog 26 #[.int .i64 n] h (.tuple #[.pointer (some ⟨h.size + 1, 0, none⟩), .int .i64 0]) ((h.push (.row false 3 (flat3 (List.replicate n (0, 0, 0))))).push (.row false 0 ((newTB n).row h.size))) := by
  refine ICall.of_FN ?_
  refine FN.enter mixed (fn := Try.f26) (by kernel_rfl) rfl (by kernel_rfl) fun e hn hg hd => ?_
  simp [Try.f26] at hn
  have a0 : e.get 0 = .int .i64 n := hg 0 (by omega)
  clear hg
  have h1 : ¬ (n : Int) < 8 := by omega
  have h2 : ¬ (262144 : Int) < n := by omega
  have h0 : n ≠ 0 := by omega
  simp (maxSteps := 1000000) (disch := first | (simp; done) | (simp only [IHeap.size_push', IHeap.size_set']; omega) | omega) [a0, hn, hd, h1, h2, wrap64, hand, mk_pl n (by omega), newTB, TB.row, TB.slc, h0]
end Go.Proofs.Ytmobpbhbllhdcaa.Ideal
