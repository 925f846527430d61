import Derived.Test.YtmobpbhbllhdcaaP14a
noncomputable section
open Go.Proofs
namespace Go.Proofs.Ytmobpbhbllhdcaa.Ideal
open Go.RowKit
set_option linter.unusedSimpArgs false
set_option linter.unusedVariables false
set_option linter.unusedSectionVars false
set_option linter.unnecessarySimpa false
set_option maxRecDepth 100000
set_option maxHeartbeats 2000000
attribute [-simp] IHeap.size_set IHeap.size_push
attribute [local simp ↓] Hid.ap_mk
attribute [local simp] scopeQ_normal scopeQ_ret scopeQ_exit WP_skip WP_label WP_exit WP_goto WP_ret WP_region WP_seq WP_cond WP_block WP_scope WP_loop WP_range thenQ_normal thenQ_ret thenQ_exit thenQ_goto loopQ_normal loopQ_ret loopQ_exit invQ_normal invQ_ret invQ_exit outOf_normal outOf_ret outOf_goto outOf_exit ev_tmp ev_const ev_func
  wops_nil wops_cons wantedE_none wantedE_some jgd_some wnx_eq niC_false wdo_move wdo_assign wdo_pick wdo_load wdo_store wdo_alloc wdo_box wdo_fieldAddr wdo_indexAddr wdo_field wdo_extract wdo_build wdo_buildSlice wdo_makeSlice wdo_binOp wdo_unOp wdo_makeFunc wdo_nilCheck wdo_callV wdo_len wdo_append wdo_copy wdo_delete wdo_max wdo_min wdo_convert jcvt_int
  xput_get put_n put_none put_dfr ibin finQ_n finQ_r finD_nil splice_one ires_nil ires_one ires_two ires_three ires1_tmp ires1_cell jcell_ptr rowLoad_row wrap64 wrapU64 wrapU8 wrapU16 wrapU32 callV_fn buildOf Instr.fill Value.cells Value.oneCell' kindOf slots_all splice_all IHeap.size_set' IHeap.size_push' IHeap.get_set_same IHeap.get_set_ne IHeap.get_pushed IHeap.get_push_ne IHeap.set_set IHeap.set_push IHeap.set_pushed IHeap.set_set3 getU_nil getU_same getU_ne jif_true jif_false pushH_eq setH_eq forceL_eq forceV_eq ibuildSlice
attribute [-simp] Value.oneCell'
/-- The place that is k-th on the way of a hash. -/
def wayI (n : Nat) (hash : Int) (k : Nat) : Nat := ((hash + k) % 18446744073709551616 % n).toNat
theorem wayI_lt {n : Nat} (hash : Int) (k : Nat) (h : 0 < n) : wayI n hash k < n := by
  unfold wayI
  have := Int.emod_lt_of_pos ((hash + k) % 18446744073709551616) (show (0 : Int) < n by omega)
  have := Int.emod_nonneg ((hash + k) % 18446744073709551616) (show (n : Int) ≠ 0 by omega)
  omega
theorem iter_c {h : IHeap} {l b1 b2 q : Nat} {A : Option Addr} {t : TB} {hash : Int} (hll : t.ps.length ≤ 300000) (hh : 0 ≤ hash ∧ hash < 18446744073709551616) (J : Nat → IHeap → Prop) (S : IHeap → Prop)
    (hb1 : ∀ k h, J k h → h.get b1 = some (.row false 0 [.pointer A])) (hb2 : ∀ k h, J k h → h.get b2 = some (.row false 0 [.int .u64 hash])) (hx : ∀ k h, J k h → TIs h A t q)
    (hJ : ∀ (k : Nat) h c, k < t.ps.length → t.ps[wayI t.ps.length hash k]? = some c → J k h → RN Try.prog l #[.int .i64 (wayI t.ps.length hash k : Nat), .agg (plV c).toArray] h (Q := ⟨fun v h' => (v = .bool true ∧ J (k + 1) h') ∨ (v = .bool false ∧ S h')⟩)) (h0 : J 0 h) :
    FN Try.prog 65 #[.func (.yield l) #[] #[], .pointer (some ⟨b1, 0, none⟩), .pointer (some ⟨b2, 0, none⟩)] h (Q := ⟨fun _ h' => J t.ps.length h' ∨ S h'⟩) := by
  refine FN.enter mixed (fn := Try.f65) (by kernel_rfl) rfl (by kernel_rfl) fun e hn hg hd => ?_
  simp [Try.f65] at hn
  have a0 : e.get 0 = .func (.yield l) #[] #[] := hg 0 (by omega)
  have a1 : e.get 1 = .pointer (some ⟨b1, 0, none⟩) := hg 1 (by omega)
  have a2 : e.get 2 = .pointer (some ⟨b2, 0, none⟩) := hg 2 (by omega)
  clear hg
  have gb1 := hb1 _ _ h0
  simp (maxSteps := 1000000) (disch := first | (simp; done) | (simp only [IHeap.size_push', IHeap.size_set']; omega) | omega) [a0, a1, a2, hn, hd, gb1]
  refine FN.of (places_c (hx _ _ h0)) ?_
  simp (maxSteps := 1000000) (disch := first | (simp; done) | (simp only [IHeap.size_push', IHeap.size_set']; omega) | omega) [a0, a1, a2, hn, hd]
  refine WPL.by_inv mixed (by kernel_rfl) (fun k e h' => ∃ i : Nat, i + k = t.ps.length ∧ e.n = 33 ∧ e.dfr = [] ∧ e.get 0 = .func (.yield l) #[] #[] ∧ e.get 1 = .pointer (some ⟨b1, 0, none⟩) ∧ e.get 2 = .pointer (some ⟨b2, 0, none⟩) ∧ e.get 4 = .int .i64 t.ps.length ∧ e.get 9 = .int .i64 t.ps.length ∧ e.get 10 = .int .i64 i ∧ J i h') t.ps.length ?_ ?_
  · refine ⟨0, ?_⟩
    simp (maxSteps := 1000000) (disch := first | (simp; done) | (simp only [IHeap.size_push', IHeap.size_set']; omega) | omega) [a0, a1, a2, hn, hd, h0]
  clear hn hd a0 a1 a2 gb1 e
  rintro k e h1 ⟨i, hi, hn, hd, e0, e1, e2, e4, e9, e10, j⟩
  cases k with
  | zero =>
    obtain rfl : i = t.ps.length := by omega
    simp (maxSteps := 1000000) (disch := first | (simp; done) | (simp only [IHeap.size_push', IHeap.size_set']; omega) | omega) [e0, e1, e2, e4, e9, e10, hn, hd]
    exact .inl j
  | succ k =>
    have hlt : (i : Int) < t.ps.length := by omega
    have hpos : 0 < t.ps.length := by omega
    have gb1 := hb1 _ _ j
    have gb2 := hb2 _ _ j
    have hc : t.ps ≠ [] := fun h => by rw [h] at hpos; simp at hpos
    rcases hx _ _ j with ⟨rfl, rfl⟩ | ⟨p, rfl, x⟩
    · exact absurd rfl hc
    have hp := x.gp
    obtain ⟨hq, hqp⟩ := x.gq hc
    have hw := wayI_lt hash i hpos
    obtain ⟨W, hW⟩ : ∃ W : Nat, W = wayI t.ps.length hash i := ⟨_, rfl⟩
    have hWi : ((hash + i) % 18446744073709551616).tmod (t.ps.length : Int) = W := by
      have n1 := Int.emod_nonneg (hash + i) (show (18446744073709551616 : Int) ≠ 0 by omega)
      have n2 := Int.emod_nonneg ((hash + i) % 18446744073709551616) (show (t.ps.length : Int) ≠ 0 by omega)
      rw [Int.tmod_eq_emod_of_nonneg n1, hW]
      unfold wayI
      omega
    rw [← hW] at hw
    obtain ⟨c, hcc⟩ : ∃ c, t.ps[W]? = some c := ⟨t.ps[W], by simp [hw]⟩
    have hw2 : (W : Int) < t.ps.length := by omega
    have hsl := flat3_slots hcc
    have hn0 : (t.ps.length : Int) ≠ 0 := by omega
    have hn0' : t.ps.length ≠ 0 := by omega
    have u1 : ∀ n : Int, IntKind.u64.wrap n = n % 18446744073709551616 := fun n => by simp [IntKind.wrap, IntKind.bits, IntKind.signed]
    have um : (t.ps.length : Int) % 18446744073709551616 = t.ps.length := Int.emod_eq_of_lt (by omega) (by omega)
    have ui : (i : Int) % 18446744073709551616 = i := Int.emod_eq_of_lt (by omega) (by omega)
    have hJi := hJ i h1 c (by omega) (by rw [← hW]; exact hcc) j
    rw [← hW] at hJi
    simp (maxSteps := 1000000) (disch := first | (simp; done) | (simp only [IHeap.size_push', IHeap.size_set']; omega) | omega) [e0, e1, e2, e4, e9, e10, hn, hd, hlt, gb1, gb2, hp, TB.row, TB.slc, hc, hq, u1, um, ui, hWi, hn0, hn0', wrap64, hw, hw2, hsl]
    refine RN.mono hJi ?_
    rintro v h4 (⟨rfl, j4⟩ | ⟨rfl, s4⟩)
    · simp (maxSteps := 1000000) (disch := first | (simp; done) | (simp only [IHeap.size_push', IHeap.size_set']; omega) | omega) [e0, e1, e2, e4, e9, e10, hn, hd, wrap64]
      refine ⟨k, by omega, i + 1, by omega, ?_⟩
      simp (maxSteps := 1000000) (disch := first | (simp; done) | (simp only [IHeap.size_push', IHeap.size_set']; omega) | omega) [e0, e1, e2, e4, e9, e10, hn, hd, j4]
    · simp (maxSteps := 1000000) (disch := first | (simp; done) | (simp only [IHeap.size_push', IHeap.size_set']; omega) | omega) [e0, e1, e2, e4, e9, e10, hn, hd]
      exact .inr s4
theorem round_c {h : IHeap} (A : Option Addr) (hash : Int) : ICall Try.prog 58 #[.pointer A, .int .u64 hash] h (.func (.func 65) #[] #[.pointer (some ⟨h.size, 0, none⟩), .pointer (some ⟨h.size + 1, 0, none⟩)]) ((h.push (.row false 0 [.pointer A])).push (.row false 0 [.int .u64 hash])) := by
  refine ICall.of_FN ?_
  refine FN.enter mixed (fn := Try.f58) (by kernel_rfl) rfl (by kernel_rfl) fun e hn hg hd => ?_
  simp [Try.f58] at hn
  have a0 : e.get 0 = .pointer A := hg 0 (by omega)
  have a1 : e.get 1 = .int .u64 hash := hg 1 (by omega)
  clear hg
  simp (maxSteps := 1000000) (disch := first | (simp; done) | (simp only [IHeap.size_push', IHeap.size_set']; omega) | omega) [a0, a1, hn, hd]
/-- Where an entry is put. -/
def TB.free (t : TB) (hash : Int) : Option Nat := ((List.range t.ps.length).find? (fun k => match t.ps[wayI t.ps.length hash k]? with | some c => decide (c.2.2 ≠ 1) | none => true)).map (wayI t.ps.length hash)
def TB.putAt (t : TB) (at_ : Nat) (hash what : Int) : TB := { ps := t.ps.set at_ (hash, what, 1), en := t.en + 1, ma := match t.ps[at_]? with | some c => if c.2.2 = 2 then t.ma - 1 else t.ma | none => t.ma }
def TB.put (t : TB) (hash what : Int) : TB := match t.free hash with | some i => t.putAt i hash what | none => t
def TB.putV (t : TB) (hash : Int) : Value := if t.ps = [] then .tuple #[.int .i64 0, .int .i64 1] else match t.free hash with | some i => .tuple #[.int .i64 i, .int .i64 0] | none => .tuple #[.int .i64 0, .int .i64 9]
theorem put_nil {h : IHeap} {A : Option Addr} {q : Nat} {t : TB} (x : TIs h A t q) (hc : t.ps = []) (hash what : Int) : CT Try.prog 34 #[.pointer A, .agg #[.int .u64 hash, .int .u32 what]] h (.tuple #[.int .i64 0, .int .i64 1]) [] := by
  refine FN.enter mixed (fn := Try.f34) (by kernel_rfl) rfl (by kernel_rfl) fun e hn hg hd => ?_
  simp [Try.f34] at hn
  have a0 : e.get 0 = .pointer A := hg 0 (by omega)
  have a1 : e.get 1 = .agg #[.int .u64 hash, .int .u32 what] := hg 1 (by omega)
  clear hg
  simp (maxSteps := 1000000) (disch := first | (simp; done) | (simp only [IHeap.size_push', IHeap.size_set']; omega) | omega) [a0, a1, hn, hd]
  obtain ⟨H, hH⟩ : ∃ H, H = (((h.push (.row false 0 [.pointer A])).push (.row false 0 [.int .u64 hash, .int .u32 what])).push (.row false 0 [.int .i64 0])).push (.row false 0 [.int .i64 0]) := ⟨_, rfl⟩
  rw [← hH]
  have x2 : TIs H A t q := x.inv (fun i hi => by rw [hH]; simp (maxSteps := 1000000) (disch := first | (simp; done) | (simp only [IHeap.size_push', IHeap.size_set']; omega) | omega) [])
  refine FN.of (places_c x2) ?_
  rw [hH]
  simp (maxSteps := 1000000) (disch := first | (simp; done) | (simp only [IHeap.size_push', IHeap.size_set']; omega) | omega) [a0, a1, hn, hd, hc, one_int]
  exact ⟨by simp <;> omega, fun i hi => by simp only [IHeap.get_set_if, IHeap.get_push, IHeap.size_set', IHeap.size_push', getU, ]; grind⟩
structure PuJ (h0 : IHeap) (A : Option Addr) (hash what : Int) (t : TB) (L : Loop) (k : Nat) (h : IHeap) : Prop where
  size : h0.size + 8 ≤ h.size
  old : ∀ i, i < h0.size → h.get i = h0.get i
  g0 : h.get h0.size = some (.row false 0 [.pointer A])
  g1 : h.get (h0.size + 1) = some (.row false 0 [.int .u64 hash, .int .u32 what])
  g2 : h.get (h0.size + 2) = some (.row false 0 [.int .i64 0])
  g3 : h.get (h0.size + 3) = some (.row false 0 [.int .i64 0])
  g4 : h.get (h0.size + 4) = some (.row false 0 [.pointer A])
  g5 : h.get (h0.size + 5) = some (.row false 0 [.int .u64 hash])
  gd : h.get (h0.size + 6) = some .defs
  gl : h.get (h0.size + 7) = some (.loop L)
  all : ∀ j, j < k → ∀ c, t.ps[wayI t.ps.length hash j]? = some c → c.2.2 = 1
structure PuS (h0 : IHeap) (p q : Nat) (hash what : Int) (t : TB) (L : Loop) (h : IHeap) : Prop where
  size : h0.size + 8 ≤ h.size
  ex : ∃ (k W : Nat) (c : PL), k < t.ps.length ∧ W = wayI t.ps.length hash k ∧ t.ps[W]? = some c ∧ c.2.2 ≠ 1 ∧ (∀ j, j < k → ∀ c, t.ps[wayI t.ps.length hash j]? = some c → c.2.2 = 1) ∧ h.get (h0.size + 2) = some (.row false 0 [.int .i64 W]) ∧ (t.putAt W hash what).at h p q
  old : ∀ i, i < h0.size → i ≠ p → i ≠ q → h.get i = h0.get i
  g3 : h.get (h0.size + 3) = some (.row false 0 [.int .i64 0])
  gd : h.get (h0.size + 6) = some .defs
  gl : h.get (h0.size + 7) = some (.loop { L with state := .done, pending := some .ret })
theorem free_none {t : TB} {hash : Int} (h : ∀ j, j < t.ps.length → ∀ c, t.ps[wayI t.ps.length hash j]? = some c → c.2.2 = 1) : t.free hash = none := by
  unfold TB.free
  rw [Option.map_eq_none_iff, List.find?_eq_none]
  intro k hk
  have hk := List.mem_range.1 hk
  have hw := wayI_lt hash k (show 0 < t.ps.length by omega)
  have := h k hk _ (List.getElem?_eq_getElem hw)
  rw [List.getElem?_eq_getElem hw]
  simpa using this
theorem free_some {t : TB} {hash : Int} {k : Nat} {c : PL} (hk : k < t.ps.length) (hc : t.ps[wayI t.ps.length hash k]? = some c) (h1 : c.2.2 ≠ 1) (h : ∀ j, j < k → ∀ c, t.ps[wayI t.ps.length hash j]? = some c → c.2.2 = 1) : t.free hash = some (wayI t.ps.length hash k) := by
  unfold TB.free
  rw [(List.find?_range_eq_some (i := k)).2 ⟨by rw [hc]; simpa using h1, List.mem_range.2 hk, fun j hj => ?_⟩]
  · rfl
  · have hw := wayI_lt hash j (show 0 < t.ps.length by omega)
    have := h j hj _ (List.getElem?_eq_getElem hw)
    rw [List.getElem?_eq_getElem hw]
    simpa using this
theorem put_c {h : IHeap} {p q : Nat} {t : TB} (ok : t.ok) (x : t.at h p q) (hash what : Int) (hh : 0 ≤ hash ∧ hash < 18446744073709551616) : FN Try.prog 34 #[.pointer (some ⟨p, 0, none⟩), .agg #[.int .u64 hash, .int .u32 what]] h (Q := ⟨fun v h' => v = t.putV hash ∧ (t.put hash what).at h' p q ∧ Keeps h h' p q⟩) := by
  by_cases hc : t.ps = []
  · refine FN.ct (put_nil (.inr ⟨p, rfl, x⟩) hc hash what) ?_
    intro h' fr
    have e1 : t.free hash = none := by simp [TB.free, hc]
    exact ⟨by simp [TB.putV, hc], by simpa [TB.put, e1] using tat_inv x fr.get, ⟨fr.size, fun i hi _ _ => fr.get i hi⟩⟩
  refine FN.enter mixed (fn := Try.f34) (by kernel_rfl) rfl (by kernel_rfl) fun e hn hg hd => ?_
  simp [Try.f34] at hn
  have a0 : e.get 0 = .pointer (some ⟨p, 0, none⟩) := hg 0 (by omega)
  have a1 : e.get 1 = .agg #[.int .u64 hash, .int .u32 what] := hg 1 (by omega)
  clear hg
  simp (maxSteps := 1000000) (disch := first | (simp; done) | (simp only [IHeap.size_push', IHeap.size_set']; omega) | omega) [a0, a1, hn, hd]
  obtain ⟨H, hH⟩ : ∃ H, H = (((h.push (.row false 0 [.pointer (some ⟨p, 0, none⟩)])).push (.row false 0 [.int .u64 hash, .int .u32 what])).push (.row false 0 [.int .i64 0])).push (.row false 0 [.int .i64 0]) := ⟨_, rfl⟩
  rw [← hH]
  have x2 : TIs H (some ⟨p, 0, none⟩) t q := .inr ⟨p, rfl, tat_inv x (fun i hi => by rw [hH]; simp (maxSteps := 1000000) (disch := first | (simp; done) | (simp only [IHeap.size_push', IHeap.size_set']; omega) | omega) [])⟩
  refine FN.of (places_c x2) ?_
  rw [hH]
  have hpos := List.length_pos_iff.2 hc
  have hne : ¬ t.ps.length = 0 := by omega
  simp (maxSteps := 1000000) (disch := first | (simp; done) | (simp only [IHeap.size_push', IHeap.size_set']; omega) | omega) [a0, a1, hn, hd, hc, hne, one_int]
  refine FN.of (round_c _ hash) ?_
  simp (maxSteps := 1000000) (disch := first | (simp; done) | (simp only [IHeap.size_push', IHeap.size_set']; omega) | omega) [a0, a1, hn, hd]
  clear x2 hH H
  refine WPR.gen fun E H hE hH => ?_
  have E2 : E.get 2 = .pointer (some ⟨h.size, 0, none⟩) := by rw [hE]; simp (maxSteps := 1000000) (disch := first | (simp; done) | (simp only [IHeap.size_push', IHeap.size_set']; omega) | omega) [hn]
  have E3 : E.get 3 = .pointer (some ⟨h.size + 1, 0, none⟩) := by rw [hE]; simp (maxSteps := 1000000) (disch := first | (simp; done) | (simp only [IHeap.size_push', IHeap.size_set']; omega) | omega) [hn]
  have E4 : E.get 4 = .pointer (some ⟨h.size + 2, 0, none⟩) := by rw [hE]; simp (maxSteps := 1000000) (disch := first | (simp; done) | (simp only [IHeap.size_push', IHeap.size_set']; omega) | omega) [hn]
  have E5 : E.get 5 = .pointer (some ⟨h.size + 3, 0, none⟩) := by rw [hE]; simp (maxSteps := 1000000) (disch := first | (simp; done) | (simp only [IHeap.size_push', IHeap.size_set']; omega) | omega) [hn]
  have E14 : E.get 14 = .func (.func 65) #[] #[.pointer (some ⟨h.size + 4, 0, none⟩), .pointer (some ⟨h.size + 5, 0, none⟩)] := by rw [hE]; simp (maxSteps := 1000000) (disch := first | (simp; done) | (simp only [IHeap.size_push', IHeap.size_set']; omega) | omega) [hn]
  have En : E.n = 46 := by rw [hE]; simp (maxSteps := 1000000) (disch := first | (simp; done) | (simp only [IHeap.size_push', IHeap.size_set']; omega) | omega) [hn]
  have Ed : E.dfr = [] := by rw [hE]; simp (maxSteps := 1000000) (disch := first | (simp; done) | (simp only [IHeap.size_push', IHeap.size_set']; omega) | omega) [hd]
  have Hz : H.size = h.size + 6 := by rw [hH]; simp only [IHeap.size_push']
  have Ho : ∀ i, i < h.size → H.get i = h.get i := fun i hi => by rw [hH]; simp (maxSteps := 1000000) (disch := first | (simp; done) | (simp only [IHeap.size_push', IHeap.size_set']; omega) | omega) []
  have H0 : H.get h.size = some (.row false 0 [.pointer (some ⟨p, 0, none⟩)]) := by rw [hH]; simp (maxSteps := 1000000) (disch := first | (simp; done) | (simp only [IHeap.size_push', IHeap.size_set']; omega) | omega) []
  have H1 : H.get (h.size + 1) = some (.row false 0 [.int .u64 hash, .int .u32 what]) := by rw [hH]; simp (maxSteps := 1000000) (disch := first | (simp; done) | (simp only [IHeap.size_push', IHeap.size_set']; omega) | omega) []
  have H2 : H.get (h.size + 2) = some (.row false 0 [.int .i64 0]) := by rw [hH]; simp (maxSteps := 1000000) (disch := first | (simp; done) | (simp only [IHeap.size_push', IHeap.size_set']; omega) | omega) []
  have H3 : H.get (h.size + 3) = some (.row false 0 [.int .i64 0]) := by rw [hH]; simp (maxSteps := 1000000) (disch := first | (simp; done) | (simp only [IHeap.size_push', IHeap.size_set']; omega) | omega) []
  have H4 : H.get (h.size + 4) = some (.row false 0 [.pointer (some ⟨p, 0, none⟩)]) := by rw [hH]; simp (maxSteps := 1000000) (disch := first | (simp; done) | (simp only [IHeap.size_push', IHeap.size_set']; omega) | omega) []
  have H5 : H.get (h.size + 5) = some (.row false 0 [.int .u64 hash]) := by rw [hH]; simp (maxSteps := 1000000) (disch := first | (simp; done) | (simp only [IHeap.size_push', IHeap.size_set']; omega) | omega) []
  clear hH hE hn hd a0 a1
  have hpz := IHeap.get_lt x.gp
  obtain ⟨hq, hqp⟩ := x.gq hc
  have hqz := IHeap.get_lt hq
  have hen := ok.en
  have hma := ok.ma
  refine WPR.intro2 (cs := #[.pointer (some ⟨h.size + 4, 0, none⟩), .pointer (some ⟨h.size + 5, 0, none⟩)]) (fs := #[]) rfl E14 (by simp) rfl ?_
  intro L Lp Lt LA LB Ls Ln
  refine FN.mono (iter_c (q := q) (t := t) (A := some ⟨p, 0, none⟩) (hash := hash) ok.len hh (fun k h' => PuJ h (some ⟨p, 0, none⟩) hash what t L k h') (fun h' => PuS h p q hash what t L h') (fun k h' j => j.g4) (fun k h' j => j.g5) (fun k h' j => .inr ⟨p, rfl, tat_inv x j.old⟩) ?_ ?_) ?_
  · intro k h1 c hk hcc j
    have gl := j.gl
    refine RN.two mixed (E := E) (by rw [Hz]; exact gl) Lp Lt LA LB (by kernel_rfl) (by kernel_rfl) ?_
    intro r rn rd rg
    have r2 := rg 2
    have r3 := rg 3
    have r4 := rg 4
    have r5 := rg 5
    rw [E2] at r2; rw [E3] at r3; rw [E4] at r4; rw [E5] at r5
    rw [En] at rn
    have jz := j.size
    have j0 := j.g0
    have j1 := j.g1
    have j2 := j.g2
    have j3 := j.g3
    obtain ⟨W, hW⟩ : ∃ W : Nat, W = wayI t.ps.length hash k := ⟨_, rfl⟩
    have hw := wayI_lt hash k hpos
    rw [← hW] at hcc hw ⊢
    have hw2 : (W : Int) < t.ps.length := by omega
    have jp : h1.get p = some (.row false 0 (t.row q)) := by rw [j.old p hpz]; exact x.gp
    have jq : h1.get q = some (.row false 3 (flat3 t.ps)) := by rw [j.old q hqz]; exact hq
    simp (maxSteps := 1000000) (disch := first | (simp; done) | (simp only [IHeap.size_push', IHeap.size_set']; omega) | omega) [rn, rd, r2, r3, r4, r5, assignQ, plV, one_int, zeros]
    refine ⟨L, by rw [Hz]; simp (maxSteps := 1000000) (disch := first | (simp; done) | (simp only [IHeap.size_push', IHeap.size_set']; omega) | omega) [gl], Ls, ?_⟩
    by_cases hz : c.2.2 = 1
    · simp (maxSteps := 1000000) (disch := first | (simp; done) | (simp only [IHeap.size_push', IHeap.size_set']; omega) | omega) [rn, rd, r2, r3, r4, r5, Hz, hz, bodyQ]
      have eL : ({ state := .ready, pending := none, fn := L.fn, tmps := L.tmps, params := L.params, assign := L.assign, body := L.body, defers := L.defers } : Loop) = L := by
        rw [← Ls, ← Ln]
      rw [eL]
      have j4 := j.g4
      have j5 := j.g5
      have jd := j.gd
      refine ⟨by simp only [IHeap.size_set', IHeap.size_push']; omega, fun i hi => ?_, ?_, ?_, ?_, ?_, ?_, ?_, ?_, ?_, fun a ha d hd => ?_⟩
      · have := j.old i hi
        simp (maxSteps := 1000000) (disch := first | (simp; done) | (simp only [IHeap.size_push', IHeap.size_set']; omega) | omega) [this]
      · simp (maxSteps := 1000000) (disch := first | (simp; done) | (simp only [IHeap.size_push', IHeap.size_set']; omega) | omega) [j0]
      · simp (maxSteps := 1000000) (disch := first | (simp; done) | (simp only [IHeap.size_push', IHeap.size_set']; omega) | omega) [j1]
      · simp (maxSteps := 1000000) (disch := first | (simp; done) | (simp only [IHeap.size_push', IHeap.size_set']; omega) | omega) [j2]
      · simp (maxSteps := 1000000) (disch := first | (simp; done) | (simp only [IHeap.size_push', IHeap.size_set']; omega) | omega) [j3]
      · simp (maxSteps := 1000000) (disch := first | (simp; done) | (simp only [IHeap.size_push', IHeap.size_set']; omega) | omega) [j4]
      · simp (maxSteps := 1000000) (disch := first | (simp; done) | (simp only [IHeap.size_push', IHeap.size_set']; omega) | omega) [j5]
      · simp (maxSteps := 1000000) (disch := first | (simp; done) | (simp only [IHeap.size_push', IHeap.size_set']; omega) | omega) [jd]
      · simp (maxSteps := 1000000) (disch := first | (simp; done) | (simp only [IHeap.size_push', IHeap.size_set']; omega) | omega) []
      · by_cases e : a = k
        · subst e; rw [← hW, hcc] at hd; cases hd; exact hz
        · exact j.all a (by omega) d hd
    · have hl3 : W * 3 + 3 ≤ t.ps.length * 3 := by omega
      have e4 : t.ps.set W (hash, what, 1) ≠ [] := by intro h; have := congrArg List.length h; simp at this; exact hc this
      have jd := j.gd
      have hpz2 : p ≠ h.size + 2 := by omega
      by_cases hz2 : c.2.2 = 2
      · have hpa : t.putAt W hash what = { ps := t.ps.set W (hash, what, 1), en := t.en + 1, ma := t.ma - 1 } := by simp only [TB.putAt, hcc, hz2, if_true]
        simp (maxSteps := 1000000) (disch := first | (simp; done) | (simp only [IHeap.size_push', IHeap.size_set']; omega) | omega) [rn, rd, r2, r3, r4, r5, Hz, hz2, bodyQ, jp, jq, j0, j1, j2, j3, TB.row, TB.slc, hc, one_int, wrap64, hw, hw2, hqp, Ne.symm hqp, flat3_len, hl3, flat3_set]
        refine ⟨niC_pend [] (by kernel_rfl) trivial, ⟨by simp only [IHeap.size_set', IHeap.size_push']; omega, ⟨k, W, c, by omega, hW, hcc, hz, j.all, by simp (maxSteps := 1000000) (disch := first | (simp; done) | (simp only [IHeap.size_push', IHeap.size_set']; omega) | omega) [hpz2, Ne.symm hpz2], by rw [hpa]; exact ⟨by simp (maxSteps := 1000000) (disch := first | (simp; done) | (simp only [IHeap.size_push', IHeap.size_set']; omega) | omega) [TB.row, TB.slc, e4], fun _ => ⟨by simp (maxSteps := 1000000) (disch := first | (simp; done) | (simp only [IHeap.size_push', IHeap.size_set']; omega) | omega) [hqp, Ne.symm hqp], hqp⟩⟩⟩, fun i hi hip hiq => ?_, ?_, ?_, ?_⟩⟩
        · have := j.old i hi
          simp (maxSteps := 1000000) (disch := first | (simp; done) | (simp only [IHeap.size_push', IHeap.size_set']; omega) | omega) [this, hip, hiq, Ne.symm hip, Ne.symm hiq]
        · simp (maxSteps := 1000000) (disch := first | (simp; done) | (simp only [IHeap.size_push', IHeap.size_set']; omega) | omega) []
        · simp (maxSteps := 1000000) (disch := first | (simp; done) | (simp only [IHeap.size_push', IHeap.size_set']; omega) | omega) [jd]
        · simp (maxSteps := 1000000) (disch := first | (simp; done) | (simp only [IHeap.size_push', IHeap.size_set']; omega) | omega) []
      · have hpa : t.putAt W hash what = { ps := t.ps.set W (hash, what, 1), en := t.en + 1, ma := t.ma } := by simp only [TB.putAt, hcc, hz2, if_false]
        simp (maxSteps := 1000000) (disch := first | (simp; done) | (simp only [IHeap.size_push', IHeap.size_set']; omega) | omega) [rn, rd, r2, r3, r4, r5, Hz, hz, hz2, bodyQ, jp, jq, j0, j1, j2, j3, TB.row, TB.slc, hc, one_int, wrap64, hw, hw2, hqp, Ne.symm hqp, flat3_len, hl3, flat3_set]
        refine ⟨niC_pend [] (by kernel_rfl) trivial, ⟨by simp only [IHeap.size_set', IHeap.size_push']; omega, ⟨k, W, c, by omega, hW, hcc, hz, j.all, by simp (maxSteps := 1000000) (disch := first | (simp; done) | (simp only [IHeap.size_push', IHeap.size_set']; omega) | omega) [hpz2, Ne.symm hpz2], by rw [hpa]; exact ⟨by simp (maxSteps := 1000000) (disch := first | (simp; done) | (simp only [IHeap.size_push', IHeap.size_set']; omega) | omega) [TB.row, TB.slc, e4], fun _ => ⟨by simp (maxSteps := 1000000) (disch := first | (simp; done) | (simp only [IHeap.size_push', IHeap.size_set']; omega) | omega) [hqp, Ne.symm hqp], hqp⟩⟩⟩, fun i hi hip hiq => ?_, ?_, ?_, ?_⟩⟩
        · have := j.old i hi
          simp (maxSteps := 1000000) (disch := first | (simp; done) | (simp only [IHeap.size_push', IHeap.size_set']; omega) | omega) [this, hip, hiq, Ne.symm hip, Ne.symm hiq]
        · simp (maxSteps := 1000000) (disch := first | (simp; done) | (simp only [IHeap.size_push', IHeap.size_set']; omega) | omega) []
        · simp (maxSteps := 1000000) (disch := first | (simp; done) | (simp only [IHeap.size_push', IHeap.size_set']; omega) | omega) [jd]
        · simp (maxSteps := 1000000) (disch := first | (simp; done) | (simp only [IHeap.size_push', IHeap.size_set']; omega) | omega) []
  · refine ⟨by simp only [IHeap.size_push']; omega, fun i hi => ?_, ?_, ?_, ?_, ?_, ?_, ?_, ?_, ?_, fun j hj => by omega⟩
    · have := Ho i hi
      simp (maxSteps := 1000000) (disch := first | (simp; done) | (simp only [IHeap.size_push', IHeap.size_set']; omega) | omega) [this]
    · simp (maxSteps := 1000000) (disch := first | (simp; done) | (simp only [IHeap.size_push', IHeap.size_set']; omega) | omega) [H0]
    · simp (maxSteps := 1000000) (disch := first | (simp; done) | (simp only [IHeap.size_push', IHeap.size_set']; omega) | omega) [H1]
    · simp (maxSteps := 1000000) (disch := first | (simp; done) | (simp only [IHeap.size_push', IHeap.size_set']; omega) | omega) [H2]
    · simp (maxSteps := 1000000) (disch := first | (simp; done) | (simp only [IHeap.size_push', IHeap.size_set']; omega) | omega) [H3]
    · simp (maxSteps := 1000000) (disch := first | (simp; done) | (simp only [IHeap.size_push', IHeap.size_set']; omega) | omega) [H4]
    · simp (maxSteps := 1000000) (disch := first | (simp; done) | (simp only [IHeap.size_push', IHeap.size_set']; omega) | omega) [H5]
    · simp (maxSteps := 1000000) (disch := first | (simp; done) | (simp only [IHeap.size_push', IHeap.size_set']; omega) | omega) [Hz]
    · simp (maxSteps := 1000000) (disch := first | (simp; done) | (simp only [IHeap.size_push', IHeap.size_set']; omega) | omega) [Hz]
  · rintro v h3 hp
    simp only [Hid.ap_mk] at hp ⊢
    obtain ⟨E', hE', n', d', g'⟩ := XEnv.withd E (markOf H.size :: E.dfr)
    have E4' := g' 4
    have E5' := g' 5
    rw [E4] at E4'; rw [E5] at E5'; rw [En] at n'; rw [Ed, Hz] at d'
    rcases hp with j | j
    · have gl := j.gl
      have jz := j.size
      have j2 := j.g2
      have j3 := j.g3
      have jd := j.gd
      refine ⟨L, by rw [Hz]; exact gl, by rw [Ls]; simp, .normal, by rw [Ln]; rfl, ?_⟩
      simp only [Hid.ap_mk]
      rw [hE', Hz]
      obtain ⟨h4, hh4⟩ : ∃ h4, h4 = h3.set (h.size + 6 + 1) (.loop { L with state := .exhausted }) := ⟨_, rfl⟩
      rw [← hh4]
      have hz4 : h4.size = h3.size := by rw [hh4]; simp only [IHeap.size_set']
      have q2 : h4.get (h.size + 2) = some (.row false 0 [.int .i64 0]) := by rw [hh4]; simp (maxSteps := 1000000) (disch := first | (simp; done) | (simp only [IHeap.size_push', IHeap.size_set']; omega) | omega) [j2]
      have q3 : h4.get (h.size + 3) = some (.row false 0 [.int .i64 0]) := by rw [hh4]; simp (maxSteps := 1000000) (disch := first | (simp; done) | (simp only [IHeap.size_push', IHeap.size_set']; omega) | omega) [j3]
      have qd : ((h4.set (h.size + 2) (.row false 0 [.int .i64 0])).set (h.size + 3) (.row false 0 [.int .i64 9])).get (h.size + 6) = some .defs := by rw [hh4]; simp (maxSteps := 1000000) (disch := first | (simp; done) | (simp only [IHeap.size_push', IHeap.size_set']; omega) | omega) [jd]
      have qo : ∀ i, i < h.size → h4.get i = h.get i := fun i hi => by
        have := j.old i hi
        rw [hh4]; simp (maxSteps := 1000000) (disch := first | (simp; done) | (simp only [IHeap.size_push', IHeap.size_set']; omega) | omega) [this]
      clear hh4
      have e1 := free_none j.all
      simp (maxSteps := 1000000) (disch := first | (simp; done) | (simp only [IHeap.size_push', IHeap.size_set']; omega) | omega) [outOf_normal, E4', E5', n', d', q2, q3, one_int, finD_one qd]
      have e2 : ∀ i, i < h.size → (((h4.set (h.size + 2) (.row false 0 [.int .i64 0])).set (h.size + 3) (.row false 0 [.int .i64 9])).set (h.size + 6) .dead).get i = h.get i := fun i hi => by
        rw [IHeap.get_set_ne _ (by omega), IHeap.get_set_ne _ (by omega), IHeap.get_set_ne _ (by omega)]; exact qo i hi
      refine ⟨by simp [TB.putV, hc, e1], by simp only [TB.put, e1]; exact tat_inv x e2, ⟨by simp only [IHeap.size_set']; omega, fun i hi _ _ => e2 i hi⟩⟩
    · have gl := j.gl
      have jz := j.size
      obtain ⟨k, W, c, k1, rfl, k3, k4, k5, j2, xt⟩ := j.ex
      have j3 := j.g3
      have jd := j.gd
      refine ⟨_, by rw [Hz]; exact gl, by simp, .ret, rfl, ?_⟩
      simp only [Hid.ap_mk]
      rw [hE', Hz]
      obtain ⟨h4, hh4⟩ : ∃ h4, h4 = h3.set (h.size + 6 + 1) (.loop { L with state := .exhausted, pending := some .ret }) := ⟨_, rfl⟩
      rw [← hh4]
      have hz4 : h4.size = h3.size := by rw [hh4]; simp only [IHeap.size_set']
      have q2 : h4.get (h.size + 2) = some (.row false 0 [.int .i64 (wayI t.ps.length hash k : Nat)]) := by rw [hh4]; simp (maxSteps := 1000000) (disch := first | (simp; done) | (simp only [IHeap.size_push', IHeap.size_set']; omega) | omega) [j2]
      have q3 : h4.get (h.size + 3) = some (.row false 0 [.int .i64 0]) := by rw [hh4]; simp (maxSteps := 1000000) (disch := first | (simp; done) | (simp only [IHeap.size_push', IHeap.size_set']; omega) | omega) [j3]
      have qd : h4.get (h.size + 6) = some .defs := by rw [hh4]; simp (maxSteps := 1000000) (disch := first | (simp; done) | (simp only [IHeap.size_push', IHeap.size_set']; omega) | omega) [jd]
      have qk : ∀ i, i < h3.size → i ≠ h.size + 7 → h4.get i = h3.get i := fun i hi hne => by
        rw [hh4, IHeap.get_set_ne _ (by omega)]
      clear hh4
      have e1 := free_some k1 k3 k4 k5
      simp (maxSteps := 1000000) (disch := first | (simp; done) | (simp only [IHeap.size_push', IHeap.size_set']; omega) | omega) [outOf_ret, E4', E5', n', d', q2, q3, one_int, finD_one qd]
      refine ⟨by simp [TB.putV, hc, e1], ?_, ⟨by simp only [IHeap.size_set']; omega, fun i hi hip hiq => ?_⟩⟩
      · simp only [TB.put, e1]
        refine ⟨?_, fun hc2 => ?_⟩
        · rw [IHeap.get_set_ne _ (by omega), qk p (by omega) (by omega)]; exact xt.gp
        · obtain ⟨u1, u2⟩ := xt.gq hc2
          exact ⟨by rw [IHeap.get_set_ne _ (by omega), qk q (by omega) (by omega)]; exact u1, u2⟩
      · rw [IHeap.get_set_ne _ (by omega), qk i (by omega) (by omega)]; exact j.old i hi hip hiq
end Go.Proofs.Ytmobpbhbllhdcaa.Ideal
