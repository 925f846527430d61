import Derived.Test.YtmobpbhbllhdcaaP14i
noncomputable section
open Go.Proofs
namespace Go.Proofs.Ytmobpbhbllhdcaa.Ideal
open Go.RowKit
set_option linter.unusedSimpArgs false
set_option linter.unusedVariables false
set_option linter.unusedSectionVars false
set_option maxRecDepth 100000
set_option maxHeartbeats 4000000
/-- A size: 16 to 256. -/
def P2 (m : Nat) : Prop := m = 16 ∨ m = 32 ∨ m = 64 ∨ m = 128 ∨ m = 256
theorem P2.mask {m : Nat} (h : P2 m) : maskI m = 0 := by
  rcases h with rfl | rfl | rfl | rfl | rfl <;> kernel_rfl
theorem P2.dv {m : Nat} (h : P2 m) : (m : Int) ∣ 18446744073709551616 := by
  rcases h with rfl | rfl | rfl | rfl | rfl <;> decide
theorem P2.le {m : Nat} (h : P2 m) : 16 ≤ m ∧ m ≤ 256 := by
  unfold P2 at h
  omega
/-- The next one's size. -/
def gsize (e m : Nat) : Nat → Nat → Nat
  | 0, x => x
  | f + 1, x => if x < 4 * e ∧ x < m then gsize e m f (2 * x) else x
theorem gsize_P2 {e m : Nat} (hm : P2 m) : ∀ (f x : Nat), P2 x → x ≤ m → P2 (gsize e m f x) ∧ gsize e m f x ≤ m
  | 0, x, hx, hl => ⟨hx, hl⟩
  | f + 1, x, hx, hl => by
    rw [gsize]
    split
    · rename_i c
      refine gsize_P2 hm f (2 * x) ?_ ?_
      · unfold P2 at hm hx ⊢
        omega
      · unfold P2 at hm hx
        omega
    · exact ⟨hx, hl⟩
def GT.begins (g : GT) : Bool := g.nx.isNone && decide ((g.now.ps.length : Int) < 2 * (g.now.en + g.now.ma)) && !(decide (g.now.ps.length = g.most) && decide (8 * g.now.ma < (g.now.ps.length : Int)))
def GT.begin (g : GT) : GT := if g.begins then { g with nx := some (newTB (gsize g.now.en.toNat g.most 5 16)), cur := 0 } else g
/-- A state that may be. -/
structure GOK (g : GT) : Prop where
  m : P2 g.most
  t : TOK g.now
  l : P2 g.now.ps.length
  lm : g.now.ps.length ≤ g.most
  x : ∀ t, g.nx = some t → TOK t ∧ P2 t.ps.length ∧ t.ps.length ≤ g.most
  c : g.cur ≤ 256
theorem cnt_le (l : List Bool) : l.countP id ≤ l.length := List.countP_le_length
theorem TOK.enB {t : TB} (x : TOK t) : 0 ≤ t.en ∧ t.en ≤ 256 := by
  have := x.en
  have h2 := cnt_le (fullL t.ps)
  have h3 := x.len
  rw [show (fullL t.ps).length = t.ps.length by simp [fullL]] at h2
  omega
theorem TOK.maB {t : TB} (x : TOK t) : 0 ≤ t.ma ∧ t.ma ≤ 256 := by
  have := x.ma
  have h2 := cnt_le (markL t.ps)
  have h3 := x.len
  rw [show (markL t.ps).length = t.ps.length by simp [markL]] at h2
  omega
attribute [-simp] IHeap.size_set IHeap.size_push
attribute [local simp ↓] Hid.ap_mk
attribute [local simp] scopeQ_normal scopeQ_ret scopeQ_exit WP_skip WP_label WP_exit WP_goto WP_ret WP_region WP_seq WP_cond WP_block WP_scope WP_loop WP_range thenQ_normal thenQ_ret thenQ_exit thenQ_goto loopQ_normal loopQ_ret loopQ_exit invQ_normal invQ_ret invQ_exit outOf_normal outOf_ret outOf_goto outOf_exit ev_tmp ev_const ev_func
  wops_nil wops_cons wantedE_none wantedE_some jgd_some wnx_eq niC_false wdo_move wdo_assign wdo_pick wdo_load wdo_store wdo_alloc wdo_box wdo_fieldAddr wdo_indexAddr wdo_field wdo_extract wdo_build wdo_buildSlice wdo_makeSlice wdo_binOp wdo_unOp wdo_makeFunc wdo_nilCheck wdo_callV wdo_len wdo_append wdo_copy wdo_delete wdo_max wdo_min wdo_convert jcvt_int
  xput_get put_n put_none put_dfr ibin finQ_n finQ_r finD_nil splice_one ires_nil ires_one ires_two ires_three ires1_tmp ires1_cell jcell_ptr rowLoad_row wrap64 wrapU64 wrapU8 wrapU16 wrapU32 callV_fn buildOf Instr.fill Value.cells Value.oneCell' kindOf slots_all splice_all IHeap.size_set' IHeap.size_push' IHeap.get_set_same IHeap.get_set_ne IHeap.get_pushed IHeap.get_push_ne IHeap.set_set IHeap.set_push IHeap.set_pushed IHeap.set_set3 getU_nil getU_same getU_ne jif_true jif_false pushH_eq setH_eq forceL_eq forceV_eq ibuildSlice
attribute [local simp] wdo_index jopt_some
attribute [-simp] Value.oneCell'
attribute [local simp] one_int' one_ptr'
structure KG (G : Nat) (h h' : IHeap) : Prop where
  size : h.size ≤ h'.size
  get : ∀ i, i < h.size → i ≠ G → h'.get i = h.get i
theorem GAt.apart {g : GT} {h : IHeap} {G p q p' q' : Nat} (x : GAt g h G p q p' q') (hl : g.now.ps ≠ []) : G ≠ p ∧ G ≠ q := by
  constructor
  · intro e
    have h1 := x.gG
    rw [e, x.now.gp] at h1
    simp [TB.row] at h1
  · intro e
    have h1 := x.gG
    rw [e, (x.now.gq hl).1] at h1
    simp at h1
theorem begin_fin {g : GT} {h : IHeap} {G p q p' q' y : Nat} (x : GAt g h G p q p' q') (hl : g.now.ps ≠ []) (hy : 16 ≤ y) :
    ∃ p2 q2, GAt { g with nx := some (newTB y), cur := 0 } (((h.set G (.row false 0 [.pointer (some ⟨p, 0, none⟩), .pointer (some ⟨h.size + 1, 0, none⟩), .int .i64 (g.most : Nat), .int .i64 0])).push (.row false 3 (flat3 (List.replicate y (0, 0, 0))))).push (.row false 0 ((newTB y).row h.size))) G p q p2 q2 ∧ (h.size ≤ p2 ∧ h.size ≤ q2) ∧ KG G h (((h.set G (.row false 0 [.pointer (some ⟨p, 0, none⟩), .pointer (some ⟨h.size + 1, 0, none⟩), .int .i64 (g.most : Nat), .int .i64 0])).push (.row false 3 (flat3 (List.replicate y (0, 0, 0))))).push (.row false 0 ((newTB y).row h.size))) := by
  obtain ⟨n1, n2⟩ := x.apart hl
  have gl := IHeap.get_lt x.gG
  have pl := IHeap.get_lt x.now.gp
  have ql := IHeap.get_lt (x.now.gq hl).1
  obtain ⟨o, ho⟩ : ∃ o, o = IObj.row false 0 [.pointer (some ⟨p, 0, none⟩), .pointer (some ⟨h.size + 1, 0, none⟩), .int .i64 (g.most : Nat), .int .i64 0] := ⟨_, rfl⟩
  obtain ⟨o3, ho3⟩ : ∃ o, o = IObj.row false 3 (flat3 (List.replicate y (0, 0, 0))) := ⟨_, rfl⟩
  obtain ⟨oT, hoT⟩ : ∃ o, o = IObj.row false 0 ((newTB y).row h.size) := ⟨_, rfl⟩
  rw [← ho, ← ho3, ← hoT]
  have z1 : (h.set G o).size = h.size := by rw [IHeap.size_set']
  have z2 : ((h.set G o).push o3).size = h.size + 1 := by rw [IHeap.size_push', z1]
  have kget : ∀ i, i < h.size → i ≠ G → (((h.set G o).push o3).push oT).get i = h.get i := fun i hi hG => by
    rw [IHeap.get_push_ne _ (by omega), IHeap.get_push_ne _ (by omega), IHeap.get_set_ne _ (fun e => hG e.symm)]
  refine ⟨h.size + 1, h.size, ⟨?_, ⟨(kget p pl n1.symm).trans x.now.gp, fun hc => ⟨(kget q ql n2.symm).trans (x.now.gq hc).1, (x.now.gq hc).2⟩⟩, .inr ⟨h.size + 1, rfl, ⟨?_, fun _ => ⟨?_, by omega⟩⟩⟩, fun _ => by omega⟩, ⟨by omega, by omega⟩, by rw [IHeap.size_push', z2]; omega, kget⟩
  · rw [IHeap.get_push_ne _ (by omega), IHeap.get_push_ne _ (by omega), IHeap.get_set_same _ gl, ho]
    rfl
  · rw [IHeap.get_pushed _ z2.symm, hoT]
    rfl
  · rw [IHeap.get_push_ne _ (by omega), IHeap.get_pushed _ z1.symm, ho3]
    rfl
theorem begin_c {g : GT} {h : IHeap} {G p q p' q' : Nat} (x : GAt g h G p q p' q') (ok : GOK g) : FN Try.prog 31 #[.pointer (some ⟨G, 0, none⟩)] h (Q := ⟨fun _ h' => ∃ p2 q2, GAt g.begin h' G p q p2 q2 ∧ ((g.begin = g ∧ p2 = p' ∧ q2 = q') ∨ (h.size ≤ p2 ∧ h.size ≤ q2)) ∧ KG G h h'⟩) := by
  have gG := x.gG
  have nowI : TIs h (some ⟨p, 0, none⟩) g.now q := .inr ⟨p, rfl, x.now⟩
  have eb := ok.t.enB
  have mb := ok.t.maB
  have lb := ok.l.le
  have gl := IHeap.get_lt gG
  refine FN.enter mixed (fn := Try.f31) (by kernel_rfl) rfl (by kernel_rfl) fun e hn hg hd => ?_
  simp [Try.f31] at hn
  have a0 : e.get 0 = .pointer (some ⟨G, 0, none⟩) := hg 0 (by omega)
  clear hg
  simp (maxSteps := 1000000) (disch := first | (simp; done) | (simp only [IHeap.size_push', IHeap.size_set']; omega) | omega) [a0, hn, hd, gG]
  refine FN.of (places_c nowI) ?_
  simp (maxSteps := 1000000) (disch := first | (simp; done) | (simp only [IHeap.size_push', IHeap.size_set']; omega) | omega) [a0, hn, hd, gG]
  refine FN.of (entries_c nowI) ?_
  simp (maxSteps := 1000000) (disch := first | (simp; done) | (simp only [IHeap.size_push', IHeap.size_set']; omega) | omega) [a0, hn, hd, gG]
  refine FN.of (marks_c nowI) ?_
  cases hx : g.nx with
  | some t =>
    have nA : g.nxA p' = some ⟨p', 0, none⟩ := by unfold GT.nxA; rw [hx]
    have bg : g.begin = g := by
      unfold GT.begin GT.begins
      rw [hx]
      rfl
    have gG2 := gG
    rw [nA] at gG2
    simp (maxSteps := 1000000) (disch := first | (simp; done) | (simp only [IHeap.size_push', IHeap.size_set']; omega) | omega) [a0, hn, hd, gG2, undef, wrap64, bg]
    exact ⟨niC_pend [(4, 8)] (by kernel_rfl) ⟨rfl, trivial⟩, p', q', x, .inl ⟨rfl, rfl⟩, Nat.le_refl _, fun _ _ _ => rfl⟩
  | none =>
    have nA : g.nxA p' = none := by unfold GT.nxA; rw [hx]
    rw [nA] at gG
    by_cases c1 : (g.now.ps.length : Int) < 2 * (g.now.en + g.now.ma)
    · by_cases c2 : g.now.ps.length = g.most
      · have c2' : (g.now.ps.length : Int) = g.most := by omega
        have c1m : (g.most : Int) < 2 * (g.now.en + g.now.ma) := by omega
        simp (maxSteps := 1000000) (disch := first | (simp; done) | (simp only [IHeap.size_push', IHeap.size_set']; omega) | omega) [a0, hn, hd, gG, undef, wrap64, c1m, c2, c2']
        refine ⟨niC_pend [(4, 8)] (by kernel_rfl) ⟨rfl, trivial⟩, ?_⟩
        refine FN.of (marks_c nowI) ?_
        by_cases c3 : 8 * g.now.ma < (g.now.ps.length : Int)
        · have c3m : 8 * g.now.ma < (g.most : Int) := by omega
          have bg : g.begin = g := by
            unfold GT.begin GT.begins
            rw [hx, decide_eq_true c1, decide_eq_true c2, decide_eq_true c3]
            rfl
          simp (maxSteps := 1000000) (disch := first | (simp; done) | (simp only [IHeap.size_push', IHeap.size_set']; omega) | omega) [a0, hn, hd, gG, undef, wrap64, c3m, c2, c2', bg]
          exact ⟨p', q', x, .inl ⟨rfl, rfl⟩, Nat.le_refl _, fun _ _ _ => rfl⟩
        · have c3m : ¬ 8 * g.now.ma < (g.most : Int) := by omega
          simp (maxSteps := 1000000) (disch := first | (simp; done) | (simp only [IHeap.size_push', IHeap.size_set']; omega) | omega) [a0, hn, hd, gG, undef, wrap64, c3m, c2, c2']
          have bg : g.begins = true := by
            unfold GT.begins
            rw [hx, decide_eq_true c1, decide_eq_true c2, decide_eq_false c3]
            rfl
          have eb2 : g.begin = { g with nx := some (newTB (gsize g.now.en.toNat g.most 5 16)), cur := 0 } := by
            unfold GT.begin
            rw [if_pos bg]
          refine WPL.by_inv mixed (by kernel_rfl) (fun k e h' => ∃ (y : Nat), gsize g.now.en.toNat g.most k y = gsize g.now.en.toNat g.most 5 16 ∧ P2 y ∧ y ≤ g.most ∧ 16 * 2 ^ (5 - k) ≤ y ∧ k ≤ 5 ∧ e.n = 80 ∧ e.dfr = [] ∧ e.get 0 = .pointer (some ⟨G, 0, none⟩) ∧ e.get 4 = .int .i64 y ∧ h' = h) 5 ?_ ?_
          · refine ⟨16, rfl, .inl rfl, ok.m.le.1, by decide, by decide, ?_⟩
            simp (maxSteps := 1000000) (disch := first | (simp; done) | (simp only [IHeap.size_push', IHeap.size_set']; omega) | omega) [a0, hn, hd]
          clear hn hd a0 e
          rintro k e h1 ⟨y, hg, hy, hym, hyk, hk5, hn, hd, a0, a4, rfl⟩
          by_cases c5 : y < 4 * g.now.en.toNat ∧ y < g.most
          · obtain ⟨c5, c6⟩ := c5
            have c5' : (y : Int) < 4 * g.now.en := by omega
            have c6' : (y : Int) < g.most := by omega
            have yl := hy.le
            simp (maxSteps := 1000000) (disch := first | (simp; done) | (simp only [IHeap.size_push', IHeap.size_set']; omega) | omega) [a0, a4, hn, hd, gG]
            refine FN.of (entries_c nowI) ?_
            simp (maxSteps := 1000000) (disch := first | (simp; done) | (simp only [IHeap.size_push', IHeap.size_set']; omega) | omega) [a0, a4, hn, hd, gG, wrap64, c5', c6', c6, undef]
            cases k with
            | zero =>
              simp at hyk
              omega
            | succ k =>
              refine ⟨k, by omega, 2 * y, ?_, ?_, ?_, ?_, by omega, by omega⟩
              · rw [← hg, gsize, if_pos ⟨c5, c6⟩]
              · have := ok.m
                unfold P2 at this hy ⊢
                omega
              · have := ok.m
                unfold P2 at this hy
                omega
              · rw [show 5 - k = (5 - (k + 1)) + 1 by omega, Nat.pow_succ]
                omega
          · have fin : gsize g.now.en.toNat g.most 5 16 = y := by
              rw [← hg]
              cases k with
              | zero => rfl
              | succ k => rw [gsize, if_neg c5]
            have yl := hy.le
            have nw := new_c (h := h1) y (by omega) hy.mask
            by_cases c6 : (y : Int) < 4 * g.now.en
            · have c7 : ¬ (y : Int) < g.most := by omega
              have c7n : ¬ y < g.most := by omega
              simp (maxSteps := 1000000) (disch := first | (simp; done) | (simp only [IHeap.size_push', IHeap.size_set']; omega) | omega) [a0, a4, hn, hd, gG]
              refine FN.of (entries_c nowI) ?_
              simp (maxSteps := 1000000) (disch := first | (simp; done) | (simp only [IHeap.size_push', IHeap.size_set']; omega) | omega) [a0, a4, hn, hd, gG, wrap64, c6, c7, c7n, undef]
              refine FN.of nw ?_
              simp (maxSteps := 1000000) (disch := first | (simp; done) | (simp only [IHeap.size_push', IHeap.size_set']; omega) | omega) [a0, a4, hn, hd, gG]
              rw [eb2, fin]
              obtain ⟨p2, q2, b1, b2, b3⟩ := begin_fin x (fun e => by rw [e] at lb; simp at lb) (y := y) (by omega)
              exact ⟨p2, q2, b1, .inr b2, b3⟩
            · simp (maxSteps := 1000000) (disch := first | (simp; done) | (simp only [IHeap.size_push', IHeap.size_set']; omega) | omega) [a0, a4, hn, hd, gG]
              refine FN.of (entries_c nowI) ?_
              simp (maxSteps := 1000000) (disch := first | (simp; done) | (simp only [IHeap.size_push', IHeap.size_set']; omega) | omega) [a0, a4, hn, hd, gG, wrap64, c6, undef]
              refine FN.of nw ?_
              simp (maxSteps := 1000000) (disch := first | (simp; done) | (simp only [IHeap.size_push', IHeap.size_set']; omega) | omega) [a0, a4, hn, hd, gG]
              rw [eb2, fin]
              obtain ⟨p2, q2, b1, b2, b3⟩ := begin_fin x (fun e => by rw [e] at lb; simp at lb) (y := y) (by omega)
              exact ⟨p2, q2, b1, .inr b2, b3⟩
      · have c2' : ¬ (g.now.ps.length : Int) = g.most := by omega
        simp (maxSteps := 1000000) (disch := first | (simp; done) | (simp only [IHeap.size_push', IHeap.size_set']; omega) | omega) [a0, hn, hd, gG, undef, wrap64, c1, c2, c2']
        refine ⟨niC_pend [(4, 8)] (by kernel_rfl) ⟨rfl, trivial⟩, ?_⟩
        have bg : g.begins = true := by
          unfold GT.begins
          rw [hx, decide_eq_true c1, decide_eq_false c2]
          rfl
        have eb2 : g.begin = { g with nx := some (newTB (gsize g.now.en.toNat g.most 5 16)), cur := 0 } := by
          unfold GT.begin
          rw [if_pos bg]
        refine WPL.by_inv mixed (by kernel_rfl) (fun k e h' => ∃ (y : Nat), gsize g.now.en.toNat g.most k y = gsize g.now.en.toNat g.most 5 16 ∧ P2 y ∧ y ≤ g.most ∧ 16 * 2 ^ (5 - k) ≤ y ∧ k ≤ 5 ∧ e.n = 80 ∧ e.dfr = [] ∧ e.get 0 = .pointer (some ⟨G, 0, none⟩) ∧ e.get 4 = .int .i64 y ∧ h' = h) 5 ?_ ?_
        · refine ⟨16, rfl, .inl rfl, ok.m.le.1, by decide, by decide, ?_⟩
          simp (maxSteps := 1000000) (disch := first | (simp; done) | (simp only [IHeap.size_push', IHeap.size_set']; omega) | omega) [a0, hn, hd]
        clear hn hd a0 e
        rintro k e h1 ⟨y, hg, hy, hym, hyk, hk5, hn, hd, a0, a4, rfl⟩
        by_cases c5 : y < 4 * g.now.en.toNat ∧ y < g.most
        · obtain ⟨c5, c6⟩ := c5
          have c5' : (y : Int) < 4 * g.now.en := by omega
          have c6' : (y : Int) < g.most := by omega
          have yl := hy.le
          simp (maxSteps := 1000000) (disch := first | (simp; done) | (simp only [IHeap.size_push', IHeap.size_set']; omega) | omega) [a0, a4, hn, hd, gG]
          refine FN.of (entries_c nowI) ?_
          simp (maxSteps := 1000000) (disch := first | (simp; done) | (simp only [IHeap.size_push', IHeap.size_set']; omega) | omega) [a0, a4, hn, hd, gG, wrap64, c5', c6', c6, undef]
          cases k with
          | zero =>
            simp at hyk
            omega
          | succ k =>
            refine ⟨k, by omega, 2 * y, ?_, ?_, ?_, ?_, by omega, by omega⟩
            · rw [← hg, gsize, if_pos ⟨c5, c6⟩]
            · have := ok.m
              unfold P2 at this hy ⊢
              omega
            · have := ok.m
              unfold P2 at this hy
              omega
            · rw [show 5 - k = (5 - (k + 1)) + 1 by omega, Nat.pow_succ]
              omega
        · have fin : gsize g.now.en.toNat g.most 5 16 = y := by
            rw [← hg]
            cases k with
            | zero => rfl
            | succ k => rw [gsize, if_neg c5]
          have yl := hy.le
          have nw := new_c (h := h1) y (by omega) hy.mask
          by_cases c6 : (y : Int) < 4 * g.now.en
          · have c7 : ¬ (y : Int) < g.most := by omega
            have c7n : ¬ y < g.most := by omega
            simp (maxSteps := 1000000) (disch := first | (simp; done) | (simp only [IHeap.size_push', IHeap.size_set']; omega) | omega) [a0, a4, hn, hd, gG]
            refine FN.of (entries_c nowI) ?_
            simp (maxSteps := 1000000) (disch := first | (simp; done) | (simp only [IHeap.size_push', IHeap.size_set']; omega) | omega) [a0, a4, hn, hd, gG, wrap64, c6, c7, c7n, undef]
            refine FN.of nw ?_
            simp (maxSteps := 1000000) (disch := first | (simp; done) | (simp only [IHeap.size_push', IHeap.size_set']; omega) | omega) [a0, a4, hn, hd, gG]
            rw [eb2, fin]
            obtain ⟨p2, q2, b1, b2, b3⟩ := begin_fin x (fun e => by rw [e] at lb; simp at lb) (y := y) (by omega)
            exact ⟨p2, q2, b1, .inr b2, b3⟩
          · simp (maxSteps := 1000000) (disch := first | (simp; done) | (simp only [IHeap.size_push', IHeap.size_set']; omega) | omega) [a0, a4, hn, hd, gG]
            refine FN.of (entries_c nowI) ?_
            simp (maxSteps := 1000000) (disch := first | (simp; done) | (simp only [IHeap.size_push', IHeap.size_set']; omega) | omega) [a0, a4, hn, hd, gG, wrap64, c6, undef]
            refine FN.of nw ?_
            simp (maxSteps := 1000000) (disch := first | (simp; done) | (simp only [IHeap.size_push', IHeap.size_set']; omega) | omega) [a0, a4, hn, hd, gG]
            rw [eb2, fin]
            obtain ⟨p2, q2, b1, b2, b3⟩ := begin_fin x (fun e => by rw [e] at lb; simp at lb) (y := y) (by omega)
            exact ⟨p2, q2, b1, .inr b2, b3⟩
    · have bg : g.begin = g := by
        unfold GT.begin GT.begins
        rw [hx, decide_eq_false c1]
        rfl
      simp (maxSteps := 1000000) (disch := first | (simp; done) | (simp only [IHeap.size_push', IHeap.size_set']; omega) | omega) [a0, hn, hd, gG, undef, wrap64, c1, bg]
      exact ⟨niC_pend [(4, 8)] (by kernel_rfl) ⟨rfl, trivial⟩, p', q', x, .inl ⟨rfl, rfl⟩, Nat.le_refl _, fun _ _ _ => rfl⟩
end Go.Proofs.Ytmobpbhbllhdcaa.Ideal
