import Derived.Test.YtgfemimlpbileaaP13g
noncomputable section
open Go.Proofs
namespace Go.Proofs.Ytgfemimlpbileaa.Ideal
open Go.RowKit
set_option linter.unusedSimpArgs false
set_option linter.unusedVariables false
set_option linter.unusedSectionVars false
set_option linter.unnecessarySimpa false
set_option maxRecDepth 100000
set_option maxHeartbeats 2000000
attribute [-simp] IHeap.size_set IHeap.size_push
attribute [local simp ↓] Hid.ap_mk
attribute [local simp] scopeQ_normal scopeQ_ret scopeQ_exit WP_skip WP_label WP_exit WP_goto WP_ret WP_region WP_seq WP_cond WP_block WP_scope WP_loop WP_range thenQ_normal thenQ_ret thenQ_exit thenQ_goto loopQ_normal loopQ_ret loopQ_exit invQ_normal invQ_ret invQ_exit outOf_normal outOf_ret outOf_goto outOf_exit ev_tmp ev_const ev_func
  wops_nil wops_cons wantedE_none wantedE_some jgd_some wnx_eq niC_false wdo_move wdo_assign wdo_pick wdo_load wdo_store wdo_alloc wdo_box wdo_fieldAddr wdo_indexAddr wdo_field wdo_extract wdo_build wdo_buildSlice wdo_makeSlice wdo_binOp wdo_unOp wdo_makeFunc wdo_nilCheck wdo_callV wdo_len wdo_append wdo_copy wdo_delete wdo_max wdo_min wdo_convert jcvt_int
  xput_get put_n put_none put_dfr ibin finQ_n finQ_r finD_nil splice_one ires_nil ires_one ires_two ires_three ires1_tmp ires1_cell jcell_ptr rowLoad_row wrap64 wrapU64 wrapU8 wrapU16 wrapU32 callV_fn buildOf Instr.fill Value.cells Value.oneCell' kindOf slots_all splice_all IHeap.size_set' IHeap.size_push' IHeap.get_set_same IHeap.get_set_ne IHeap.get_pushed IHeap.get_push_ne IHeap.set_set IHeap.set_push IHeap.set_pushed IHeap.set_set3 getU_nil getU_same getU_ne jif_true jif_false pushH_eq setH_eq forceL_eq forceV_eq ibuildSlice
attribute [-simp] Value.oneCell'
theorem eqE (a b x y : Int) : aggEq Try.prog 32 .eql (.agg #[.int .u64 a, .int .u32 b]) (.agg #[.int .u64 x, .int .u32 y]) = some (.bool (a == x && b == y)) ∧ aggEq Try.prog 32 .neq (.agg #[.int .u64 a, .int .u32 b]) (.agg #[.int .u64 x, .int .u32 y]) = some (.bool (!(a == x && b == y))) := by
  obtain ⟨fs, h1, h2⟩ := Option.map_eq_some_iff.mp (show (fldsOf Try.prog 32).map (·.map fldSig) = some [(true, 29, 0), (true, 30, 1)] by kernel_rfl)
  have ag3 : pureVal Try.prog (isAgg 29) = some false := by kernel_rfl
  have ag30 : pureVal Try.prog (isAgg 30) = some false := by kernel_rfl
  have := aggEq_ints h1 (by kernel_rfl) (by kernel_rfl) [(29, .u64, a, x), (30, .u32, b, y)] h2 (fun p hp => by
    simp only [List.mem_cons, List.not_mem_nil, or_false] at hp
    rcases hp with rfl | rfl
    · exact ⟨by simp, ag3⟩
    · exact ⟨by simp, ag30⟩)
  simpa using this
theorem arr_mk (l : List Value) : (⟨l⟩ : Array Value) = l.toArray := rfl
/-- What holds of a table. -/
structure TOK (t : TB) : Prop where
  st : ∀ c ∈ t.ps, c.2.2 = 0 ∨ c.2.2 = 1 ∨ c.2.2 = 2
  len : 8 ≤ t.ps.length ∧ t.ps.length ≤ 256
  dv : (t.ps.length : Int) ∣ 18446744073709551616
  en : t.en = ((fullL t.ps).countP id : Nat)
  ma : t.ma = ((markL t.ps).countP id : Nat)
theorem TOK.ok {t : TB} (x : TOK t) : t.ok := by
  have h1 := x.len
  have h2 := x.en
  have h3 := x.ma
  have h4 := List.countP_le_length (l := fullL t.ps) (p := id)
  have h5 := List.countP_le_length (l := markL t.ps) (p := id)
  simp only [fullL, markL, List.length_map] at h4 h5
  exact ⟨by omega, ⟨by omega, by rw [h2]; unfold fullL; omega⟩, ⟨by omega, by rw [h3]; unfold markL; omega⟩⟩
theorem TOK.new {n : Nat} (h : 8 ≤ n ∧ n ≤ 256) (hd : (n : Int) ∣ 18446744073709551616) : TOK (newTB n) := by
  refine ⟨fun c hc => ?_, by simpa [newTB] using h, by simpa [newTB] using hd, ?_, ?_⟩
  · have := List.eq_of_mem_replicate hc
    subst this; exact .inl rfl
  · simp [newTB, fullL, List.countP_replicate]
  · simp [newTB, markL, List.countP_replicate]
theorem TOK.set {t : TB} (x : TOK t) {W : Nat} {c d : PL} (hc : t.ps[W]? = some c) (hd : d.2.2 = 1 ∨ d.2.2 = 2) (e m : Int) (he : e = t.en - (if c.2.2 = 1 then 1 else 0) + (if d.2.2 = 1 then 1 else 0)) (hm : m = t.ma - (if c.2.2 = 2 then 1 else 0) + (if d.2.2 = 2 then 1 else 0)) : TOK ⟨t.ps.set W d, e, m⟩ := by
  obtain ⟨hW, hcW⟩ := List.getElem?_eq_some_iff.1 hc
  refine ⟨fun c' hc' => ?_, by simpa using x.len, by simpa using x.dv, ?_, ?_⟩
  · rcases List.mem_or_eq_of_mem_set hc' with h | h
    · exact x.st c' h
    · subst h; omega
  · have hf : (fullL t.ps)[W]'(by simpa [fullL] using hW) = decide (c.2.2 = 1) := by simp [fullL, hcW]
    have h1 : fullL (t.ps.set W d) = (fullL t.ps).set W (decide (d.2.2 = 1)) := by simp [fullL, List.map_set]
    have hen := x.en
    have hpos : c.2.2 = 1 → 0 < (fullL t.ps).countP id := fun h => List.countP_pos_iff.2 ⟨_, List.getElem_mem (by simpa [fullL] using hW), by rw [hf]; simp [h]⟩
    show e = _
    rw [he, h1, List.countP_set (by simpa [fullL] using hW), hf]
    by_cases a : c.2.2 = 1 <;> by_cases b : d.2.2 = 1 <;> simp [a, b, hen] <;> (try have := hpos a) <;> omega
  · have hf : (markL t.ps)[W]'(by simpa [markL] using hW) = decide (c.2.2 = 2) := by simp [markL, hcW]
    have h1 : markL (t.ps.set W d) = (markL t.ps).set W (decide (d.2.2 = 2)) := by simp [markL, List.map_set]
    have hen := x.ma
    have hpos : c.2.2 = 2 → 0 < (markL t.ps).countP id := fun h => List.countP_pos_iff.2 ⟨_, List.getElem_mem (by simpa [markL] using hW), by rw [hf]; simp [h]⟩
    show m = _
    rw [hm, h1, List.countP_set (by simpa [markL] using hW), hf]
    by_cases a : c.2.2 = 2 <;> by_cases b : d.2.2 = 2 <;> simp [a, b, hen] <;> (try have := hpos a) <;> omega
theorem free_inv {t : TB} {hash : Int} {W : Nat} (hn : 0 < t.ps.length) (h : t.free hash = some W) : ∃ c, t.ps[W]? = some c ∧ c.2.2 ≠ 1 := by
  unfold TB.free at h
  obtain ⟨k, hk, rfl⟩ := Option.map_eq_some_iff.mp h
  have := List.find?_some hk
  have hw := wayI_lt hash k hn
  rw [List.getElem?_eq_getElem hw] at this
  exact ⟨_, List.getElem?_eq_getElem hw, by simpa using this⟩
theorem TOK.put {t : TB} (x : TOK t) (hash what : Int) : TOK (t.put hash what) := by
  have hl := x.len
  unfold TB.put
  cases hf : t.free hash with
  | none => exact x
  | some W =>
    obtain ⟨c, hc, h1⟩ := free_inv (by omega) hf
    refine x.set hc (.inl rfl) _ _ (by simp [h1]) ?_
    simp only [hc]
    split <;> simp
theorem TOK.drop {t : TB} (x : TOK t) (i : Int) : TOK (t.drop i) := by
  unfold TB.drop
  cases h : t.isAt i
  · exact x
  · rw [if_pos rfl]
    unfold TB.isAt at h
    simp only [Bool.and_eq_true, decide_eq_true_eq] at h
    obtain ⟨h0, h1⟩ := h
    split at h1
    · rename_i c hc
      simp only [decide_eq_true_eq] at h1
      exact x.set hc (.inr rfl) _ _ (by simp [h1]) (by simp [h1])
    · cases h1
structure SaJ (z : Nat) (h3 : IHeap) (A : Option Addr) (ps : List PL) (L : Loop) (k : Nat) (h : IHeap) : Prop where
  size : z + 4 ≤ h.size
  old : ∀ i, i < z → h.get i = h3.get i
  cnt : h.get z = some (.row false 0 [.int .i64 ((fullL (ps.take k)).countP id : Nat)])
  box : h.get (z + 1) = some (.row false 0 [.pointer A])
  gd : h.get (z + 2) = some .defs
  gl : h.get (z + 3) = some (.loop L)
theorem full_take {ps : List PL} {k : Nat} {c : PL} (h : ps[k]? = some c) : (fullL (ps.take (k + 1))).countP id = (fullL (ps.take k)).countP id + (if c.2.2 = 1 then 1 else 0) := by
  rw [List.take_add_one, h]
  unfold fullL
  rw [List.map_append, List.countP_append]
  by_cases e : c.2.2 = 1 <;> simp [e]
theorem get_shape (t : TB) (i : Int) : ∃ x y b, t.get i = .tuple #[.agg #[.int .u64 x, .int .u32 y], .bool b] := by
  unfold TB.get
  split
  · split
    · split <;> exact ⟨_, _, _, rfl⟩
    · exact ⟨_, _, _, rfl⟩
  · exact ⟨_, _, _, rfl⟩
theorem same_c {h : IHeap} {p q pw rf rm re : Nat} {t : TB} (tok : TOK t) (xa : t.at h p q) (xw : RAt t.ps h pw rf rm re) : CT Try.prog 22 #[.pointer (some ⟨p, 0, none⟩), .pointer (some ⟨pw, 0, none⟩)] h (.bool true) [] := by
  refine FN.enter mixed (fn := Try.f22) (by kernel_rfl) rfl (by kernel_rfl) fun e hn hg hd => ?_
  simp [Try.f22] at hn
  have a0 : e.get 0 = .pointer (some ⟨p, 0, none⟩) := hg 0 (by omega)
  have a1 : e.get 1 = .pointer (some ⟨pw, 0, none⟩) := hg 1 (by omega)
  clear hg
  have hlen := tok.len
  simp (maxSteps := 1000000) (disch := first | (simp; done) | (simp only [IHeap.size_push', IHeap.size_set']; omega) | omega) [a0, a1, hn, hd]
  obtain ⟨H, hH⟩ : ∃ H, H = (h.push (.row false 0 [.pointer (some ⟨pw, 0, none⟩)])).push (.row false 0 [.bool false]) := ⟨_, rfl⟩
  rw [← hH]
  have Hz : H.size = h.size + 2 := by rw [hH]; simp only [IHeap.size_push']
  have Ho : ∀ i, i < h.size → H.get i = h.get i := fun i hi => by rw [hH]; simp (maxSteps := 1000000) (disch := first | (simp; done) | (simp only [IHeap.size_push', IHeap.size_set']; omega) | omega) []
  have H0 : H.get h.size = some (.row false 0 [.pointer (some ⟨pw, 0, none⟩)]) := by rw [hH]; simp (maxSteps := 1000000) (disch := first | (simp; done) | (simp only [IHeap.size_push', IHeap.size_set']; omega) | omega) []
  have H1 : H.get (h.size + 1) = some (.row false 0 [.bool false]) := by rw [hH]; simp (maxSteps := 1000000) (disch := first | (simp; done) | (simp only [IHeap.size_push', IHeap.size_set']; omega) | omega) []
  clear hH
  have xaH : TIs H (some ⟨p, 0, none⟩) t q := .inr ⟨p, rfl, tat_inv xa Ho⟩
  have xwH := rat_inv xw Ho
  have gw := xwH.gp
  refine FN.of (places_c xaH) ?_
  simp (maxSteps := 1000000) (disch := first | (simp; done) | (simp only [IHeap.size_push', IHeap.size_set']; omega) | omega) [a0, a1, hn, hd, H0, gw]
  refine FN.of (entries_c xaH) ?_
  simp (maxSteps := 1000000) (disch := first | (simp; done) | (simp only [IHeap.size_push', IHeap.size_set']; omega) | omega) [a0, a1, hn, hd, H0, gw]
  refine FN.of (rentries_c xwH) ?_
  simp (maxSteps := 1000000) (disch := first | (simp; done) | (simp only [IHeap.size_push', IHeap.size_set']; omega) | omega) [a0, a1, hn, hd, H0, gw, tok.en]
  refine FN.of (marks_c xaH) ?_
  simp (maxSteps := 1000000) (disch := first | (simp; done) | (simp only [IHeap.size_push', IHeap.size_set']; omega) | omega) [a0, a1, hn, hd, H0, gw, tok.en]
  refine FN.of (rmarks_c xwH) ?_
  simp (maxSteps := 1000000) (disch := first | (simp; done) | (simp only [IHeap.size_push', IHeap.size_set']; omega) | omega) [a0, a1, hn, hd, H0, gw, tok.en, tok.ma]
  refine FN.of (all_c _) ?_
  simp (maxSteps := 1000000) (disch := first | (simp; done) | (simp only [IHeap.size_push', IHeap.size_set']; omega) | omega) [a0, a1, hn, hd, H0, gw, tok.en, tok.ma, one_int]
  refine ⟨niC_pend [(1, 2), (1, 5), (10, 11), (17, 18)] (by kernel_rfl) ⟨rfl, rfl, rfl, rfl, trivial⟩, ?_⟩
  refine FN.of (all_c _) ?_
  simp (maxSteps := 1000000) (disch := first | (simp; done) | (simp only [IHeap.size_push', IHeap.size_set']; omega) | omega) [a0, a1, hn, hd, H0, one_int]
  refine WPR.gen fun E H4 hE hH => ?_
  have E0 : E.get 0 = .pointer (some ⟨p, 0, none⟩) := by rw [hE]; simp (maxSteps := 1000000) (disch := first | (simp; done) | (simp only [IHeap.size_push', IHeap.size_set']; omega) | omega) [hn, a0]
  have E3 : E.get 3 = .pointer (some ⟨h.size, 0, none⟩) := by rw [hE]; simp (maxSteps := 1000000) (disch := first | (simp; done) | (simp only [IHeap.size_push', IHeap.size_set']; omega) | omega) [hn]
  have E4 : E.get 4 = .pointer (some ⟨h.size + 1, 0, none⟩) := by rw [hE]; simp (maxSteps := 1000000) (disch := first | (simp; done) | (simp only [IHeap.size_push', IHeap.size_set']; omega) | omega) [hn]
  have E5 : E.get 5 = .pointer (some ⟨h.size + 3, 0, none⟩) := by rw [hE]; simp (maxSteps := 1000000) (disch := first | (simp; done) | (simp only [IHeap.size_push', IHeap.size_set']; omega) | omega) [hn, Hz]
  have E43 : E.get 43 = .func (.func 38) #[] #[.pointer (some ⟨h.size + 4, 0, none⟩)] := by rw [hE]; simp (maxSteps := 1000000) (disch := first | (simp; done) | (simp only [IHeap.size_push', IHeap.size_set']; omega) | omega) [hn, Hz]
  have En : E.n = 94 := by rw [hE]; simp (maxSteps := 1000000) (disch := first | (simp; done) | (simp only [IHeap.size_push', IHeap.size_set']; omega) | omega) [hn]
  have Ed : E.dfr = [] := by rw [hE]; simp (maxSteps := 1000000) (disch := first | (simp; done) | (simp only [IHeap.size_push', IHeap.size_set']; omega) | omega) [hd]
  have Gz : H4.size = h.size + 5 := by rw [hH]; simp only [IHeap.size_set', IHeap.size_push']; omega
  have Go4 : ∀ i, i < H.size → H4.get i = H.get i := fun i hi => by rw [hH]; simp (maxSteps := 1000000) (disch := first | (simp; done) | (simp only [IHeap.size_push', IHeap.size_set']; omega) | omega) []
  have G1 : H4.get (h.size + 3) = some (.row false 0 [.int .i64 0]) := by rw [hH]; simp (maxSteps := 1000000) (disch := first | (simp; done) | (simp only [IHeap.size_push', IHeap.size_set']; omega) | omega) [Hz]
  have G2 : H4.get (h.size + 4) = some (.row false 0 [.pointer (some ⟨p, 0, none⟩)]) := by rw [hH]; simp (maxSteps := 1000000) (disch := first | (simp; done) | (simp only [IHeap.size_push', IHeap.size_set']; omega) | omega) [Hz]
  clear hH hE hn hd a0 a1
  have gu0 := (Go4 h.size (by omega)).trans H0
  have gu1 := (Go4 (h.size + 1) (by omega)).trans H1
  have gou : ∀ i, i < h.size → H4.get i = h.get i := fun i hi => (Go4 i (by omega)).trans (Ho i hi)
  refine WPR.intro2 (cs := #[.pointer (some ⟨h.size + 4, 0, none⟩)]) (fs := #[]) rfl E43 (by simp) rfl ?_
  intro L Lp Lt LA LB Ls Ln
  refine FN.mono (all_it (q := q) (t := t) (A := some ⟨p, 0, none⟩) (by omega) (fun k h' => SaJ (h.size + 3) H4 (some ⟨p, 0, none⟩) t.ps L k h') (fun _ => False) (fun k h' j => j.box) (fun k h' j => .inr ⟨p, rfl, tat_inv xa (fun i hi => (j.old i (by omega)).trans (gou i hi))⟩) ?_ ?_ ?_ ?_) ?_
  · intro k h4 c hcc hz j
    have gl := j.gl
    refine RN.two mixed (E := E) (by rw [Gz]; exact gl) Lp Lt LA LB (by kernel_rfl) (by kernel_rfl) ?_
    intro rr rn rd rg
    have r3 := rg 3
    have r4 := rg 4
    have r5 := rg 5
    rw [E3] at r3; rw [E4] at r4; rw [E5] at r5
    rw [En] at rn
    have jz := j.size
    have jc := j.cnt
    have f0 := (j.old h.size (by omega)).trans gu0
    simp (maxSteps := 1000000) (disch := first | (simp; done) | (simp only [IHeap.size_push', IHeap.size_set']; omega) | omega) [rn, rd, r3, r4, r5, assignQ, one_int, zeros]
    refine ⟨L, by rw [Gz]; simp (maxSteps := 1000000) (disch := first | (simp; done) | (simp only [IHeap.size_push', IHeap.size_set']; omega) | omega) [gl], Ls, ?_⟩
    have eL : ({ state := .ready, pending := none, fn := L.fn, tmps := L.tmps, params := L.params, assign := L.assign, body := L.body, defers := L.defers } : Loop) = L := by
      rw [← Ls, ← Ln]
    have hv : t.get k = .tuple #[.agg #[.int .u64 c.1, .int .u32 c.2.1], .bool true] := by
      unfold TB.get; rw [if_pos (by omega), Int.toNat_natCast, hcc]; simp only [hz, if_true]
    simp (maxSteps := 1000000) (disch := first | (simp; done) | (simp only [IHeap.size_push', IHeap.size_set']; omega) | omega) [rn, rd, r3, r4, r5, Gz, f0]
    have xw5 : RAt t.ps ((h4.set (h.size + 5 + 1) (.loop { L with state := .busy })).push (.row false 0 [.int .u64 c.1, .int .u32 c.2.1])) pw rf rm re := rat_inv xw (fun i hi => by
      have := (j.old i (by omega)).trans (gou i hi)
      simp (maxSteps := 1000000) (disch := first | (simp; done) | (simp only [IHeap.size_push', IHeap.size_set']; omega) | omega) [this])
    refine FN.ct (rget_c xw5 k) ?_
    intro h6 fr6
    have hz6 := fr6.size
    simp only [IHeap.size_push', IHeap.size_set'] at hz6
    have g6 : ∀ i, i < h4.size → i ≠ h.size + 5 + 1 → h6.get i = h4.get i := fun i hi hne => by
      rw [fr6.get i (by simp only [IHeap.size_push', IHeap.size_set']; omega)]; simp (maxSteps := 1000000) (disch := first | (simp; done) | (simp only [IHeap.size_push', IHeap.size_set']; omega) | omega) [hne, Ne.symm hne]
    have g6l : h6.get (h.size + 5 + 1) = some (.loop { L with state := .busy }) := by
      rw [fr6.get _ (by simp only [IHeap.size_push', IHeap.size_set']; omega)]; simp (maxSteps := 1000000) (disch := first | (simp; done) | (simp only [IHeap.size_push', IHeap.size_set']; omega) | omega) []
    have g6e : h6.get h4.size = some (.row false 0 [.int .u64 c.1, .int .u32 c.2.1]) := by
      rw [fr6.get _ (by simp only [IHeap.size_push', IHeap.size_set']; omega)]; simp (maxSteps := 1000000) (disch := first | (simp; done) | (simp only [IHeap.size_push', IHeap.size_set']; omega) | omega) []
    have g6c := (g6 (h.size + 3) (by omega) (by omega)).trans jc
    have hcn := full_take hcc
    rw [if_pos hz] at hcn
    have hcl := List.countP_le_length (l := fullL (t.ps.take k)) (p := id)
    have hcl2 : (fullL (t.ps.take k)).length ≤ 256 := by simp [fullL]; omega
    rw [hv]
    simp (maxSteps := 1000000) (disch := first | (simp; done) | (simp only [IHeap.size_push', IHeap.size_set']; omega) | omega) [rn, rd, r3, r4, r5, Gz, zeros, one_int, g6e, eqE, arr_mk, g6c, bodyQ, g6l, wrap64]
    rw [eL]
    refine ⟨by simp only [IHeap.size_set', IHeap.size_push']; omega, fun i hi => ?_, ?_, ?_, ?_, ?_⟩
    · have := (g6 i (by omega) (by omega)).trans (j.old i hi)
      simp (maxSteps := 1000000) (disch := first | (simp; done) | (simp only [IHeap.size_push', IHeap.size_set']; omega) | omega) [this]
    · rw [hcn]; simp (maxSteps := 1000000) (disch := first | (simp; done) | (simp only [IHeap.size_push', IHeap.size_set']; omega) | omega) []
    · have := (g6 (h.size + 3 + 1) (by omega) (by omega)).trans j.box
      simp (maxSteps := 1000000) (disch := first | (simp; done) | (simp only [IHeap.size_push', IHeap.size_set']; omega) | omega) [this]
    · have := (g6 (h.size + 3 + 2) (by omega) (by omega)).trans j.gd
      simp (maxSteps := 1000000) (disch := first | (simp; done) | (simp only [IHeap.size_push', IHeap.size_set']; omega) | omega) [this]
    · simp (maxSteps := 1000000) (disch := first | (simp; done) | (simp only [IHeap.size_push', IHeap.size_set']; omega) | omega) []
  · rintro k h4 c hcc hz j
    have hcn := full_take hcc
    rw [if_neg hz] at hcn
    exact ⟨j.size, j.old, by rw [hcn]; exact j.cnt, j.box, j.gd, j.gl⟩
  · rintro k h4 h5 j fr
    have jz := j.size
    refine ⟨by have := fr.size; omega, fun i hi => ?_, ?_, ?_, ?_, ?_⟩
    · rw [fr.get i (by omega)]; exact j.old i hi
    · rw [fr.get _ (by omega)]; exact j.cnt
    · rw [fr.get _ (by omega)]; exact j.box
    · rw [fr.get _ (by omega)]; exact j.gd
    · rw [fr.get _ (by omega)]; exact j.gl
  · refine ⟨by simp only [IHeap.size_push']; omega, fun i hi => ?_, ?_, ?_, ?_, ?_⟩
    · simp (maxSteps := 1000000) (disch := first | (simp; done) | (simp only [IHeap.size_push', IHeap.size_set']; omega) | omega) [Gz]
    · simp (maxSteps := 1000000) (disch := first | (simp; done) | (simp only [IHeap.size_push', IHeap.size_set']; omega) | omega) [G1, fullL]
    · simp (maxSteps := 1000000) (disch := first | (simp; done) | (simp only [IHeap.size_push', IHeap.size_set']; omega) | omega) [G2]
    · simp (maxSteps := 1000000) (disch := first | (simp; done) | (simp only [IHeap.size_push', IHeap.size_set']; omega) | omega) [Gz]
    · simp (maxSteps := 1000000) (disch := first | (simp; done) | (simp only [IHeap.size_push', IHeap.size_set']; omega) | omega) [Gz]
  · rintro v h5 hp
    simp only [Hid.ap_mk] at hp ⊢
    rcases hp with j | hp
    · have jz := j.size
      have gl := j.gl
      refine ⟨L, by rw [Gz]; exact gl, by rw [Ls]; simp, .normal, by rw [Ln]; rfl, ?_⟩
      simp only [Hid.ap_mk, outOf_normal]
      obtain ⟨E', hE', n', d', g'⟩ := XEnv.withd E (markOf H4.size :: E.dfr)
      rw [hE']
      have E0' := g' 0
      have E3' := g' 3
      have E4' := g' 4
      have E5' := g' 5
      rw [E0] at E0'; rw [E3] at E3'; rw [E4] at E4'; rw [E5] at E5'; rw [En] at n'; rw [Ed] at d'
      rw [Gz] at d' ⊢
      have jc := j.cnt
      rw [List.take_length] at jc
      obtain ⟨h6, hh6⟩ : ∃ h6, h6 = h5.set (h.size + 5 + 1) (.loop { L with state := .exhausted }) := ⟨_, rfl⟩
      rw [← hh6]
      have hz6 : h6.size = h5.size := by rw [hh6]; simp only [IHeap.size_set']
      have g6 : ∀ i, i < h.size + 3 → h6.get i = H4.get i := fun i hi => by
        have := j.old i hi
        rw [hh6]; simp (maxSteps := 1000000) (disch := first | (simp; done) | (simp only [IHeap.size_push', IHeap.size_set']; omega) | omega) [this]
      have go6 : ∀ i, i < h.size → h6.get i = h.get i := fun i hi => (g6 i (by omega)).trans (gou i hi)
      have g60 := (g6 h.size (by omega)).trans gu0
      have g61 := (g6 (h.size + 1) (by omega)).trans gu1
      have g6c : h6.get (h.size + 3) = some (.row false 0 [.int .i64 ((fullL t.ps).countP id : Nat)]) := by rw [hh6]; simp (maxSteps := 1000000) (disch := first | (simp; done) | (simp only [IHeap.size_push', IHeap.size_set']; omega) | omega) [jc]
      have g6d : h6.get (h.size + 5) = some .defs := by have := j.gd; rw [hh6]; simp (maxSteps := 1000000) (disch := first | (simp; done) | (simp only [IHeap.size_push', IHeap.size_set']; omega) | omega) [this]
      clear hh6 j jc gl
      simp (maxSteps := 1000000) (disch := first | (simp; done) | (simp only [IHeap.size_push', IHeap.size_set']; omega) | omega) [E0', E3', E4', E5', n', d']
      refine WPL.by_inv mixed (by kernel_rfl) (fun k e h' => ∃ i : Nat, i + k = t.ps.length + 2 ∧ e.n = 94 ∧ e.dfr = [markOf (h.size + 5)] ∧ e.get 0 = .pointer (some ⟨p, 0, none⟩) ∧ e.get 3 = .pointer (some ⟨h.size, 0, none⟩) ∧ e.get 4 = .pointer (some ⟨h.size + 1, 0, none⟩) ∧ e.get 5 = .pointer (some ⟨h.size + 3, 0, none⟩) ∧ e.get 10 = .int .i64 ((i : Int) - 1) ∧ h6.size ≤ h'.size ∧ ∀ i, i < h6.size → h'.get i = h6.get i) (t.ps.length + 2) ?_ ?_
      · refine ⟨0, ?_⟩
        simp (maxSteps := 1000000) (disch := first | (simp; done) | (simp only [IHeap.size_push', IHeap.size_set']; omega) | omega) [E0', E3', E4', E5', n', d']
      clear n' d' g' E0' E3' E4' E5' hE' E'
      rintro k e h7 ⟨i', hi, hn, hd, e0, e3, e4, e5, e10, hz7, g7⟩
      have xw7 := rat_inv xw (fun i hi => (g7 i (by omega)).trans (go6 i hi))
      have xa7 : TIs h7 (some ⟨p, 0, none⟩) t q := .inr ⟨p, rfl, tat_inv xa (fun i hi => (g7 i (by omega)).trans (go6 i hi))⟩
      have gw7 := xw7.gp
      have g70 := (g7 h.size (by omega)).trans g60
      cases k with
      | zero =>
        obtain rfl : i' = t.ps.length + 2 := by omega
        have hlt : ¬ ((t.ps.length : Int) + 2 - 1 ≤ t.ps.length) := by omega
        have g7c := (g7 (h.size + 3) (by omega)).trans g6c
        have g71 := (g7 (h.size + 1) (by omega)).trans g61
        have g7d := (g7 (h.size + 5) (by omega)).trans g6d
        have g7d' : (h7.set (h.size + 1) (.row false 0 [.bool true])).get (h.size + 5) = some .defs := by simp (maxSteps := 1000000) (disch := first | (simp; done) | (simp only [IHeap.size_push', IHeap.size_set']; omega) | omega) [g7d]
        simp (maxSteps := 1000000) (disch := first | (simp; done) | (simp only [IHeap.size_push', IHeap.size_set']; omega) | omega) [e0, e3, e4, e5, e10, hn, hd, gw7, hlt, g7c, g70]
        refine FN.of (rentries_c xw7) ?_
        simp (maxSteps := 1000000) (disch := first | (simp; done) | (simp only [IHeap.size_push', IHeap.size_set']; omega) | omega) [e0, e3, e4, e5, e10, hn, hd, g71, one_bool, finD_one g7d']
        refine ⟨niC_pend [(0, 2)] (by kernel_rfl) ⟨rfl, trivial⟩, ⟨by simp only [IHeap.size_set']; omega, fun i hi => ?_⟩⟩
        rw [IHeap.get_set_ne _ (by omega), IHeap.get_set_ne _ (by omega), g7 i (by omega)]; exact go6 i hi
      | succ k =>
        have hlt : ((i' : Int) - 1 ≤ t.ps.length) := by omega
        simp (maxSteps := 1000000) (disch := first | (simp; done) | (simp only [IHeap.size_push', IHeap.size_set']; omega) | omega) [e0, e3, e4, e5, e10, hn, hd, gw7, hlt, g70]
        refine FN.ct (get_c xa7 _) ?_
        intro h8 fr8
        have hz8 := fr8.size
        have g8 : ∀ i, i < h7.size → h8.get i = h7.get i := fun i hi => fr8.get i hi
        obtain ⟨x, y, b, hv⟩ := get_shape t ((i' : Int) - 1)
        have g80 := (g8 h.size (by omega)).trans g70
        rw [hv]
        simp (maxSteps := 1000000) (disch := first | (simp; done) | (simp only [IHeap.size_push', IHeap.size_set']; omega) | omega) [e0, e3, e4, e5, e10, hn, hd, zeros, one_int, g80]
        have xw8 := rat_inv xw7 (h' := h8.push (.row false 0 [.int .u64 x, .int .u32 y])) (fun i hi => by
          have := g8 i hi
          simp (maxSteps := 1000000) (disch := first | (simp; done) | (simp only [IHeap.size_push', IHeap.size_set']; omega) | omega) [this])
        refine FN.ct (rget_c xw8 _) ?_
        intro h9 fr9
        have hz9 := fr9.size
        simp only [IHeap.size_push'] at hz9
        have g9e : h9.get h8.size = some (.row false 0 [.int .u64 x, .int .u32 y]) := by rw [fr9.get _ (by simp only [IHeap.size_push']; omega)]; simp (maxSteps := 1000000) (disch := first | (simp; done) | (simp only [IHeap.size_push', IHeap.size_set']; omega) | omega) []
        rw [hv]
        simp (maxSteps := 1000000) (disch := first | (simp; done) | (simp only [IHeap.size_push', IHeap.size_set']; omega) | omega) [e0, e3, e4, e5, e10, hn, hd, zeros, one_int, g9e, eqE, wrap64]
        exact ⟨k, by omega, i' + 1, by omega, by omega, by omega, fun i hi => by
          have h1 := (g8 i (by omega)).trans (g7 i hi)
          rw [IHeap.get_push_ne _ (by omega), fr9.get i (by simp only [IHeap.size_push']; omega), getU_nil, IHeap.get_push_ne _ (by omega)]
          exact h1⟩
    · exact hp.elim
end Go.Proofs.Ytgfemimlpbileaa.Ideal
