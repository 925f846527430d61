import Derived.Test.YtmobpbhbllhdcaaP14g
noncomputable section
open Go.Proofs
namespace Go.Proofs.Ytmobpbhbllhdcaa.Ideal
open Go.RowKit
set_option linter.unusedSimpArgs false
set_option linter.unusedVariables false
set_option linter.unusedSectionVars false
set_option linter.unnecessarySimpa false
set_option maxRecDepth 100000
set_option maxHeartbeats 2000000
attribute [-simp] IHeap.size_set IHeap.size_push
attribute [local simp ↓] Hid.ap_mk
attribute [local simp] scopeQ_normal scopeQ_ret scopeQ_exit WP_skip WP_label WP_exit WP_goto WP_ret WP_region WP_seq WP_cond WP_block WP_scope WP_loop WP_range thenQ_normal thenQ_ret thenQ_exit thenQ_goto loopQ_normal loopQ_ret loopQ_exit invQ_normal invQ_ret invQ_exit outOf_normal outOf_ret outOf_goto outOf_exit ev_tmp ev_const ev_func
  wops_nil wops_cons wantedE_none wantedE_some jgd_some wnx_eq niC_false wdo_move wdo_assign wdo_pick wdo_load wdo_store wdo_alloc wdo_box wdo_fieldAddr wdo_indexAddr wdo_field wdo_extract wdo_build wdo_buildSlice wdo_makeSlice wdo_binOp wdo_unOp wdo_makeFunc wdo_nilCheck wdo_callV wdo_len wdo_append wdo_copy wdo_delete wdo_max wdo_min wdo_convert jcvt_int
  xput_get put_n put_none put_dfr ibin finQ_n finQ_r finD_nil splice_one ires_nil ires_one ires_two ires_three ires1_tmp ires1_cell jcell_ptr rowLoad_row wrap64 wrapU64 wrapU8 wrapU16 wrapU32 callV_fn buildOf Instr.fill Value.cells Value.oneCell' kindOf slots_all splice_all IHeap.size_set' IHeap.size_push' IHeap.get_set_same IHeap.get_set_ne IHeap.get_pushed IHeap.get_push_ne IHeap.set_set IHeap.set_push IHeap.set_pushed IHeap.set_set3 getU_nil getU_same getU_ne jif_true jif_false pushH_eq setH_eq forceL_eq forceV_eq ibuildSlice
attribute [-simp] Value.oneCell'
theorem eqE (a b x y : Int) : aggEq Try.prog 32 .eql (.agg #[.int .u64 a, .int .u32 b]) (.agg #[.int .u64 x, .int .u32 y]) = some (.bool (a == x && b == y)) ∧ aggEq Try.prog 32 .neq (.agg #[.int .u64 a, .int .u32 b]) (.agg #[.int .u64 x, .int .u32 y]) = some (.bool (!(a == x && b == y))) := by
  obtain ⟨fs, h1, h2⟩ := Option.map_eq_some_iff.mp (show (fldsOf Try.prog 32).map (·.map fldSig) = some [(true, 23, 0), (true, 30, 1)] by kernel_rfl)
  have ag3 : pureVal Try.prog (isAgg 23) = some false := by kernel_rfl
  have ag30 : pureVal Try.prog (isAgg 30) = some false := by kernel_rfl
  have := aggEq_ints h1 (by kernel_rfl) (by kernel_rfl) [(23, .u64, a, x), (30, .u32, b, y)] h2 (fun p hp => by
    simp only [List.mem_cons, List.not_mem_nil, or_false] at hp
    rcases hp with rfl | rfl
    · exact ⟨by simp, ag3⟩
    · exact ⟨by simp, ag30⟩)
  simpa using this
theorem arr_mk (l : List Value) : (⟨l⟩ : Array Value) = l.toArray := rfl
/-- What holds of a table. -/
structure TOK (t : TB) : Prop where
  st : ∀ c ∈ t.ps, c.2.2 = 0 ∨ c.2.2 = 1 ∨ c.2.2 = 2
  len : 8 ≤ t.ps.length ∧ t.ps.length ≤ 256
  dv : (t.ps.length : Int) ∣ 18446744073709551616
  en : t.en = ((fullL t.ps).countP id : Nat)
  ma : t.ma = ((markL t.ps).countP id : Nat)
theorem TOK.ok {t : TB} (x : TOK t) : t.ok := by
  have h1 := x.len
  have h2 := x.en
  have h3 := x.ma
  have h4 := List.countP_le_length (l := fullL t.ps) (p := id)
  have h5 := List.countP_le_length (l := markL t.ps) (p := id)
  simp only [fullL, markL, List.length_map] at h4 h5
  exact ⟨by omega, ⟨by omega, by rw [h2]; unfold fullL; omega⟩, ⟨by omega, by rw [h3]; unfold markL; omega⟩⟩
theorem TOK.new {n : Nat} (h : 8 ≤ n ∧ n ≤ 256) (hd : (n : Int) ∣ 18446744073709551616) : TOK (newTB n) := by
  refine ⟨fun c hc => ?_, by simpa [newTB] using h, by simpa [newTB] using hd, ?_, ?_⟩
  · have := List.eq_of_mem_replicate hc
    subst this; exact .inl rfl
  · simp [newTB, fullL, List.countP_replicate]
  · simp [newTB, markL, List.countP_replicate]
theorem TOK.set {t : TB} (x : TOK t) {W : Nat} {c d : PL} (hc : t.ps[W]? = some c) (hd : d.2.2 = 1 ∨ d.2.2 = 2) (e m : Int) (he : e = t.en - (if c.2.2 = 1 then 1 else 0) + (if d.2.2 = 1 then 1 else 0)) (hm : m = t.ma - (if c.2.2 = 2 then 1 else 0) + (if d.2.2 = 2 then 1 else 0)) : TOK ⟨t.ps.set W d, e, m⟩ := by
  obtain ⟨hW, hcW⟩ := List.getElem?_eq_some_iff.1 hc
  refine ⟨fun c' hc' => ?_, by simpa using x.len, by simpa using x.dv, ?_, ?_⟩
  · rcases List.mem_or_eq_of_mem_set hc' with h | h
    · exact x.st c' h
    · subst h; omega
  · have hf : (fullL t.ps)[W]'(by simpa [fullL] using hW) = decide (c.2.2 = 1) := by simp [fullL, hcW]
    have h1 : fullL (t.ps.set W d) = (fullL t.ps).set W (decide (d.2.2 = 1)) := by simp [fullL, List.map_set]
    have hen := x.en
    have hpos : c.2.2 = 1 → 0 < (fullL t.ps).countP id := fun h => List.countP_pos_iff.2 ⟨_, List.getElem_mem (by simpa [fullL] using hW), by rw [hf]; simp [h]⟩
    show e = _
    rw [he, h1, List.countP_set (by simpa [fullL] using hW), hf]
    by_cases a : c.2.2 = 1 <;> by_cases b : d.2.2 = 1 <;> simp [a, b, hen] <;> (try have := hpos a) <;> omega
  · have hf : (markL t.ps)[W]'(by simpa [markL] using hW) = decide (c.2.2 = 2) := by simp [markL, hcW]
    have h1 : markL (t.ps.set W d) = (markL t.ps).set W (decide (d.2.2 = 2)) := by simp [markL, List.map_set]
    have hen := x.ma
    have hpos : c.2.2 = 2 → 0 < (markL t.ps).countP id := fun h => List.countP_pos_iff.2 ⟨_, List.getElem_mem (by simpa [markL] using hW), by rw [hf]; simp [h]⟩
    show m = _
    rw [hm, h1, List.countP_set (by simpa [markL] using hW), hf]
    by_cases a : c.2.2 = 2 <;> by_cases b : d.2.2 = 2 <;> simp [a, b, hen] <;> (try have := hpos a) <;> omega
theorem free_inv {t : TB} {hash : Int} {W : Nat} (hn : 0 < t.ps.length) (h : t.free hash = some W) : ∃ c, t.ps[W]? = some c ∧ c.2.2 ≠ 1 := by
  unfold TB.free at h
  obtain ⟨k, hk, rfl⟩ := Option.map_eq_some_iff.mp h
  have := List.find?_some hk
  have hw := wayI_lt hash k hn
  rw [List.getElem?_eq_getElem hw] at this
  exact ⟨_, List.getElem?_eq_getElem hw, by simpa using this⟩
theorem TOK.put {t : TB} (x : TOK t) (hash what : Int) : TOK (t.put hash what) := by
  have hl := x.len
  unfold TB.put
  cases hf : t.free hash with
  | none => exact x
  | some W =>
    obtain ⟨c, hc, h1⟩ := free_inv (by omega) hf
    refine x.set hc (.inl rfl) _ _ (by simp [h1]) ?_
    simp only [hc]
    split <;> simp
theorem TOK.drop {t : TB} (x : TOK t) (i : Int) : TOK (t.drop i) := by
  unfold TB.drop
  cases h : t.isAt i
  · exact x
  · rw [if_pos rfl]
    unfold TB.isAt at h
    simp only [Bool.and_eq_true, decide_eq_true_eq] at h
    obtain ⟨h0, h1⟩ := h
    split at h1
    · rename_i c hc
      simp only [decide_eq_true_eq] at h1
      exact x.set hc (.inr rfl) _ _ (by simp [h1]) (by simp [h1])
    · cases h1
theorem full_take {ps : List PL} {k : Nat} {c : PL} (h : ps[k]? = some c) : (fullL (ps.take (k + 1))).countP id = (fullL (ps.take k)).countP id + (if c.2.2 = 1 then 1 else 0) := by
  rw [List.take_add_one, h]
  unfold fullL
  rw [List.map_append, List.countP_append]
  by_cases e : c.2.2 = 1 <;> simp [e]
theorem get_shape (t : TB) (i : Int) : ∃ x y b, t.get i = .tuple #[.agg #[.int .u64 x, .int .u32 y], .bool b] := by
  unfold TB.get
  split
  · split
    · split <;> exact ⟨_, _, _, rfl⟩
    · exact ⟨_, _, _, rfl⟩
  · exact ⟨_, _, _, rfl⟩
end Go.Proofs.Ytmobpbhbllhdcaa.Ideal
