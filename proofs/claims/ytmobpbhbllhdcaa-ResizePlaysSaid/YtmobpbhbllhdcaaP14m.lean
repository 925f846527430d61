import Derived.Test.YtmobpbhbllhdcaaP14l
noncomputable section
open Go.Proofs
namespace Go.Proofs.Ytmobpbhbllhdcaa.Ideal
open Go.RowKit
set_option linter.unusedSimpArgs false
set_option linter.unusedVariables false
set_option linter.unusedSectionVars false
set_option maxRecDepth 100000
set_option maxHeartbeats 4000000
def fK (what : Int) : Option (Int → Bool) := some fun w => decide (w = what)
theorem find_inv {t : TB} {hash what : Int} {W : Nat} (h : t.find hash (fK what) = some W) : ∃ c, t.ps[W]? = some c ∧ c.2.2 = 1 ∧ c.1 = hash ∧ c.2.1 = what := by
  unfold TB.find at h
  split at h
  · rename_i k hk
    have hs := List.find?_some hk
    cases hc : t.ps[wayI t.ps.length hash k]? with
    | none =>
      rw [hc] at h
      simp [fK] at h
    | some c =>
      rw [hc] at h hs
      simp only [fK] at h hs
      split at h
      · cases h
      · rename_i h0
        cases h
        simp only [stopB, Bool.or_eq_true, Bool.and_eq_true, decide_eq_true_eq] at hs
        rcases hs with hs | ⟨⟨h1, h2⟩, h3⟩
        · exact absurd hs h0
        · exact ⟨c, hc, h1, h2, h3⟩
  · cases h
theorem get_of {t : TB} {W : Nat} {c : PL} (h : t.ps[W]? = some c) (h1 : c.2.2 = 1) : t.get (W : Nat) = .tuple #[.agg #[.int .u64 c.1, .int .u32 c.2.1], .bool true] := by
  unfold TB.get
  rw [if_pos (by omega), Int.toNat_natCast, h]
  simp only [h1, if_true]
def GT.hasB (g : GT) (hash what : Int) : Bool := (g.now.find hash (fK what)).isSome || (g.nxT.find hash (fK what)).isSome
def GT.drop (g : GT) (hash what : Int) : GT := match g.now.find hash (fK what) with
  | some i => { g with now := g.now.drop i }
  | none => match g.nxT.find hash (fK what), g.nx with
    | some i, some t => { g with nx := some (t.drop i) }
    | _, _ => g
def GT.dropE (g : GT) (hash what : Int) : Int := if g.hasB hash what then 0 else 7
attribute [-simp] IHeap.size_set IHeap.size_push
attribute [local simp ↓] Hid.ap_mk
attribute [local simp] scopeQ_normal scopeQ_ret scopeQ_exit WP_skip WP_label WP_exit WP_goto WP_ret WP_region WP_seq WP_cond WP_block WP_scope WP_loop WP_range thenQ_normal thenQ_ret thenQ_exit thenQ_goto loopQ_normal loopQ_ret loopQ_exit invQ_normal invQ_ret invQ_exit outOf_normal outOf_ret outOf_goto outOf_exit ev_tmp ev_const ev_func
  wops_nil wops_cons wantedE_none wantedE_some jgd_some wnx_eq niC_false wdo_move wdo_assign wdo_pick wdo_load wdo_store wdo_alloc wdo_box wdo_fieldAddr wdo_indexAddr wdo_field wdo_extract wdo_build wdo_buildSlice wdo_makeSlice wdo_binOp wdo_unOp wdo_makeFunc wdo_nilCheck wdo_callV wdo_len wdo_append wdo_copy wdo_delete wdo_max wdo_min wdo_convert jcvt_int
  xput_get put_n put_none put_dfr ibin finQ_n finQ_r finD_nil splice_one ires_nil ires_one ires_two ires_three ires1_tmp ires1_cell jcell_ptr rowLoad_row wrap64 wrapU64 wrapU8 wrapU16 wrapU32 callV_fn buildOf Instr.fill Value.cells Value.oneCell' kindOf slots_all splice_all IHeap.size_set' IHeap.size_push' IHeap.get_set_same IHeap.get_set_ne IHeap.get_pushed IHeap.get_push_ne IHeap.set_set IHeap.set_push IHeap.set_pushed IHeap.set_set3 getU_nil getU_same getU_ne jif_true jif_false pushH_eq setH_eq forceL_eq forceV_eq ibuildSlice
attribute [local simp] wdo_index jopt_some
attribute [-simp] Value.oneCell'
attribute [local simp] one_int' one_ptr'
theorem hask_c {h : IHeap} {b : Nat} {hash what w : Int} (hb : h.get b = some (.row false 0 [.int .u64 hash, .int .u32 what])) : ICall Try.prog 38 #[.int .u32 w, .pointer (some ⟨b, 0, none⟩)] h (.bool (decide (w = what))) h := by
  refine ICall.of_FN ?_
  refine FN.enter mixed (fn := Try.f38) (by kernel_rfl) rfl (by kernel_rfl) fun e hn hg hd => ?_
  simp [Try.f38] at hn
  have a0 : e.get 0 = .int .u32 w := hg 0 (by omega)
  have a1 : e.get 1 = .pointer (some ⟨b, 0, none⟩) := hg 1 (by omega)
  clear hg
  simp (maxSteps := 1000000) (disch := first | (simp; done) | (simp only [IHeap.size_push', IHeap.size_set']; omega) | omega) [a0, a1, hn, hd, hb]
  by_cases hw : w = what <;> simp [hw]
theorem dask_c {h : IHeap} {b : Nat} {hash what w : Int} (hb : h.get b = some (.row false 0 [.int .u64 hash, .int .u32 what])) : ICall Try.prog 29 #[.int .u32 w, .pointer (some ⟨b, 0, none⟩)] h (.bool (decide (w = what))) h := by
  refine ICall.of_FN ?_
  refine FN.enter mixed (fn := Try.f29) (by kernel_rfl) rfl (by kernel_rfl) fun e hn hg hd => ?_
  simp [Try.f29] at hn
  have a0 : e.get 0 = .int .u32 w := hg 0 (by omega)
  have a1 : e.get 1 = .pointer (some ⟨b, 0, none⟩) := hg 1 (by omega)
  clear hg
  simp (maxSteps := 1000000) (disch := first | (simp; done) | (simp only [IHeap.size_push', IHeap.size_set']; omega) | omega) [a0, a1, hn, hd, hb]
  by_cases hw : w = what <;> simp [hw]
theorem gFind_c {g : GT} {h : IHeap} {G p q p' q' : Nat} {hash what : Int} {F : Value} (x : GAt g h G p q p' q') (ok : GOK g) (hh : 0 ≤ hash ∧ hash < 18446744073709551616) (hF : FnIs h F (fK what)) :
    CT Try.prog 37 #[.pointer (some ⟨G, 0, none⟩), .int .u64 hash, F] h (if g.hasB hash what then .tuple #[.int .u32 what, .bool true] else .tuple #[.int .u32 0, .bool false]) [] := by
  have gf := gfind_c x ok hh hF
  refine FN.enter mixed (fn := Try.f37) (by kernel_rfl) rfl (by kernel_rfl) fun e hn hg hd => ?_
  simp [Try.f37] at hn
  have a0 : e.get 0 = .pointer (some ⟨G, 0, none⟩) := hg 0 (by omega)
  have a1 : e.get 1 = .int .u64 hash := hg 1 (by omega)
  have a2 : e.get 2 = F := hg 2 (by omega)
  clear hg
  simp (maxSteps := 1000000) (disch := first | (simp; done) | (simp only [IHeap.size_push', IHeap.size_set']; omega) | omega) [a0, a1, a2, hn, hd]
  refine FN.ct gf ?_
  intro h2 fr
  have kg : ∀ i, i < h.size → h2.get i = h.get i := fun i hi => by rw [fr.get i hi, getU_nil]
  have x2 := x.inv kg
  unfold gfindV
  cases hf : g.now.find hash (fK what) with
  | some i =>
    have hb : g.hasB hash what = true := by unfold GT.hasB; rw [hf]; rfl
    obtain ⟨c, hc, c1, c2, c3⟩ := find_inv hf
    have gc := get_c (h := h2) (A := some ⟨p, 0, none⟩) (.inr ⟨p, rfl, x2.now⟩) (i : Nat)
    rw [get_of hc c1, c3] at gc
    simp (maxSteps := 1000000) (disch := first | (simp; done) | (simp only [IHeap.size_push', IHeap.size_set']; omega) | omega) [a0, a1, a2, hn, hd]
    refine FN.ct gc ?_
    intro h3 fr3
    simp (maxSteps := 1000000) (disch := first | (simp; done) | (simp only [IHeap.size_push', IHeap.size_set']; omega) | omega) [a0, a1, a2, hn, hd, hb]
    have z2 := fr.size
    have z3 := fr3.size
    exact ⟨by rw [IHeap.size_push']; omega, fun i hi => by rw [IHeap.get_push_ne _ (by omega), fr3.get i (by omega), getU_nil, kg i hi, getU_nil]⟩
  | none =>
    cases hf2 : g.nxT.find hash (fK what) with
    | some i =>
      have hb : g.hasB hash what = true := by unfold GT.hasB; rw [hf, hf2]; rfl
      obtain ⟨c, hc, c1, c2, c3⟩ := find_inv hf2
      have gc := get_c (h := h2) (A := g.nxA p') x2.nx (i : Nat)
      rw [get_of hc c1, c3] at gc
      simp (maxSteps := 1000000) (disch := first | (simp; done) | (simp only [IHeap.size_push', IHeap.size_set']; omega) | omega) [a0, a1, a2, hn, hd]
      refine FN.ct gc ?_
      intro h3 fr3
      simp (maxSteps := 1000000) (disch := first | (simp; done) | (simp only [IHeap.size_push', IHeap.size_set']; omega) | omega) [a0, a1, a2, hn, hd, hb]
      have z2 := fr.size
      have z3 := fr3.size
      exact ⟨by rw [IHeap.size_push']; omega, fun i hi => by rw [IHeap.get_push_ne _ (by omega), fr3.get i (by omega), getU_nil, kg i hi, getU_nil]⟩
    | none =>
      have hb : g.hasB hash what = false := by unfold GT.hasB; rw [hf, hf2]; rfl
      simp (maxSteps := 1000000) (disch := first | (simp; done) | (simp only [IHeap.size_push', IHeap.size_set']; omega) | omega) [a0, a1, a2, hn, hd, hb]
      exact fr
theorem has_c {g : GT} {h : IHeap} {G p q p' q' : Nat} {hash what : Int} (x : GAt g h G p q p' q') (ok : GOK g) (hh : 0 ≤ hash ∧ hash < 18446744073709551616) :
    CT Try.prog 12 #[.pointer (some ⟨G, 0, none⟩), .agg #[.int .u64 hash, .int .u32 what]] h (.bool (g.hasB hash what)) [] := by
  obtain ⟨H, hH⟩ : ∃ H, H = h.push (.row false 0 [.int .u64 hash, .int .u32 what]) := ⟨_, rfl⟩
  have Hz : H.size = h.size + 1 := by rw [hH, IHeap.size_push']
  have Ho : ∀ i, i < h.size → H.get i = h.get i := fun i hi => by rw [hH]; exact IHeap.get_push_ne _ (by omega)
  have Hb : H.get h.size = some (.row false 0 [.int .u64 hash, .int .u32 what]) := by rw [hH]; exact IHeap.get_pushed _ rfl
  have gf := gFind_c (what := what) (F := .func (.func 38) #[] #[.pointer (some ⟨h.size, 0, none⟩)]) (x.inv Ho) ok hh (.inr ⟨_, _, _, _, rfl, rfl, by simp, fun h' w hk => FN.of (hask_c (by rw [hk _ (by omega)]; exact Hb)) ⟨rfl, Fr.refl _⟩⟩)
  refine FN.enter mixed (fn := Try.f12) (by kernel_rfl) rfl (by kernel_rfl) fun e hn hg hd => ?_
  simp [Try.f12] at hn
  have a0 : e.get 0 = .pointer (some ⟨G, 0, none⟩) := hg 0 (by omega)
  have a1 : e.get 1 = .agg #[.int .u64 hash, .int .u32 what] := hg 1 (by omega)
  clear hg
  simp (maxSteps := 1000000) (disch := first | (simp; done) | (simp only [IHeap.size_push', IHeap.size_set']; omega) | omega) [a0, a1, hn, hd, ← hH, Hb]
  refine FN.ct gf ?_
  intro h2 fr
  have hb2 : h2.get h.size = some (.row false 0 [.int .u64 hash, .int .u32 what]) := by rw [fr.get _ (by omega), getU_nil]; exact Hb
  have fr2 : Fr h h2 [] := ⟨by have := fr.size; omega, fun i hi => by rw [fr.get i (by omega), getU_nil, Ho i hi, getU_nil]⟩
  cases hb : g.hasB hash what with
  | true =>
    simp (maxSteps := 1000000) (disch := first | (simp; done) | (simp only [IHeap.size_push', IHeap.size_set']; omega) | omega) [a0, a1, hn, hd, hb2]
    exact fr2
  | false =>
    simp (maxSteps := 1000000) (disch := first | (simp; done) | (simp only [IHeap.size_push', IHeap.size_set']; omega) | omega) [a0, a1, hn, hd, hb2, undef]
    exact fr2
end Go.Proofs.Ytmobpbhbllhdcaa.Ideal
