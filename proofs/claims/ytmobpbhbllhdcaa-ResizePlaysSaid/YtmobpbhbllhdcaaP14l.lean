import Derived.Test.YtmobpbhbllhdcaaP14k
noncomputable section
open Go.Proofs
namespace Go.Proofs.Ytmobpbhbllhdcaa.Ideal
open Go.RowKit
set_option linter.unusedSimpArgs false
set_option linter.unusedVariables false
set_option linter.unusedSectionVars false
set_option maxRecDepth 100000
set_option maxHeartbeats 4000000
attribute [-simp] IHeap.size_set IHeap.size_push
attribute [local simp ↓] Hid.ap_mk
attribute [local simp] scopeQ_normal scopeQ_ret scopeQ_exit WP_skip WP_label WP_exit WP_goto WP_ret WP_region WP_seq WP_cond WP_block WP_scope WP_loop WP_range thenQ_normal thenQ_ret thenQ_exit thenQ_goto loopQ_normal loopQ_ret loopQ_exit invQ_normal invQ_ret invQ_exit outOf_normal outOf_ret outOf_goto outOf_exit ev_tmp ev_const ev_func
  wops_nil wops_cons wantedE_none wantedE_some jgd_some wnx_eq niC_false wdo_move wdo_assign wdo_pick wdo_load wdo_store wdo_alloc wdo_box wdo_fieldAddr wdo_indexAddr wdo_field wdo_extract wdo_build wdo_buildSlice wdo_makeSlice wdo_binOp wdo_unOp wdo_makeFunc wdo_nilCheck wdo_callV wdo_len wdo_append wdo_copy wdo_delete wdo_max wdo_min wdo_convert jcvt_int
  xput_get put_n put_none put_dfr ibin finQ_n finQ_r finD_nil splice_one ires_nil ires_one ires_two ires_three ires1_tmp ires1_cell jcell_ptr rowLoad_row wrap64 wrapU64 wrapU8 wrapU16 wrapU32 callV_fn buildOf Instr.fill Value.cells Value.oneCell' kindOf slots_all splice_all IHeap.size_set' IHeap.size_push' IHeap.get_set_same IHeap.get_set_ne IHeap.get_pushed IHeap.get_push_ne IHeap.set_set IHeap.set_push IHeap.set_pushed IHeap.set_set3 getU_nil getU_same getU_ne jif_true jif_false pushH_eq setH_eq forceL_eq forceV_eq ibuildSlice
attribute [local simp] wdo_index jopt_some
attribute [-simp] Value.oneCell'
attribute [local simp] one_int' one_ptr'
theorem FnIs.mono {h h' : IHeap} {F : Value} {K : Option (Int → Bool)} (x : FnIs h F K) (hs : h.size ≤ h'.size) (k : ∀ i, i < h.size → h'.get i = h.get i) : FnIs h' F K := by
  rcases x with x | ⟨g, fs, cs, K', h1, h2, h3, h4⟩
  · exact .inl x
  · exact .inr ⟨g, fs, cs, K', h1, h2, h3, fun h2 w hk => h4 h2 w fun i hi => (hk i (by omega)).trans (k i hi)⟩
def gfindV (g : GT) (p p' : Nat) (hash : Int) (K : Option (Int → Bool)) : Value := match g.now.find hash K with
  | some i => .tuple #[.pointer (some ⟨p, 0, none⟩), .int .i64 i, .bool true]
  | none => match g.nxT.find hash K with
    | some i => .tuple #[.pointer (g.nxA p'), .int .i64 i, .bool true]
    | none => .tuple #[.pointer (g.nxA p'), .int .i64 0, .bool false]
theorem gfind_c {g : GT} {h : IHeap} {G p q p' q' : Nat} {hash : Int} {F : Value} {K : Option (Int → Bool)} (x : GAt g h G p q p' q') (ok : GOK g) (hh : 0 ≤ hash ∧ hash < 18446744073709551616) (hF : FnIs h F K) :
    CT Try.prog 28 #[.pointer (some ⟨G, 0, none⟩), .int .u64 hash, F] h (gfindV g p p' hash K) [] := by
  have gG := x.gG
  have nI : TIs h (some ⟨p, 0, none⟩) g.now q := .inr ⟨p, rfl, x.now⟩
  have lb := ok.l.le
  have lx : g.nxT.ps.length ≤ 300000 := by
    unfold GT.nxT
    cases hx : g.nx with
    | none => simp
    | some t =>
      have := (ok.x t hx).2.1.le
      simp only [Option.getD_some]
      omega
  refine FN.enter mixed (fn := Try.f28) (by kernel_rfl) rfl (by kernel_rfl) fun e hn hg hd => ?_
  simp [Try.f28] at hn
  have a0 : e.get 0 = .pointer (some ⟨G, 0, none⟩) := hg 0 (by omega)
  have a1 : e.get 1 = .int .u64 hash := hg 1 (by omega)
  have a2 : e.get 2 = F := hg 2 (by omega)
  clear hg
  simp (maxSteps := 1000000) (disch := first | (simp; done) | (simp only [IHeap.size_push', IHeap.size_set']; omega) | omega) [a0, a1, a2, hn, hd]
  refine FN.of (gnone_c x) ?_
  simp (maxSteps := 1000000) (disch := first | (simp; done) | (simp only [IHeap.size_push', IHeap.size_set']; omega) | omega) [a0, a1, a2, hn, hd, gG]
  refine ⟨niC_pend [] (by kernel_rfl) trivial, ?_⟩
  have i0 : ∀ a b : Value, idxV Try.prog 84 (.agg #[a, b]) (.int .i64 0) = some (a, .pure) := fun a b => by simp [idxV]
  have i1 : ∀ a b : Value, idxV Try.prog 84 (.agg #[a, b]) (.int .i64 1) = some (b, .pure) := fun a b => by simp [idxV]
  refine WPL.unroll mixed (by kernel_rfl) ?_
  simp (maxSteps := 1000000) (disch := first | (simp; done) | (simp only [IHeap.size_push', IHeap.size_set']; omega) | omega) [a0, a1, a2, hn, hd, i0]
  refine FN.ct (Find_c (by omega) nI hash hh F K hF) ?_
  intro h2 fr
  unfold gfindV
  cases hf : g.now.find hash K with
  | some i =>
    simp (maxSteps := 1000000) (disch := first | (simp; done) | (simp only [IHeap.size_push', IHeap.size_set']; omega) | omega) [a0, a1, a2, hn, hd, findV]
    exact fr
  | none =>
    simp (maxSteps := 1000000) (disch := first | (simp; done) | (simp only [IHeap.size_push', IHeap.size_set']; omega) | omega) [a0, a1, a2, hn, hd, findV]
    refine WPL.unroll mixed (by kernel_rfl) ?_
    simp (maxSteps := 1000000) (disch := first | (simp; done) | (simp only [IHeap.size_push', IHeap.size_set']; omega) | omega) [a0, a1, a2, hn, hd, i1]
    have kg : ∀ i, i < h.size → h2.get i = h.get i := fun i hi => by rw [fr.get i hi, getU_nil]
    refine FN.ct (Find_c lx (x.nx.inv kg) hash hh F K (hF.mono fr.size kg)) ?_
    intro h3 fr3
    have fr4 : Fr h h3 [] := ⟨by have := fr.size; have := fr3.size; omega, fun i hi => by rw [fr3.get i (by have := fr.size; omega), getU_nil, kg i hi, getU_nil]⟩
    cases hf2 : g.nxT.find hash K with
    | some i =>
      simp (maxSteps := 1000000) (disch := first | (simp; done) | (simp only [IHeap.size_push', IHeap.size_set']; omega) | omega) [a0, a1, a2, hn, hd, findV]
      exact fr4
    | none =>
      simp (maxSteps := 1000000) (disch := first | (simp; done) | (simp only [IHeap.size_push', IHeap.size_set']; omega) | omega) [a0, a1, a2, hn, hd, findV]
      refine WPL.unroll mixed (by kernel_rfl) ?_
      simp (maxSteps := 1000000) (disch := first | (simp; done) | (simp only [IHeap.size_push', IHeap.size_set']; omega) | omega) [a0, a1, a2, hn, hd, findV]
      exact fr4
end Go.Proofs.Ytmobpbhbllhdcaa.Ideal
