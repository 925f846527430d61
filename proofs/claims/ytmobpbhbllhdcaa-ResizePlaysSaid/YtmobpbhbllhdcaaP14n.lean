import Derived.Test.YtmobpbhbllhdcaaP14m
noncomputable section
open Go.Proofs
namespace Go.Proofs.Ytmobpbhbllhdcaa.Ideal
open Go.RowKit
set_option linter.unusedSimpArgs false
set_option linter.unusedVariables false
set_option linter.unusedSectionVars false
set_option maxRecDepth 100000
set_option maxHeartbeats 4000000
theorem drop_len (t : TB) (i : Int) : (t.drop i).ps.length = t.ps.length := by
  unfold TB.drop
  split <;> simp
theorem dropV_at {t : TB} {W : Nat} {c : PL} (h : t.ps[W]? = some c) (h1 : c.2.2 = 1) : t.dropV (W : Nat) = 0 := by
  have hl := (List.getElem?_eq_some_iff.1 h).1
  unfold TB.dropV
  rw [if_neg (fun e => by rw [e] at hl; simp at hl), if_pos ⟨by omega, by omega⟩, if_pos]
  unfold TB.isAt
  rw [Int.toNat_natCast, h]
  simp [h1]
theorem GOK.dropN {g : GT} (ok : GOK g) (i : Int) : GOK { g with now := g.now.drop i } :=
  ⟨ok.m, ok.t.drop i, by rw [drop_len]; exact ok.l, by rw [drop_len]; exact ok.lm, ok.x, ok.c⟩
theorem GOK.setX {g : GT} {t t' : TB} (ok : GOK g) (hx : g.nx = some t) (tk : TOK t') (hl : t'.ps.length = t.ps.length) : GOK { g with nx := some t' } := by
  obtain ⟨t1, t2, t3⟩ := ok.x t hx
  refine ⟨ok.m, ok.t, ok.l, ok.lm, fun s hs => ?_, ok.c⟩
  simp only [Option.some.injEq] at hs
  subst hs
  exact ⟨tk, by rw [hl]; exact t2, by rw [hl]; exact t3⟩
theorem nxT_some {g : GT} {t : TB} (hx : g.nx = some t) : g.nxT = t := by unfold GT.nxT; rw [hx]; rfl
theorem nxT_none {g : GT} (hx : g.nx = none) : g.nxT = ⟨[], 0, 0⟩ := by unfold GT.nxT; rw [hx]; rfl
theorem nxA_some {g : GT} {t : TB} (hx : g.nx = some t) (p' : Nat) : g.nxA p' = some ⟨p', 0, none⟩ := by unfold GT.nxA; rw [hx]
theorem nxA_none {g : GT} (hx : g.nx = none) (p' : Nat) : g.nxA p' = none := by unfold GT.nxA; rw [hx]
theorem find_empty {hash what : Int} : TB.find ⟨[], 0, 0⟩ hash (fK what) = none := by rfl
theorem GOK.drop {g : GT} (ok : GOK g) (hash what : Int) : GOK (g.drop hash what) := by
  unfold GT.drop
  cases hf : g.now.find hash (fK what) with
  | some i => exact ok.dropN i
  | none =>
    simp only
    cases hf2 : g.nxT.find hash (fK what) with
    | none => exact ok
    | some i =>
      cases hx : g.nx with
      | none =>
        rw [nxT_none hx, find_empty] at hf2
        cases hf2
      | some t => exact ok.setX hx ((ok.x t hx).1.drop i) (drop_len _ _)
attribute [-simp] IHeap.size_set IHeap.size_push
attribute [local simp ↓] Hid.ap_mk
attribute [local simp] scopeQ_normal scopeQ_ret scopeQ_exit WP_skip WP_label WP_exit WP_goto WP_ret WP_region WP_seq WP_cond WP_block WP_scope WP_loop WP_range thenQ_normal thenQ_ret thenQ_exit thenQ_goto loopQ_normal loopQ_ret loopQ_exit invQ_normal invQ_ret invQ_exit outOf_normal outOf_ret outOf_goto outOf_exit ev_tmp ev_const ev_func
  wops_nil wops_cons wantedE_none wantedE_some jgd_some wnx_eq niC_false wdo_move wdo_assign wdo_pick wdo_load wdo_store wdo_alloc wdo_box wdo_fieldAddr wdo_indexAddr wdo_field wdo_extract wdo_build wdo_buildSlice wdo_makeSlice wdo_binOp wdo_unOp wdo_makeFunc wdo_nilCheck wdo_callV wdo_len wdo_append wdo_copy wdo_delete wdo_max wdo_min wdo_convert jcvt_int
  xput_get put_n put_none put_dfr ibin finQ_n finQ_r finD_nil splice_one ires_nil ires_one ires_two ires_three ires1_tmp ires1_cell jcell_ptr rowLoad_row wrap64 wrapU64 wrapU8 wrapU16 wrapU32 callV_fn buildOf Instr.fill Value.cells Value.oneCell' kindOf slots_all splice_all IHeap.size_set' IHeap.size_push' IHeap.get_set_same IHeap.get_set_ne IHeap.get_pushed IHeap.get_push_ne IHeap.set_set IHeap.set_push IHeap.set_pushed IHeap.set_set3 getU_nil getU_same getU_ne jif_true jif_false pushH_eq setH_eq forceL_eq forceV_eq ibuildSlice
attribute [local simp] wdo_index jopt_some
attribute [-simp] Value.oneCell'
attribute [local simp] one_int' one_ptr'
theorem gdrop_c {g : GT} {h : IHeap} {G p q p' q' : Nat} {hash what : Int} (x : GAt g h G p q p' q') (ok : GOK g) (hh : 0 ≤ hash ∧ hash < 18446744073709551616) :
    FN Try.prog 8 #[.pointer (some ⟨G, 0, none⟩), .agg #[.int .u64 hash, .int .u32 what]] h (Q := ⟨fun v h' => v = .int .i64 (g.dropE hash what) ∧ GAt (g.drop hash what) h' G p q p' q' ∧ KS (g.own G p q p' q') h h'⟩) := by
  obtain ⟨H, hH⟩ : ∃ H, H = h.push (.row false 0 [.int .u64 hash, .int .u32 what]) := ⟨_, rfl⟩
  have Hz : H.size = h.size + 1 := by rw [hH, IHeap.size_push']
  have Ho : ∀ i, i < h.size → H.get i = h.get i := fun i hi => by rw [hH]; exact IHeap.get_push_ne _ (by omega)
  have Hb : H.get h.size = some (.row false 0 [.int .u64 hash, .int .u32 what]) := by rw [hH]; exact IHeap.get_pushed _ rfl
  have gf := gfind_c (K := fK what) (F := .func (.func 29) #[] #[.pointer (some ⟨h.size, 0, none⟩)]) (x.inv Ho) ok hh (.inr ⟨_, _, _, _, rfl, rfl, by simp, fun h' w hk => FN.of (dask_c (by rw [hk _ (by omega)]; exact Hb)) ⟨rfl, Fr.refl _⟩⟩)
  refine FN.enter mixed (fn := Try.f8) (by kernel_rfl) rfl (by kernel_rfl) fun e hn hg hd => ?_
  simp [Try.f8] at hn
  have a0 : e.get 0 = .pointer (some ⟨G, 0, none⟩) := hg 0 (by omega)
  have a1 : e.get 1 = .agg #[.int .u64 hash, .int .u32 what] := hg 1 (by omega)
  clear hg
  simp (maxSteps := 1000000) (disch := first | (simp; done) | (simp only [IHeap.size_push', IHeap.size_set']; omega) | omega) [a0, a1, hn, hd, ← hH, Hb]
  refine FN.of (gnone_c (x.inv Ho)) ?_
  simp (maxSteps := 1000000) (disch := first | (simp; done) | (simp only [IHeap.size_push', IHeap.size_set']; omega) | omega) [a0, a1, hn, hd, Hb]
  refine FN.ct gf ?_
  intro h2 fr
  have kg : ∀ i, i < h.size → h2.get i = h.get i := fun i hi => by rw [fr.get i (by omega), getU_nil, Ho i hi]
  have z2 := fr.size
  have x2 := x.inv kg
  unfold gfindV
  cases hf : g.now.find hash (fK what) with
  | some i =>
    have hb : g.dropE hash what = 0 := by unfold GT.dropE GT.hasB; rw [hf]; rfl
    have hg : g.drop hash what = { g with now := g.now.drop i } := by unfold GT.drop; rw [hf]
    obtain ⟨c, hc, c1, c2, c3⟩ := find_inv hf
    simp (maxSteps := 1000000) (disch := first | (simp; done) | (simp only [IHeap.size_push', IHeap.size_set']; omega) | omega) [a0, a1, hn, hd]
    refine FN.mono (drop_c ok.t.ok x2.now i) ?_
    rintro v h3 ⟨rfl, at', kp⟩
    rw [dropV_at hc c1]
    simp (maxSteps := 1000000) (disch := first | (simp; done) | (simp only [IHeap.size_push', IHeap.size_set']; omega) | omega) [a0, a1, hn, hd, hb]
    rw [hg]
    have z3 := kp.size
    exact ⟨x2.stepN ok.l.ne (fun t ht => (ok.x t ht).2.1.ne) kp at', by omega, fun i hi hn => by rw [kp.get i (by omega) (fun e => hn (.inr (.inl e))) (fun e => hn (.inr (.inr (.inl e)))), kg i hi]⟩
  | none =>
    cases hf2 : g.nxT.find hash (fK what) with
    | some i =>
      have hb : g.dropE hash what = 0 := by unfold GT.dropE GT.hasB; rw [hf, hf2]; rfl
      cases hx : g.nx with
      | none =>
        rw [nxT_none hx, find_empty] at hf2
        cases hf2
      | some t =>
        have hg : g.drop hash what = { g with nx := some (t.drop i) } := by unfold GT.drop; rw [hf, hf2, hx]
        rw [nxT_some hx] at hf2
        obtain ⟨c, hc, c1, c2, c3⟩ := find_inv hf2
        obtain ⟨t1, t2, t3⟩ := ok.x t hx
        obtain ⟨n1, n2, xa⟩ := x2.apart2 hx t2.ne
        simp (maxSteps := 1000000) (disch := first | (simp; done) | (simp only [IHeap.size_push', IHeap.size_set']; omega) | omega) [a0, a1, hn, hd, nxA_some hx]
        refine FN.mono (drop_c t1.ok xa i) ?_
        rintro v h3 ⟨rfl, at', kp⟩
        rw [dropV_at hc c1]
        simp (maxSteps := 1000000) (disch := first | (simp; done) | (simp only [IHeap.size_push', IHeap.size_set']; omega) | omega) [a0, a1, hn, hd, hb]
        rw [hg]
        have z3 := kp.size
        have nn : g.nx ≠ none := by rw [hx]; simp
        exact ⟨x2.stepX hx ok.l.ne t2.ne kp at', by omega, fun i hi hn => by rw [kp.get i (by omega) (fun e => hn (.inr (.inr (.inr ⟨nn, .inl e⟩)))) (fun e => hn (.inr (.inr (.inr ⟨nn, .inr e⟩)))), kg i hi]⟩
    | none =>
      have hb : g.dropE hash what = 7 := by unfold GT.dropE GT.hasB; rw [hf, hf2]; rfl
      have hg : g.drop hash what = g := by unfold GT.drop; rw [hf, hf2]
      simp (maxSteps := 1000000) (disch := first | (simp; done) | (simp only [IHeap.size_push', IHeap.size_set']; omega) | omega) [a0, a1, hn, hd, hb]
      rw [hg]
      exact ⟨x2, by omega, fun i hi _ => kg i hi⟩
end Go.Proofs.Ytmobpbhbllhdcaa.Ideal
