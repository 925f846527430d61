import Derived.Test.YtmobpbhbllhdcaaP14e
noncomputable section
open Go.Proofs
namespace Go.Proofs.Ytmobpbhbllhdcaa.Ideal
open Go.RowKit
set_option linter.unusedSimpArgs false
set_option linter.unusedVariables false
set_option linter.unusedSectionVars false
set_option linter.unnecessarySimpa false
set_option maxRecDepth 100000
set_option maxHeartbeats 2000000
attribute [-simp] IHeap.size_set IHeap.size_push
attribute [local simp ↓] Hid.ap_mk
attribute [local simp] scopeQ_normal scopeQ_ret scopeQ_exit WP_skip WP_label WP_exit WP_goto WP_ret WP_region WP_seq WP_cond WP_block WP_scope WP_loop WP_range thenQ_normal thenQ_ret thenQ_exit thenQ_goto loopQ_normal loopQ_ret loopQ_exit invQ_normal invQ_ret invQ_exit outOf_normal outOf_ret outOf_goto outOf_exit ev_tmp ev_const ev_func
  wops_nil wops_cons wantedE_none wantedE_some jgd_some wnx_eq niC_false wdo_move wdo_assign wdo_pick wdo_load wdo_store wdo_alloc wdo_box wdo_fieldAddr wdo_indexAddr wdo_field wdo_extract wdo_build wdo_buildSlice wdo_makeSlice wdo_binOp wdo_unOp wdo_makeFunc wdo_nilCheck wdo_callV wdo_len wdo_append wdo_copy wdo_delete wdo_max wdo_min wdo_convert jcvt_int
  xput_get put_n put_none put_dfr ibin finQ_n finQ_r finD_nil splice_one ires_nil ires_one ires_two ires_three ires1_tmp ires1_cell jcell_ptr rowLoad_row wrap64 wrapU64 wrapU8 wrapU16 wrapU32 callV_fn buildOf Instr.fill Value.cells Value.oneCell' kindOf slots_all splice_all IHeap.size_set' IHeap.size_push' IHeap.get_set_same IHeap.get_set_ne IHeap.get_pushed IHeap.get_push_ne IHeap.set_set IHeap.set_push IHeap.set_pushed IHeap.set_set3 getU_nil getU_same getU_ne jif_true jif_false pushH_eq setH_eq forceL_eq forceV_eq ibuildSlice
attribute [-simp] Value.oneCell'
theorem ni78 : notInt Try.prog 100 = true := by kernel_rfl
theorem ints_all (l : List Int) : (ints l).all (·.oneCell') = true := by simp [ints, one_int]
theorem ints_get {l : List Int} {j : Nat} {x : Int} (h : l[j]? = some x) : (ints l)[j]? = some (.int .i64 x) := by simp [ints, h]
/-- A slice of whole numbers, in a row of its own. -/
def slcI (l : List Int) (r : Nat) : Value := if l = [] then .slice none 0 0 else .slice (some ⟨r, 0, none⟩) l.length l.length
def adrI (l : List Int) (r : Nat) : Option Addr := if l = [] then none else some ⟨r, 0, none⟩
theorem slcI_eq (l : List Int) (r : Nat) : slcI l r = .slice (adrI l r) l.length l.length := by
  unfold slcI adrI
  by_cases h : l = [] <;> simp [h]
theorem slcI_snoc (l : List Int) (x : Int) (r : Nat) : slcI (l ++ [x]) r = .slice (some ⟨r, 0, none⟩) (l.length + 1) (l.length + 1) := by simp [slcI]
theorem app78 {h : IHeap} {j r : Nat} {l : List Int} {x : Int} (hi : l ≠ [] → h.get r = some (.row false 1 (ints l))) (hj : h.get j = some (.row false 1 [.int .i64 x])) (hl : l.length < 100000) :
    ∃ h', iappend Try.prog h 100 100 (slcI l r) (.slice (some ⟨j, 0, none⟩) 1 1) = some (slcI (l ++ [x]) h.size, h') ∧ h'.size = h.size + 1 ∧ h'.get h.size = some (.row false 1 (ints (l ++ [x]))) ∧ ∀ i, i < h.size → (l ≠ [] → i ≠ r) → h'.get i = h.get i := by
  have hx := src_row (h := h) (s := 1) (q := 0) (m := 1) (c := 1) hj (slots_full _ (by rfl)) (by omega)
  by_cases hc : l = []
  · subst hc
    refine ⟨h.push (.row false 1 (ints [x])), ?_, by simp only [IHeap.size_push'], by simp (maxSteps := 1000000) (disch := first | (simp; done) | (simp only [IHeap.size_push', IHeap.size_set']; omega) | omega) [], fun i hi _ => by simp (maxSteps := 1000000) (disch := first | (simp; done) | (simp only [IHeap.size_push', IHeap.size_set']; omega) | omega) []⟩
    have := iapp_nil (P := Try.prog) (h := h) (t := 100) (t2 := 100) sl100 ze3 bt3 (by rfl) (by omega) ni78 hx (by simp [one_int]) (by omega) (by omega)
    simpa [slcI, ints] using this
  · have hr := hi hc
    have hrz := IHeap.get_lt hr
    refine ⟨(h.set r .dead).push (.row false 1 (ints (l ++ [x]))), ?_, by simp only [IHeap.size_push', IHeap.size_set'], by simp (maxSteps := 1000000) (disch := first | (simp; done) | (simp only [IHeap.size_push', IHeap.size_set']; omega) | omega) [], fun i hi hir => ?_⟩
    · have := iapp_grow (P := Try.prog) (t := 100) (t2 := 100) (c := l.length) (n := l.length) (q := 0) (olds := ints l) sl100 ze3 bt3 (by rfl) (by omega) ni78 hx (by simp [one_int]) (by omega) (by omega) hr (.inr rfl) (slots_full _ (by rw [ints_len]; omega))
      simpa [slcI, hc, ints] using this
    · have := hir hc
      simp (maxSteps := 1000000) (disch := first | (simp; done) | (simp only [IHeap.size_push', IHeap.size_set']; omega) | omega) [this, Ne.symm this]
/-- The places on a hash's way that have it. -/
def TB.wl (t : TB) (hash : Int) : Nat → Nat → List Nat
  | 0, _ => []
  | f + 1, k => match t.ps[wayI t.ps.length hash k]? with
    | some c => if c.2.2 = 0 then [] else if c.2.2 = 1 ∧ c.1 = hash then wayI t.ps.length hash k :: t.wl hash f (k + 1) else t.wl hash f (k + 1)
    | none => []
def TB.fr (t : TB) (hash what : Int) : Nat → Nat → Option Nat
  | 0, _ => none
  | f + 1, k => match t.ps[wayI t.ps.length hash k]? with
    | some c => if c.2.2 = 0 then none else if c.2.2 = 1 ∧ c.1 = hash ∧ c.2.1 = what then some (wayI t.ps.length hash k) else t.fr hash what f (k + 1)
    | none => none
theorem find_fr {t : TB} {hash what : Int} : ∀ (f k : Nat), k + f = t.ps.length → (∀ j, j < k → ∀ c, t.ps[wayI t.ps.length hash j]? = some c → stopB (some fun w => decide (w = what)) hash c = false) → t.find hash (some fun w => decide (w = what)) = t.fr hash what f k
  | 0, k, hk, hj => by
    rw [find_none (fun j h => hj j (by omega))]; rfl
  | f + 1, k, hk, hj => by
    have hw := wayI_lt hash k (show 0 < t.ps.length by omega)
    obtain ⟨c, hcc⟩ : ∃ c, t.ps[wayI t.ps.length hash k]? = some c := ⟨_, List.getElem?_eq_getElem hw⟩
    unfold TB.fr
    rw [hcc]
    dsimp only
    cases hs : stopB (some fun w => decide (w = what)) hash c
    · have hne : ¬ c.2.2 = 0 := by rintro e; simp [stopB, e] at hs
      have hne2 : ¬ (c.2.2 = 1 ∧ c.1 = hash ∧ c.2.1 = what) := by rintro ⟨e1, e2, e3⟩; simp [stopB, e1, e2, e3] at hs
      rw [if_neg hne, if_neg hne2]
      exact find_fr f (k + 1) (by omega) (next_stop hj hcc hs)
    · rw [find_some (by omega) hcc hs hj]
      by_cases hz : c.2.2 = 0
      · simp [hz]
      · have : c.2.2 = 1 ∧ c.1 = hash ∧ c.2.1 = what := by
          simp [stopB, hz] at hs
          exact ⟨hs.1.1, hs.1.2, hs.2⟩
        simp [hz, this]
theorem wl_find {t : TB} {hash what : Int} : ∀ (f k : Nat), (t.wl hash f k).find? (fun W => match t.ps[W]? with | some c => decide (c.2.1 = what) | none => false) = t.fr hash what f k
  | 0, k => rfl
  | f + 1, k => by
    have ih := wl_find (t := t) (hash := hash) (what := what) f (k + 1)
    unfold TB.wl TB.fr
    cases hcc : t.ps[wayI t.ps.length hash k]? with
    | none => rfl
    | some c =>
      dsimp only
      by_cases hz : c.2.2 = 0
      · simp [hz]
      · rw [if_neg hz, if_neg hz]
        by_cases h1 : c.2.2 = 1 ∧ c.1 = hash
        · rw [if_pos h1, List.find?_cons, hcc]
          dsimp only
          by_cases h2 : c.2.1 = what
          · simp [h1, h2]
          · simp only [h2, decide_false]
            rw [ih, if_neg (by simp [h2])]
        · rw [if_neg h1, ih, if_neg (fun h => h1 ⟨h.1, h.2.1⟩)]
theorem wl_lt {t : TB} {hash : Int} : ∀ (f k : Nat), ∀ W ∈ t.wl hash f k, W < t.ps.length
  | 0, k, W, h => by simp [TB.wl] at h
  | f + 1, k, W, h => by
    unfold TB.wl at h
    cases hcc : t.ps[wayI t.ps.length hash k]? with
    | none => rw [hcc] at h; simp at h
    | some c =>
      rw [hcc] at h
      dsimp only at h
      split at h
      · simp at h
      · split at h
        · rcases List.mem_cons.1 h with rfl | h
          · exact (List.getElem?_eq_some_iff.1 hcc).1
          · exact wl_lt f (k + 1) W h
        · exact wl_lt f (k + 1) W h
theorem wl_len {t : TB} {hash : Int} : ∀ (f k : Nat), (t.wl hash f k).length ≤ f
  | 0, k => by simp [TB.wl]
  | f + 1, k => by
    have ih := wl_len (t := t) (hash := hash) f (k + 1)
    unfold TB.wl
    split
    · split
      · simp
      · split
        · simp; omega
        · omega
    · simp
def nInts (l : List Nat) : List Int := l.map (fun (n : Nat) => (n : Int))
theorem nInts_len (l : List Nat) : (nInts l).length = l.length := by simp [nInts]
theorem way_c {t : TB} {h : IHeap} {pw rf rm re : Nat} (hst : ∀ c ∈ t.ps, c.2.2 = 0 ∨ c.2.2 = 1 ∨ c.2.2 = 2) (hd : (t.ps.length : Int) ∣ 18446744073709551616) (x : RAt t.ps h pw rf rm re) (hash : Int) (hh : 0 ≤ hash ∧ hash < 18446744073709551616) :
    FN Try.prog 62 #[.pointer (some ⟨pw, 0, none⟩), .int .u64 hash] h (Q := ⟨fun v h' => Fr h h' [] ∧ ∃ r, v = slcI (nInts (t.wl hash t.ps.length 0)) r ∧ (t.wl hash t.ps.length 0 ≠ [] → h'.get r = some (.row false 1 (ints (nInts (t.wl hash t.ps.length 0)))))⟩) := by
  refine FN.enter mixed (fn := Try.f62) (by kernel_rfl) rfl (by kernel_rfl) fun e hn hg hd => ?_
  simp [Try.f62] at hn
  have a0 : e.get 0 = .pointer (some ⟨pw, 0, none⟩) := hg 0 (by omega)
  have a1 : e.get 1 = .int .u64 hash := hg 1 (by omega)
  clear hg
  have hl := x.len
  simp (maxSteps := 1000000) (disch := first | (simp; done) | (simp only [IHeap.size_push', IHeap.size_set']; omega) | omega) [a0, a1, hn, hd]
  refine WPL.by_inv mixed (by kernel_rfl) (fun k e h' => ∃ (i r : Nat) (M : List Nat), i + k = t.ps.length ∧ e.n = 71 ∧ e.dfr = [] ∧ e.get 0 = .pointer (some ⟨pw, 0, none⟩) ∧ e.get 1 = .int .u64 hash ∧ e.get 5 = slcI (nInts M) r ∧ e.get 6 = .int .i64 i ∧ Fr h h' [] ∧ t.wl hash t.ps.length 0 = M ++ t.wl hash k i ∧ (M ≠ [] → h.size ≤ r ∧ h'.get r = some (.row false 1 (ints (nInts M))))) t.ps.length ?_ ?_
  · refine ⟨0, 0, [], ?_⟩
    simp (maxSteps := 1000000) (disch := first | (simp; done) | (simp only [IHeap.size_push', IHeap.size_set']; omega) | omega) [a0, a1, hn, hd, slcI, nInts]
    exact Fr.refl _
  clear hn hd a0 a1 e
  rintro k e h1 ⟨i, r, M, hi, hn, hd', e0, e1, e5, e6, fr, hM, hr⟩
  have hz1 := fr.size
  have x1 := rat_inv x fr.get
  have hp := x1.gp
  have hpz := IHeap.get_lt hp
  cases k with
  | zero =>
    obtain rfl : i = t.ps.length := by omega
    have hM2 : t.wl hash t.ps.length 0 = M := by rw [hM]; simp [TB.wl]
    simp (maxSteps := 1000000) (disch := first | (simp; done) | (simp only [IHeap.size_push', IHeap.size_set']; omega) | omega) [e0, e1, e5, e6, hn, hd', hp]
    rw [hM2]
    exact ⟨fr, r, rfl, fun h => (hr h).2⟩
  | succ k =>
    have hlt : (i : Int) < t.ps.length := by omega
    simp (maxSteps := 1000000) (disch := first | (simp; done) | (simp only [IHeap.size_push', IHeap.size_set']; omega) | omega) [e0, e1, e5, e6, hn, hd', hp, hlt]
    refine FN.of (from_c x1 hash hh) ?_
    obtain ⟨W, hW⟩ : ∃ W : Nat, W = wayI t.ps.length hash i := ⟨_, rfl⟩
    have hw := wayI_lt hash i (show 0 < t.ps.length by omega)
    have wr := wayR hash i hd (show 0 < t.ps.length by omega)
    rw [← hW] at hw wr
    have n0 : (t.ps.length : Int) ≠ 0 := by omega
    have n0' : t.ps.length ≠ 0 := by omega
    have r1 := Int.emod_nonneg hash n0
    have r2 := Int.emod_lt_of_pos hash (show (0 : Int) < t.ps.length by omega)
    have wr2 : (hash % (t.ps.length : Int) + i).tmod (t.ps.length : Int) = W := by rw [Int.tmod_eq_emod_of_nonneg (by omega)]; exact wr
    obtain ⟨c, hcc⟩ : ∃ c, t.ps[W]? = some c := ⟨t.ps[W], by simp [hw]⟩
    have hw2 : (W : Int) < t.ps.length := by omega
    have gf := x1.gf
    have gm := x1.gm
    have ge := x1.ge
    have bf := bools_get (fullL_get hcc)
    have bm := bools_get (markL_get hcc)
    have be := ents_get0 (entL_get hcc)
    have hc3 := hst c (List.mem_of_getElem? hcc)
    have hwl : t.wl hash (k + 1) i = (match t.ps[W]? with
      | some c => if c.2.2 = 0 then [] else if c.2.2 = 1 ∧ c.1 = hash then W :: t.wl hash k (i + 1) else t.wl hash k (i + 1)
      | none => []) := by rw [hW]; rfl
    rw [hcc] at hwl
    dsimp only at hwl
    simp (maxSteps := 1000000) (disch := first | (simp; done) | (simp only [IHeap.size_push', IHeap.size_set']; omega) | omega) [e0, e1, e5, e6, hn, hd', hp, n0, n0', wr2, wrap64, gf, gm, ge, hw, hw2, bf]
    refine ⟨niC_pend [(2, 8)] (by kernel_rfl) ⟨rfl, trivial⟩, ?_⟩
    have hMl : M.length ≤ t.ps.length := by
      have := wl_len (t := t) (hash := hash) t.ps.length 0
      rw [hM] at this
      simp at this
      omega
    rcases hc3 with hz | hz | hz
    · have hM2 : t.wl hash t.ps.length 0 = M := by rw [hM, hwl, if_pos hz, List.append_nil]
      simp (maxSteps := 1000000) (disch := first | (simp; done) | (simp only [IHeap.size_push', IHeap.size_set']; omega) | omega) [e0, e1, e5, e6, hn, hd', hz, hp, gm, bm, hw, hw2]
      rw [hM2]
      exact ⟨fr, r, rfl, fun h => (hr h).2⟩
    · by_cases hh2 : c.1 = hash
      · rw [if_neg (by omega), if_pos ⟨hz, hh2⟩] at hwl
        simp (maxSteps := 1000000) (disch := first | (simp; done) | (simp only [IHeap.size_push', IHeap.size_set']; omega) | omega) [e0, e1, e5, e6, hn, hd', hz, hh2, hp, gf, gm, ge, bf, bm, be, hw, hw2, zeros, one_int]
        obtain ⟨h2, ap, hz2, hg2, ho2⟩ := app78 (h := h1.push (.row false 1 [.int .i64 W])) (j := h1.size) (r := r) (l := nInts M) (x := W) (fun hc => by
          have hM0 : M ≠ [] := fun h => hc (by rw [h]; rfl)
          obtain ⟨q1, q2⟩ := hr hM0
          have q3 := IHeap.get_lt q2
          simp (maxSteps := 1000000) (disch := first | (simp; done) | (simp only [IHeap.size_push', IHeap.size_set']; omega) | omega) [q2]) (by simp (maxSteps := 1000000) (disch := first | (simp; done) | (simp only [IHeap.size_push', IHeap.size_set']; omega) | omega) []) (by rw [nInts_len]; omega)
        simp only [IHeap.size_push'] at ap hz2 hg2 ho2
        rw [ap]
        simp (maxSteps := 1000000) (disch := first | (simp; done) | (simp only [IHeap.size_push', IHeap.size_set']; omega) | omega) [e0, e1, e6, hn, hd', wrap64]
        have hs2 : nInts M ++ [(W : Int)] = nInts (M ++ [W]) := by simp [nInts]
        rw [hs2] at hg2 ⊢
        refine ⟨k, by omega, i + 1, by omega, h1.size + 1, M ++ [W], rfl, by omega, ⟨by omega, fun a ha => ?_⟩, by rw [hM, hwl]; simp, fun _ => ⟨by omega, hg2⟩⟩
        rw [ho2 a (by omega) (fun hc => by
          have hM0 : M ≠ [] := fun h => hc (by rw [h]; rfl)
          have := (hr hM0).1
          omega), IHeap.get_push_ne _ (by omega)]
        exact fr.get a ha
      · rw [if_neg (by omega), if_neg (by simp [hh2])] at hwl
        simp (maxSteps := 1000000) (disch := first | (simp; done) | (simp only [IHeap.size_push', IHeap.size_set']; omega) | omega) [e0, e1, e5, e6, hn, hd', hz, hh2, hp, gf, gm, ge, bf, bm, be, hw, hw2, wrap64]
        exact ⟨k, by omega, i + 1, by omega, r, M, rfl, by omega, fr, by rw [hM, hwl], hr⟩
    · rw [if_neg (by omega), if_neg (by omega)] at hwl
      simp (maxSteps := 1000000) (disch := first | (simp; done) | (simp only [IHeap.size_push', IHeap.size_set']; omega) | omega) [e0, e1, e5, e6, hn, hd', hz, hp, gf, gm, ge, bf, bm, be, hw, hw2, wrap64]
      exact ⟨k, by omega, i + 1, by omega, r, M, rfl, by omega, fr, by rw [hM, hwl], hr⟩
theorem nInts_get {l : List Nat} {j : Nat} {x : Nat} (h : l[j]? = some x) : (nInts l)[j]? = some (x : Int) := by simp [nInts, h]
theorem rfind_c {t : TB} {h : IHeap} {pw rf rm re : Nat} (hst : ∀ c ∈ t.ps, c.2.2 = 0 ∨ c.2.2 = 1 ∨ c.2.2 = 2) (hdv : (t.ps.length : Int) ∣ 18446744073709551616) (x : RAt t.ps h pw rf rm re) (hash what : Int) (hh : 0 ≤ hash ∧ hash < 18446744073709551616) :
    CT Try.prog 45 #[.pointer (some ⟨pw, 0, none⟩), .int .u64 hash, .int .u32 what] h (findV (t.find hash (some fun w => decide (w = what)))) [] := by
  refine FN.enter mixed (fn := Try.f45) (by kernel_rfl) rfl (by kernel_rfl) fun e hn hg hd => ?_
  simp [Try.f45] at hn
  have a0 : e.get 0 = .pointer (some ⟨pw, 0, none⟩) := hg 0 (by omega)
  have a1 : e.get 1 = .int .u64 hash := hg 1 (by omega)
  have a2 : e.get 2 = .int .u32 what := hg 2 (by omega)
  clear hg
  have hd' := hd
  have hl := x.len
  simp (maxSteps := 1000000) (disch := first | (simp; done) | (simp only [IHeap.size_push', IHeap.size_set']; omega) | omega) [a0, a1, a2, hn, hd']
  refine FN.mono (way_c hst hdv x hash hh) ?_
  rintro v h1 ⟨fr, r, rfl, hr⟩
  rw [slcI_eq, nInts_len]
  have hfd : t.find hash (some fun w => decide (w = what)) = (t.wl hash t.ps.length 0).find? (fun W => match t.ps[W]? with | some c => decide (c.2.1 = what) | none => false) := by
    rw [find_fr t.ps.length 0 (by omega) (fun j hj => by omega), wl_find]
  rw [hfd]
  have hlt := wl_lt (t := t) (hash := hash) t.ps.length 0
  have hll := wl_len (t := t) (hash := hash) t.ps.length 0
  generalize hL : t.wl hash t.ps.length 0 = L at hr hlt hll ⊢
  have x1 := rat_inv x fr.get
  have hp := x1.gp
  have ge := x1.ge
  simp (maxSteps := 1000000) (disch := first | (simp; done) | (simp only [IHeap.size_push', IHeap.size_set']; omega) | omega) [a0, a1, a2, hn, hd']
  refine WPL.by_inv mixed (by kernel_rfl) (fun k e h' => ∃ i : Nat, i + k = L.length ∧ e.n = 36 ∧ e.dfr = [] ∧ e.get 0 = .pointer (some ⟨pw, 0, none⟩) ∧ e.get 2 = .int .u32 what ∧ e.get 8 = .slice (adrI (nInts L) r) L.length L.length ∧ e.get 9 = .int .i64 i ∧ h' = h1 ∧ ∀ j, j < i → ∀ W c, L[j]? = some W → t.ps[W]? = some c → c.2.1 ≠ what) L.length ?_ ?_
  · refine ⟨0, ?_⟩
    simp (maxSteps := 1000000) (disch := first | (simp; done) | (simp only [IHeap.size_push', IHeap.size_set']; omega) | omega) [a0, a1, a2, hn, hd']
  clear hn hd' hd a0 a1 a2 e
  rintro k e h2 ⟨i, hi, hn, hd', e0, e2, e8, e9, rfl, ha⟩
  cases k with
  | zero =>
    obtain rfl : i = L.length := by omega
    have hnone : L.find? (fun W => match t.ps[W]? with | some c => decide (c.2.1 = what) | none => false) = none := by
      rw [List.find?_eq_none]
      intro W hW
      obtain ⟨j, hj, rfl⟩ := List.getElem_of_mem hW
      have hw := hlt _ hW
      have := ha j hj _ _ (List.getElem?_eq_getElem hj) (List.getElem?_eq_getElem hw)
      rw [List.getElem?_eq_getElem hw]
      simpa using this
    rw [hnone]
    simp (maxSteps := 1000000) (disch := first | (simp; done) | (simp only [IHeap.size_push', IHeap.size_set']; omega) | omega) [e0, e2, e8, e9, hn, hd', findV]
    exact fr
  | succ k =>
    have hlt1 : (i : Int) < L.length := by omega
    have hlt2 : i < L.length := by omega
    have hLne : L ≠ [] := fun h => by rw [h] at hlt2; simp at hlt2
    have ad : adrI (nInts L) r = some ⟨r, 0, none⟩ := by
      unfold adrI; rw [if_neg (fun h => hLne (by simpa [nInts] using h))]
    rw [ad] at e8
    have hr2 := hr hLne
    obtain ⟨W, hW⟩ : ∃ W, L[i]? = some W := ⟨L[i], by simp [hlt2]⟩
    have hw := hlt W (List.mem_of_getElem? hW)
    have hw2 : (W : Int) < t.ps.length := by omega
    obtain ⟨c, hcc⟩ : ∃ c, t.ps[W]? = some c := ⟨t.ps[W], by simp [hw]⟩
    have gW := ints_get (nInts_get hW)
    have be := ents_get1 (entL_get hcc)
    by_cases hz : c.2.1 = what
    · have hsome : L.find? (fun W => match t.ps[W]? with | some c => decide (c.2.1 = what) | none => false) = some W := by
        rw [List.find?_eq_some_iff_getElem]
        have hWe := (List.getElem?_eq_some_iff.1 hW).2
        refine ⟨by rw [hcc]; simpa using hz, i, hlt2, hWe, fun j hj => ?_⟩
        have hw3 := hlt L[j] (List.getElem_mem (by omega))
        have := ha j hj _ _ (List.getElem?_eq_getElem (by omega)) (List.getElem?_eq_getElem hw3)
        rw [List.getElem?_eq_getElem hw3]
        simpa using this
      rw [hsome]
      simp (maxSteps := 1000000) (disch := first | (simp; done) | (simp only [IHeap.size_push', IHeap.size_set']; omega) | omega) [e0, e2, e8, e9, hn, hd', findV, hp, ge, hr2, hlt1, hlt2, gW, hw, hw2, be, hz]
      exact ⟨niC_pend [] (by kernel_rfl) trivial, fr⟩
    · simp (maxSteps := 1000000) (disch := first | (simp; done) | (simp only [IHeap.size_push', IHeap.size_set']; omega) | omega) [e0, e2, e8, e9, hn, hd', findV, hp, ge, hr2, hlt1, hlt2, gW, hw, hw2, be, hz, wrap64]
      refine ⟨niC_pend [] (by kernel_rfl) trivial, k, by omega, i + 1, by omega, ad.symm, by omega, fun j hj W' a b c' h1 h2 => ?_⟩
      by_cases e : j = i
      · subst e; rw [hW] at h1; cases h1; rw [hcc] at h2; cases h2; exact hz
      · exact ha j (by omega) W' (a, b, c') h1 h2
end Go.Proofs.Ytmobpbhbllhdcaa.Ideal
