import Derived.Test.YtkecaobcchnilaaP09d
import Derived.Test.YtkecaobcchnilaaI35
import Derived.Test.YtkecaobcchnilaaP09p
noncomputable section
open Go.Proofs
namespace Go.Proofs.Ytkecaobcchnilaa.Ideal
open Go.RowKit
set_option linter.unusedSimpArgs false
set_option linter.unusedVariables false
set_option linter.unusedSectionVars false
set_option linter.unnecessarySimpa false
set_option maxRecDepth 100000
set_option maxHeartbeats 2000000
attribute [-simp] IHeap.size_set IHeap.size_push
attribute [local simp ↓] Hid.ap_mk
attribute [local simp] scopeQ_normal scopeQ_ret scopeQ_exit WP_skip WP_label WP_exit WP_goto WP_ret WP_region WP_seq WP_cond WP_block WP_scope WP_loop WP_range thenQ_normal thenQ_ret thenQ_exit thenQ_goto loopQ_normal loopQ_ret loopQ_exit invQ_normal invQ_ret invQ_exit outOf_normal outOf_ret outOf_goto outOf_exit ev_tmp ev_const ev_func
  wops_nil wops_cons wantedE_none wantedE_some jgd_some wnx_eq niC_false wdo_move wdo_assign wdo_pick wdo_load wdo_store wdo_alloc wdo_box wdo_fieldAddr wdo_indexAddr wdo_field wdo_extract wdo_build wdo_buildSlice wdo_makeSlice wdo_binOp wdo_unOp wdo_makeFunc wdo_nilCheck wdo_callV wdo_len wdo_append wdo_copy wdo_delete wdo_max wdo_min wdo_convert jcvt_int
  xput_get put_n put_none put_dfr ibin finQ_n finQ_r finD_nil splice_one ires_nil ires_one ires_two ires_three ires1_tmp ires1_cell jcell_ptr rowLoad_row wrap64 wrapU64 wrapU8 wrapU16 wrapU32 callV_fn buildOf Instr.fill Value.cells Value.oneCell' kindOf slots_all splice_all IHeap.size_set' IHeap.size_push' IHeap.get_set_same IHeap.get_set_ne IHeap.get_pushed IHeap.get_push_ne IHeap.set_set IHeap.set_push IHeap.set_pushed IHeap.set_set3 getU_nil getU_same getU_ne jif_true jif_false pushH_eq setH_eq forceL_eq forceV_eq ibuildSlice
attribute [-simp] Value.oneCell'
attribute [local simp] wdo_lookup wdo_mapUpdate wdo_makeMap
def kfns : List Nat := [6, 7, 8, 9, 10, 11, 22]
theorem kfns_ok : ∀ g ∈ kfns, fnB Try.prog g = true := by
  have : kfns.all (fnB Try.prog) = true := by kernel_rfl
  rwa [List.all_eq_true] at this
theorem known_c {h : IHeap} : ICall Try.prog 6 #[] h (.bool true) h := by
  refine ICall.of_below rfl fun ρ w args' ha hm => ?_
  obtain rfl : args' = #[] := Array.eq_empty_of_size_eq_zero ha.1.symm
  exact calls_run kfns_ok mixed (m := 100000) (n := 200) (by kernel_rfl) (by kernel_rfl) w
/-- Handles in a row of their own. -/
def hflat : List (Int × Int) → List Value
  | [] => []
  | c :: l => .int .i64 c.1 :: .int .u64 c.2 :: hflat l
theorem ni28 : notInt Try.prog 28 = true := by kernel_rfl
theorem hflat_len : ∀ l : List (Int × Int), (hflat l).length = l.length * 2
  | [] => rfl
  | c :: l => by simp [hflat, hflat_len l]; omega
theorem hflat_app : ∀ l m : List (Int × Int), hflat l ++ hflat m = hflat (l ++ m)
  | [], m => rfl
  | c :: l, m => by simp [hflat, hflat_app l m]
theorem hflat_get0 : ∀ {l : List (Int × Int)} {m : Nat} {c : Int × Int}, l[m]? = some c → (hflat l)[m * 2]? = some (.int .i64 c.1)
  | [], m, c, h => by simp at h
  | d :: l, 0, c, h => by simp at h; subst h; rfl
  | d :: l, m + 1, c, h => by
    have := hflat_get0 (l := l) (m := m) (c := c) (by simpa using h)
    rw [show (m + 1) * 2 = m * 2 + 1 + 1 by omega]
    simpa [hflat] using this
theorem hflat_get1 : ∀ {l : List (Int × Int)} {m : Nat} {c : Int × Int}, l[m]? = some c → (hflat l)[m * 2 + 1]? = some (.int .u64 c.2)
  | [], m, c, h => by simp at h
  | d :: l, 0, c, h => by simp at h; subst h; rfl
  | d :: l, m + 1, c, h => by
    have := hflat_get1 (l := l) (m := m) (c := c) (by simpa using h)
    rw [show (m + 1) * 2 + 1 = m * 2 + 1 + 1 + 1 by omega]
    simpa [hflat] using this
theorem hflat_slots {l : List (Int × Int)} {m : Nat} {c : Int × Int} (h : l[m]? = some c) : slots (hflat l) (m * 2) 2 = some [.int .i64 c.1, .int .u64 c.2] := by
  have h0 := hflat_get0 h
  have h1 := hflat_get1 h
  have hl := (List.getElem?_eq_some_iff.1 h).1
  have hz : m * 2 + 2 ≤ (hflat l).length := by rw [hflat_len]; omega
  have e0 := (List.getElem?_eq_some_iff.1 h0).2
  have e1 := (List.getElem?_eq_some_iff.1 h1).2
  unfold slots
  rw [if_pos hz, List.drop_eq_getElem_cons (by omega), List.drop_eq_getElem_cons (by omega), e0, e1]
  rfl
theorem hflat_all : ∀ l : List (Int × Int), (hflat l).all (·.oneCell') = true
  | [] => rfl
  | c :: l => by simp [hflat, hflat_all l, one_int]
theorem slots_hflat (l : List (Int × Int)) (n : Nat) (h : n = l.length * 2) : slots (hflat l) 0 n = some (hflat l) := by
  rw [h, ← hflat_len]; simp [slots]
theorem app28 {h : IHeap} {i j n c : Nat} {l : List (Int × Int)} {x : Int × Int} {ro : Bool} {esz : Nat} (hi : h.get i = some (.row false 2 (hflat l))) (hn : n = l.length) (hcc : c = l.length) (hj : h.get j = some (.row ro esz (hflat [x]))) (hl : l.length < 100000) :
    iappend Try.prog h 28 28 (.slice (some ⟨i, 0, none⟩) n c) (.slice (some ⟨j, 0, none⟩) 1 1) = some (.slice (some ⟨h.size, 0, none⟩) (n + 1) (n + 1), (h.set i .dead).push (.row false 2 (hflat (l ++ [x])))) := by
  subst hn; subst hcc
  have h1 : ¬ l.length + 1 ≤ l.length := by omega
  have h2 : (l.length + 1) * 16 ≤ 140737488355328 ∧ l.length + 1 ≤ 4611686018427387904 := by omega
  have h3 := slots_hflat l (l.length * 2) rfl
  have h4 := hflat_all [x]
  have h5 := slots_hflat [x] 2 rfl
  simp [-Value.oneCell', iappend, asrcOf, srcOf, ni28, hj, hi, h4, h5, h1, h2, h3, hflat_app]
theorem app28n {h : IHeap} {j : Nat} {x : Int × Int} {ro : Bool} {esz : Nat} (hj : h.get j = some (.row ro esz (hflat [x]))) :
    iappend Try.prog h 28 28 (.slice none 0 0) (.slice (some ⟨j, 0, none⟩) 1 1) = some (.slice (some ⟨h.size, 0, none⟩) 1 1, h.push (.row false 2 (hflat [x]))) := by
  have h4 := hflat_all [x]
  have h5 := slots_hflat [x] 2 rfl
  simp [-Value.oneCell', iappend, asrcOf, srcOf, ni28, hj, h4, h5]
/-- The bytes that are handed in. -/
def BytesAt (h : IHeap) (A : Option Addr) (bs : List Int) : Prop := bs ≠ [] → ∃ i o ro esz cs, A = some ⟨i, o, none⟩ ∧ h.get i = some (.row ro esz cs) ∧ ∀ j b, bs[j]? = some b → cs[o + j]? = some (.int .u8 b)
def slcH (all : List (Int × Int)) (r : Nat) : Value := if all = [] then .slice none 0 0 else .slice (some ⟨r, 0, none⟩) all.length all.length
/-- What lies in memory ahead of a byte. -/
structure OSt (h0 : IHeap) (n : Int) (h : IHeap) (a : AR) (q r : Nat) (all : List (Int × Int)) (G : List ((Int × Int) × Bool)) : Prop where
  arena : a.at h h0.size q
  rows : all ≠ [] → h.get r = some (.row false 2 (hflat all))
  gone : ∃ es ck, h.get (h0.size + 1) = some (.map es ck) ∧ MapIs hv Value.bool G es
  vals : ∀ g ∈ G, g.2 = true
  hq : h0.size ≤ q ∧ q ≠ h0.size + 1
  hr : all ≠ [] → h0.size + 1 < r ∧ r ≠ q
  old : ∀ i, i < h0.size → h.get i = h0.get i
  size : h0.size + 2 ≤ h.size
theorem OSt.keep {h0 : IHeap} {n : Int} {h h2 : IHeap} {a a' : AR} {q q' r : Nat} {all : List (Int × Int)} {G : List ((Int × Int) × Bool)} (x : OSt h0 n h a q r all G) (k : Keeps h h2 h0.size q) (hq : q' = q ∨ h.size ≤ q') (y : a'.at h2 h0.size q') : OSt h0 n h2 a' q' r all G := by
  obtain ⟨es, ck, g1, g2⟩ := x.gone
  have z1 := x.hq
  have z2 := x.size
  have z3 := k.size
  refine ⟨y, fun hc => ?_, ⟨es, ck, ?_, g2⟩, x.vals, by omega, fun hc => ?_, fun i hi => ?_, by omega⟩
  · have := x.hr hc
    have hz := IHeap.get_lt (x.rows hc)
    rw [k.get r hz (by omega) this.2]; exact x.rows hc
  · rw [k.get _ (by omega) (by omega) (by omega)]; exact g1
  · have := x.hr hc
    have hz := IHeap.get_lt (x.rows hc)
    omega
  · rw [k.get i (by omega) (by omega) (by omega)]; exact x.old i hi
theorem OSt.grow {h0 : IHeap} {n : Int} {h2 h3 : IHeap} {a : AR} {q r r3 : Nat} {all all' : List (Int × Int)} {G : List ((Int × Int) × Bool)} (x : OSt h0 n h2 a q r all G) (k : ∀ i, i < h2.size → (all ≠ [] → i ≠ r) → h3.get i = h2.get i) (hz : h2.size ≤ h3.size) (hqz : q < h2.size) (hr3 : h2.size ≤ r3) (g : h3.get r3 = some (.row false 2 (hflat all'))) : OSt h0 n h3 a q r3 all' G := by
  obtain ⟨es, ck, g1, g2⟩ := x.gone
  have z1 := x.hq
  have z2 := x.size
  refine ⟨⟨?_, fun hc => ?_⟩, fun _ => g, ⟨es, ck, ?_, g2⟩, x.vals, z1, fun hc => by omega, fun i hi => ?_, by omega⟩
  · rw [k _ (by omega) (fun hc => by have := x.hr hc; omega)]; exact x.arena.gp
  · rw [k _ hqz (fun hc => by have := x.hr hc; omega)]; exact x.arena.gq hc
  · rw [k _ (by omega) (fun hc => by have := x.hr hc; omega)]; exact g1
  · rw [k i (by omega) (fun hc => by have := x.hr hc; omega)]; exact x.old i hi
theorem OSt.pick {h0 : IHeap} {n : Int} {h : IHeap} {a : AR} {q r : Nat} {all : List (Int × Int)} {G : List ((Int × Int) × Bool)} (x : OSt h0 n h a q r all G) : ∃ q, OSt h0 n h a q r all G ∧ q < h.size := by
  have z2 := x.size
  by_cases hc : a.cs = []
  · refine ⟨h0.size, ⟨⟨?_, fun h => absurd hc h⟩, x.rows, x.gone, x.vals, by omega, fun h => ?_, x.old, x.size⟩, by omega⟩
    · have := x.arena.gp
      simpa [AR.row, AR.slc, hc] using this
    · have := x.hr h; omega
  · exact ⟨q, x, IHeap.get_lt (x.arena.gq hc).1⟩
theorem OSt.put {h0 : IHeap} {n : Int} {h : IHeap} {a : AR} {q r : Nat} {all : List (Int × Int)} {G G' : List ((Int × Int) × Bool)} (x : OSt h0 n h a q r all G) (hq : q < h.size) {es : List MapEntry} {ck : Nat} (hM : MapIs hv Value.bool G' es) (hv : ∀ g ∈ G', g.2 = true) : OSt h0 n (h.set (h0.size + 1) (.map es ck)) a q r all G' := by
  have z1 := x.hq
  have z2 := x.size
  refine ⟨⟨?_, fun hc => ⟨?_, (x.arena.gq hc).2⟩⟩, fun hc => ?_, ⟨es, ck, ?_, hM⟩, hv, z1, x.hr, fun i hi => ?_, by simpa using z2⟩
  · rw [IHeap.get_set_ne _ (by omega)]; exact x.arena.gp
  · rw [IHeap.get_set_ne _ (by omega)]; exact (x.arena.gq hc).1
  · have := x.hr hc
    rw [IHeap.get_set_ne _ (by omega)]; exact x.rows hc
  · simp (maxSteps := 1000000) (disch := first | (simp; done) | (simp only [IHeap.size_push', IHeap.size_set']; omega) | omega) []
  · rw [IHeap.get_set_ne _ (by omega)]; exact x.old i hi
theorem AInv.congr {n : Int} {a : AR} {all G G' : List (Int × Int)} {L : List Nat} (x : AInv n a all G L) (h1 : ∀ g, g ∈ G' ↔ g ∈ G) (h2 : G'.Nodup) (h3 : G'.length = G.length) : AInv n a all G' L :=
  ⟨x.hn, x.size, x.len, x.ser, x.serial, fun h hh => by rw [h1]; exact x.lives h hh, x.chain, x.nodup, x.zero, x.live, fun g hg => x.sub g ((h1 g).1 hg), h2, by rw [h3]; exact x.count⟩
def adrH (all : List (Int × Int)) (r : Nat) : Option Addr := if all = [] then none else some ⟨r, 0, none⟩
theorem slcH_eq (all : List (Int × Int)) (r : Nat) : slcH all r = .slice (adrH all r) all.length all.length := by
  unfold slcH adrH
  by_cases h : all = [] <;> simp [h]
theorem elim_bool (o : Option Bool) : o.elim (Value.bool false) Value.bool = .bool (o.getD false) := by cases o <;> rfl
theorem OSt.ext {h0 : IHeap} {n : Int} {h h2 : IHeap} {a : AR} {q r : Nat} {all : List (Int × Int)} {G : List ((Int × Int) × Bool)} (x : OSt h0 n h a q r all G) (hq : q < h.size) (hs : h.size ≤ h2.size) (k : ∀ i, i < h.size → h2.get i = h.get i) : OSt h0 n h2 a q r all G := by
  have z1 := x.hq
  have z2 := x.size
  refine x.keep ⟨hs, fun i hi _ _ => k i hi⟩ (.inl rfl) ⟨by rw [k _ (by omega)]; exact x.arena.gp, fun hc => by rw [k _ hq]; exact x.arena.gq hc⟩
/-- The map of those seen. -/
def SeenIs (all : List (Int × Int)) (jj : Nat) (M : List ((Int × Int) × Bool)) : Prop := ∀ g, (alGet M g).getD false = decide (g ∈ all.take jj)
/-- The map of the indices that are taken. -/
def AtIs (all G : List (Int × Int)) (jj : Nat) (M : List (Int × Bool)) : Prop := ∀ i, (alGet M i).getD false = decide (∃ g ∈ all.take jj, g ∉ G ∧ g.1 = i)
theorem mem_take1 {all : List (Int × Int)} {jj : Nat} {c : Int × Int} (hc : all[jj]? = some c) (g : Int × Int) : g ∈ all.take (jj + 1) ↔ g ∈ all.take jj ∨ g = c := by
  rw [List.take_add_one, hc]
  simp
theorem SeenIs.step {all : List (Int × Int)} {jj : Nat} {M : List ((Int × Int) × Bool)} {c : Int × Int} (x : SeenIs all jj M) (hc : all[jj]? = some c) : SeenIs all (jj + 1) (alPut c true M) := by
  intro g
  rw [alGet_put, Bool.eq_iff_iff, decide_eq_true_eq, mem_take1 hc]
  by_cases h : c = g
  · simp [h]
  · have := x g
    rw [Bool.eq_iff_iff, decide_eq_true_eq] at this
    rw [if_neg h, this]
    exact ⟨.inl, fun h2 => h2.elim id fun e => absurd e.symm h⟩
theorem AtIs.step {all G : List (Int × Int)} {jj : Nat} {M : List (Int × Bool)} {c : Int × Int} (x : AtIs all G jj M) (hc : all[jj]? = some c) {b : Bool} (hb : b = ((alGet M c.1).getD false || decide (c ∉ G))) : AtIs all G (jj + 1) (alPut c.1 b M) := by
  intro i
  have := x i
  rw [Bool.eq_iff_iff, decide_eq_true_eq] at this
  rw [alGet_put, Bool.eq_iff_iff, decide_eq_true_eq]
  by_cases h : c.1 = i
  · subst h
    rw [if_pos rfl, Option.getD_some, hb, Bool.or_eq_true, decide_eq_true_eq, this]
    constructor
    · rintro (⟨g, g1, g2⟩ | g1)
      · exact ⟨g, (mem_take1 hc g).2 (.inl g1), g2⟩
      · exact ⟨c, (mem_take1 hc c).2 (.inr rfl), g1, rfl⟩
    · rintro ⟨g, g1, g2, g3⟩
      rcases (mem_take1 hc g).1 g1 with g1 | rfl
      · exact .inl ⟨g, g1, g2, g3⟩
      · exact .inr g2
  · simp only [h, if_false, this]
    constructor
    · rintro ⟨g, g1, g2⟩
      exact ⟨g, (mem_take1 hc g).2 (.inl g1), g2⟩
    · rintro ⟨g, g1, g2, g3⟩
      rcases (mem_take1 hc g).1 g1 with g1 | rfl
      · exact ⟨g, g1, g2, g3⟩
      · exact absurd g3 h
theorem take_cs {a : AR} {i : Int} (ok : a.ok) (h : a.take.2 = some i) : a.take.1.cs ≠ [] := by
  have hf := ok.free
  unfold AR.take at h ⊢
  split
  · rename_i h1
    intro he
    have := congrArg List.length he
    simp at this
    simp [this] at hf
    omega
  · split
    · rename_i h1 h2
      rw [if_neg h1, if_pos h2] at h; cases h
    · simp
theorem once_c {h : IHeap} {n : Int} {A : Option Addr} {bs : List Int} {cap : Nat} (hn0 : 0 ≤ n ∧ n < 256) (hbs : ∀ b ∈ bs, 0 ≤ b ∧ b < 256) (hb : BytesAt h A bs) :
    FN Try.prog 3 #[.int .u8 n, .slice A bs.length cap] h (Q := ⟨fun v h' => v = .bool true⟩) := by
  refine FN.enter mixed (fn := Try.f3) (by kernel_rfl) rfl (by kernel_rfl) fun e hn hg hd => ?_
  simp [Try.f3] at hn
  have a0 : e.get 0 = .int .u8 n := hg 0 (by omega)
  have a1 : e.get 1 = .slice A bs.length cap := hg 1 (by omega)
  clear hg
  by_cases g1 : n < 1
  · simp (maxSteps := 1000000) (disch := first | (simp; done) | (simp only [IHeap.size_push', IHeap.size_set']; omega) | omega) [a0, a1, hn, hd, g1]
    refine FN.of known_c ?_
    simp (maxSteps := 1000000) (disch := first | (simp; done) | (simp only [IHeap.size_push', IHeap.size_set']; omega) | omega) [hn, hd]
  by_cases g2 : 60 < n
  · simp (maxSteps := 1000000) (disch := first | (simp; done) | (simp only [IHeap.size_push', IHeap.size_set']; omega) | omega) [a0, a1, hn, hd, g1, g2]
    refine FN.of known_c ?_
    simp (maxSteps := 1000000) (disch := first | (simp; done) | (simp only [IHeap.size_push', IHeap.size_set']; omega) | omega) [hn, hd]
  by_cases g3 : (100 : Int) < bs.length
  · simp (maxSteps := 1000000) (disch := first | (simp; done) | (simp only [IHeap.size_push', IHeap.size_set']; omega) | omega) [a0, a1, hn, hd, g1, g2, g3]
    refine FN.of known_c ?_
    simp (maxSteps := 1000000) (disch := first | (simp; done) | (simp only [IHeap.size_push', IHeap.size_set']; omega) | omega) [hn, hd]
  simp (maxSteps := 1000000) (disch := first | (simp; done) | (simp only [IHeap.size_push', IHeap.size_set']; omega) | omega) [a0, a1, hn, hd, g1, g2, g3, wrap64]
  refine FN.of (new_c (by omega)) ?_
  simp (maxSteps := 1000000) (disch := first | (simp; done) | (simp only [IHeap.size_push', IHeap.size_set']; omega) | omega) [a0, a1, hn, hd]
  have hold : ∀ i, i < h.size → ((h.push (.row false 0 ((newAR n).row 0))).push (.map [] 0)).get i = h.get i := fun i hi => by simp (maxSteps := 1000000) (disch := first | (simp; done) | (simp only [IHeap.size_push', IHeap.size_set']; omega) | omega) []
  have st0 : OSt h n ((h.push (.row false 0 ((newAR n).row 0))).push (.map [] 0)) (newAR n) h.size 0 [] [] := by
    refine ⟨⟨by simp (maxSteps := 1000000) (disch := first | (simp; done) | (simp only [IHeap.size_push', IHeap.size_set']; omega) | omega) [newAR, AR.row, AR.slc], fun hc => absurd rfl hc⟩, fun hc => absurd rfl hc, ⟨[], 0, by simp (maxSteps := 1000000) (disch := first | (simp; done) | (simp only [IHeap.size_push', IHeap.size_set']; omega) | omega) [], rfl⟩, by simp, by omega, fun hc => absurd rfl hc, hold, by simp (maxSteps := 1000000) (disch := first | (simp; done) | (simp only [IHeap.size_push', IHeap.size_set']; omega) | omega) []⟩
  refine WPL.by_inv mixed (by kernel_rfl) (fun k e h' => ∃ (j q r : Nat) (a : AR) (all : List (Int × Int)) (G : List ((Int × Int) × Bool)), j + k = bs.length ∧ all.length ≤ j ∧ e.n = 150 ∧ e.dfr = [] ∧ e.get 0 = .int .u8 n ∧ e.get 5 = .pointer (some ⟨h.size, 0, none⟩) ∧ e.get 7 = slcH all r ∧ e.get 8 = .map (some (h.size + 1)) ∧ e.get 43 = .slice A bs.length cap ∧ e.get 44 = .int .i64 bs.length ∧ e.get 45 = .int .i64 j ∧ (∃ L, AInv n a all (G.map (·.1)) L) ∧ OSt h n h' a q r all G) bs.length ?_ ?_
  · refine ⟨0, h.size, 0, newAR n, [], [], ?_⟩
    simp (maxSteps := 1000000) (disch := first | (simp; done) | (simp only [IHeap.size_push', IHeap.size_set']; omega) | omega) [a0, a1, hn, hd, slcH, st0]
    exact ⟨[], AInv.new (by omega)⟩
  clear hn hd a0 a1 e st0 hold
  rintro k e h1 ⟨j, q, r, a, all, G, hj, hal, hn, hd, e0, e5, e7, e8, e43, e44, e45, inv, x⟩
  cases k with
  | zero =>
    obtain rfl : j = bs.length := by omega
    simp (maxSteps := 1000000) (disch := first | (simp; done) | (simp only [IHeap.size_push', IHeap.size_set']; omega) | omega) [e0, e5, e7, e8, e43, e44, e45, hn, hd]
    refine FN.of known_c ?_
    simp (maxSteps := 1000000) (disch := first | (simp; done) | (simp only [IHeap.size_push', IHeap.size_set']; omega) | omega) [hn, hd]
  | succ k =>
    have hlt : j < bs.length := by omega
    have hlt2 : (j : Int) < bs.length := by omega
    obtain ⟨i, o, ro, esz, cs, rfl, hrow, hcs⟩ := hb (by intro e; rw [e] at hlt; simp at hlt)
    have hiz := IHeap.get_lt hrow
    have hrow1 : h1.get i = some (.row ro esz cs) := by rw [x.old i hiz]; exact hrow
    have hbyte := hcs j bs[j] (by simp [hlt])
    rw [WP_seq (Q := _)]
    simp (maxSteps := 1000000) (disch := first | (simp; done) | (simp only [IHeap.size_push', IHeap.size_set']; omega) | omega) [-WP_seq, e0, e5, e7, e8, e43, e44, e45, hn, hd, hlt2]
    rw [WP_seq (Q := _)]
    simp (maxSteps := 1000000) (disch := first | (simp; done) | (simp only [IHeap.size_push', IHeap.size_set']; omega) | omega) [-WP_seq, e0, e5, e7, e8, e43, e44, e45, hn, hd, hlt2]
    rw [WP_seq (Q := _)]
    simp (maxSteps := 1000000) (disch := first | (simp; done) | (simp only [IHeap.size_push', IHeap.size_set']; omega) | omega) [-WP_seq, e0, e5, e7, e8, e43, e44, e45, hn, hd, hlt2]
    rw [WP_seq (Q := _)]
    simp (maxSteps := 1000000) (disch := first | (simp; done) | (simp only [IHeap.size_push', IHeap.size_set']; omega) | omega) [-WP_seq, e0, e5, e7, e8, e43, e44, e45, hn, hd, hlt2, hrow1, hbyte]
    rw [WP_seq (Q := _)]
    refine @WP.mono _ _ _ _ _ ⟨fun x e' h' => ∃ (q r : Nat) (a : AR) (all : List (Int × Int)) (G : List ((Int × Int) × Bool)), (x = .normal ∨ x = .exit 1) ∧ all.length ≤ j + 1 ∧ e'.n = 150 ∧ e'.dfr = [] ∧ e'.get 0 = .int .u8 n ∧ e'.get 5 = .pointer (some ⟨h.size, 0, none⟩) ∧ e'.get 7 = slcH all r ∧ e'.get 8 = .map (some (h.size + 1)) ∧ e'.get 43 = .slice (some ⟨i, o, none⟩) bs.length cap ∧ e'.get 44 = .int .i64 bs.length ∧ e'.get 45 = .int .i64 j ∧ (∃ L, AInv n a all (G.map (·.1)) L) ∧ OSt h n h' a q r all G⟩ _ ?_ ?_
    · by_cases hk : bs[j] < 128
      · simp (maxSteps := 1000000) (disch := first | (simp; done) | (simp only [IHeap.size_push', IHeap.size_set']; omega) | omega) [e0, e5, e7, e8, e43, e44, e45, hn, hd, hlt2, hrow1, hbyte, hk]
        obtain ⟨L, inv⟩ := inv
        have aok := inv.ok (by omega)
        refine FN.mono (take_c aok x.arena) ?_
        rintro v h2 ⟨rfl, q', hq', at', kp⟩
        cases ht : a.take.2 with
        | none =>
          obtain ⟨t1, t2⟩ := inv.full ht
          rw [t1] at at'
          have x2 := x.keep kp hq' at'
          simp (maxSteps := 1000000) (disch := first | (simp; done) | (simp only [IHeap.size_push', IHeap.size_set']; omega) | omega) [e0, e5, e7, e8, e43, e44, e45, hn, hd, AR.takeV, ht, one_int]
          have x3 : a.at (h2.push (.row false 0 [.int .i64 0, .int .u64 0])) h.size q' := by
            have hp := x2.arena.gp
            have hpz := IHeap.get_lt hp
            refine ⟨by simp (maxSteps := 1000000) (disch := first | (simp; done) | (simp only [IHeap.size_push', IHeap.size_set']; omega) | omega) [hp], fun hc => ?_⟩
            obtain ⟨g1, g2⟩ := x2.arena.gq hc
            have hqz := IHeap.get_lt g1
            exact ⟨by simp (maxSteps := 1000000) (disch := first | (simp; done) | (simp only [IHeap.size_push', IHeap.size_set']; omega) | omega) [g1], g2⟩
          refine FN.of (len_c aok x3) ?_
          simp (maxSteps := 1000000) (disch := first | (simp; done) | (simp only [IHeap.size_push', IHeap.size_set']; omega) | omega) [e0, e5, e7, e8, e43, e44, e45, hn, hd, t2, wrap64]
          exact ⟨q', r, a, all, by omega, rfl, G, ⟨L, inv⟩, x2.keep ⟨by simp (maxSteps := 1000000) (disch := first | (simp; done) | (simp only [IHeap.size_push', IHeap.size_set']; omega) | omega) [], fun i hi _ _ => by simp (maxSteps := 1000000) (disch := first | (simp; done) | (simp only [IHeap.size_push', IHeap.size_set']; omega) | omega) []⟩ (.inl rfl) x3⟩
        | some i =>
          have inv2 := inv.take ht
          have hqz2 : q' < h2.size := IHeap.get_lt (at'.gq (take_cs aok ht)).1
          have x2 := x.keep kp hq' at'
          by_cases hall : all = []
          · simp (maxSteps := 1000000) (disch := first | (simp; done) | (simp only [IHeap.size_push', IHeap.size_set']; omega) | omega) [e0, e5, e7, e8, e43, e44, e45, hn, hd, AR.takeV, ht, one_int, zerosC, slcH, hall]
            rw [app28n (x := (i, a.ser + 1)) (ro := false) (esz := 2) (by simp (maxSteps := 1000000) (disch := first | (simp; done) | (simp only [IHeap.size_push', IHeap.size_set']; omega) | omega) [hflat])]
            simp (maxSteps := 1000000) (disch := first | (simp; done) | (simp only [IHeap.size_push', IHeap.size_set']; omega) | omega) [e0, e5, e7, e8, e43, e44, e45, hn, hd, one_int]
            refine ⟨q', h2.size + 1 + 1, a.take.1, all ++ [(i, a.ser + 1)], by simp; omega, by simp [hall], G, inv2, x2.grow (fun j hj hjr => ?_) (by simp only [IHeap.size_push', IHeap.size_set']; omega) hqz2 (by omega) (by simp (maxSteps := 1000000) (disch := first | (simp; done) | (simp only [IHeap.size_push', IHeap.size_set']; omega) | omega) [hall])⟩
            simp (maxSteps := 1000000) (disch := first | (simp; done) | (simp only [IHeap.size_push', IHeap.size_set']; omega) | omega) []
          · have hrr := x2.rows hall
            have hrz := IHeap.get_lt hrr
            simp (maxSteps := 1000000) (disch := first | (simp; done) | (simp only [IHeap.size_push', IHeap.size_set']; omega) | omega) [e0, e5, e7, e8, e43, e44, e45, hn, hd, AR.takeV, ht, one_int, zerosC, slcH, hall]
            rw [app28 (l := all) (x := (i, a.ser + 1)) (ro := false) (esz := 2) (by simp (maxSteps := 1000000) (disch := first | (simp; done) | (simp only [IHeap.size_push', IHeap.size_set']; omega) | omega) [hrr]) rfl rfl (by simp (maxSteps := 1000000) (disch := first | (simp; done) | (simp only [IHeap.size_push', IHeap.size_set']; omega) | omega) [hflat]) (by omega)]
            simp (maxSteps := 1000000) (disch := first | (simp; done) | (simp only [IHeap.size_push', IHeap.size_set']; omega) | omega) [e0, e5, e7, e8, e43, e44, e45, hn, hd, one_int]
            refine ⟨q', h2.size + 1 + 1, a.take.1, all ++ [(i, a.ser + 1)], by simp; omega, by simp, G, inv2, x2.grow (fun j hj hjr => ?_) (by simp only [IHeap.size_push', IHeap.size_set']; omega) hqz2 (by omega) (by simp (maxSteps := 1000000) (disch := first | (simp; done) | (simp only [IHeap.size_push', IHeap.size_set']; omega) | omega) [])⟩
            simp (maxSteps := 1000000) (disch := first | (simp; done) | (simp only [IHeap.size_push', IHeap.size_set']; omega) | omega) []
            exact IHeap.get_set_ne _ (Ne.symm (hjr hall))
      · by_cases hall : all = []
        · simp (maxSteps := 1000000) (disch := first | (simp; done) | (simp only [IHeap.size_push', IHeap.size_set']; omega) | omega) [e0, e5, e7, e8, e43, e44, e45, hn, hd, hlt2, hrow1, hbyte, hk, slcH, hall]
          exact ⟨q, r, a, all, by simp [hall], hall, G, inv, x⟩
        · have hpos : 0 < all.length := List.length_pos_iff.2 hall
          have hb0 := hbs bs[j] (by simp)
          obtain ⟨q, x, hqz⟩ := x.pick
          obtain ⟨m, hm, hml⟩ : ∃ m : Nat, bs[j].tmod (all.length : Int) = m ∧ m < all.length := by
            have q1 := Int.tmod_nonneg (all.length : Int) hb0.1
            have q2 := Int.tmod_lt_of_pos bs[j] (show (0 : Int) < all.length by omega)
            exact ⟨(bs[j].tmod (all.length : Int)).toNat, by omega, by omega⟩
          obtain ⟨c, hc⟩ : ∃ c, all[m]? = some c := ⟨all[m], by simp [hml]⟩
          have c0 := hflat_slots hc
          have hml2 : (m : Int) < all.length := by omega
          have hrr := x.rows hall
          have hrz := IHeap.get_lt hrr
          have x2 := x.hr hall
          simp (maxSteps := 1000000) (disch := first | (simp; done) | (simp only [IHeap.size_push', IHeap.size_set']; omega) | omega) [wrap64, hpos, e0, e5, e7, e8, e43, e44, e45, hn, hd, hlt2, hrow1, hbyte, hk, slcH, hall, hm, hml, hml2, hrr, c0, one_int]
          obtain ⟨L, inv⟩ := inv
          have aok := inv.ok (by omega)
          have x3 : a.at ((h1.push (.row false 0 [.int .i64 c.1, .int .u64 c.2]))) h.size q := by
            have hp := x.arena.gp
            have hpz := IHeap.get_lt hp
            refine ⟨by simp (maxSteps := 1000000) (disch := first | (simp; done) | (simp only [IHeap.size_push', IHeap.size_set']; omega) | omega) [hp], fun hc => ?_⟩
            obtain ⟨g1, g2⟩ := x.arena.gq hc
            have hqz := IHeap.get_lt g1
            exact ⟨by simp (maxSteps := 1000000) (disch := first | (simp; done) | (simp only [IHeap.size_push', IHeap.size_set']; omega) | omega) [g1], g2⟩
          refine FN.mono (free_c aok x3 c.1 c.2) ?_
          rintro v h2 ⟨rfl, at', kp⟩
          have hz2 := kp.size
          simp only [IHeap.size_push'] at hz2
          have gb : h2.get h1.size = some (.row false 0 [.int .i64 c.1, .int .u64 c.2]) := by
            rw [kp.get _ (by simp only [IHeap.size_push']; omega) (by have := x.size; omega) (by omega)]; simp (maxSteps := 1000000) (disch := first | (simp; done) | (simp only [IHeap.size_push', IHeap.size_set']; omega) | omega) []
          have k1 : h2.get h1.size = (h1.push (.row false 0 [.int .i64 c.1, .int .u64 c.2])).get h1.size := kp.get _ (by simp only [IHeap.size_push']; omega) (by have := x.size; omega) (by omega)
          have k2 : h2.get (h.size + 1) = (h1.push (.row false 0 [.int .i64 c.1, .int .u64 c.2])).get (h.size + 1) := kp.get _ (by have := x.size; simp only [IHeap.size_push']; omega) (by omega) (by have := x.hq; omega)
          have x4 : OSt h n h2 (a.drop c.1 c.2) q r all G := x.keep ⟨by omega, fun i hi hip hiq => by rw [kp.get i (by simp only [IHeap.size_push']; omega) hip hiq]; simp (maxSteps := 1000000) (disch := first | (simp; done) | (simp only [IHeap.size_push', IHeap.size_set']; omega) | omega) []⟩ (.inl rfl) at'
          obtain ⟨es, ck, gm, hM⟩ := x4.gone
          have lk := lookup_al kh mp29 zv4 gm hM c
          rw [alGet_true x4.vals] at lk
          simp only [hv] at lk
          cases hl : a.lives c.1 c.2
          · have hcG : c ∈ G.map (·.1) := (inv.left (List.mem_of_getElem? hc) hl).2
            rw [if_pos hcG] at lk
            obtain ⟨es', ck', gu, hM'⟩ := update_al kh mp29 gm hM c true
            simp only [hv] at gu
            simp (maxSteps := 1000000) (disch := first | (simp; done) | (simp only [IHeap.size_push', IHeap.size_set']; omega) | omega) [e0, e5, e7, e8, e43, e44, e45, hn, hd, gb, lk, gu]
            refine ⟨niC_pend [(2, 5), (2, 6)] (by kernel_rfl) ⟨k1, k2, trivial⟩, q, r, a.drop c.1 c.2, all, by omega, by simp [slcH, hall], alPut c true G, ?_, x4.put (by omega) hM' (alPut_all (p := fun g => g.2 = true) rfl x4.vals)⟩
            · rw [alPut_keys_old hcG, (inv.left (List.mem_of_getElem? hc) hl).1]
              exact ⟨L, inv⟩
          · have hcG : c ∉ G.map (·.1) := (inv.lives c (List.mem_of_getElem? hc)).1 hl
            rw [if_neg hcG] at lk
            obtain ⟨es', ck', gu, hM'⟩ := update_al kh mp29 gm hM c true
            simp only [hv] at gu
            simp (maxSteps := 1000000) (disch := first | (simp; done) | (simp only [IHeap.size_push', IHeap.size_set']; omega) | omega) [e0, e5, e7, e8, e43, e44, e45, hn, hd, gb, lk, gu]
            refine ⟨niC_pend [(2, 5), (2, 6)] (by kernel_rfl) ⟨k1, k2, trivial⟩, q, r, a.drop c.1 c.2, all, by omega, by simp [slcH, hall], alPut c true G, ?_, x4.put (by omega) hM' (alPut_all (p := fun g => g.2 = true) rfl x4.vals)⟩
            · obtain ⟨L', inv'⟩ := inv.drop (List.mem_of_getElem? hc) hl
              rw [alPut_new hcG]
              refine ⟨L', inv'.congr (fun g => by simp [or_comm]) ?_ (by simp)⟩
              have := inv'.gnd
              simp only [List.map_append, List.map_cons, List.map_nil]
              exact (List.perm_append_singleton c _).nodup_iff.2 this
    · clear e0 e5 e7 e8 e43 e44 e45 hn hd x e hal
      rintro y e h2 ⟨q, r, a, all, G, hy, hal, hn, hd, e0, e5, e7, e8, e43, e44, e45, inv, x⟩
      rcases hy with rfl | rfl
      · rw [slcH_eq] at e7
        obtain ⟨q, x, hqz⟩ := x.pick
        simp (maxSteps := 1000000) (disch := first | (simp; done) | (simp only [IHeap.size_push', IHeap.size_set']; omega) | omega) [e0, e5, e7, e8, e43, e44, e45, hn, hd]
        have ug : ∀ i, i < h2.size → ((h2.push (.map [] 0)).push (.map [] 0)).get i = h2.get i := fun i hi => by simp (maxSteps := 1000000) (disch := first | (simp; done) | (simp only [IHeap.size_push', IHeap.size_set']; omega) | omega) []
        have us : ((h2.push (.map [] 0)).push (.map [] 0)).get h2.size = some (.map [] 0) := by simp (maxSteps := 1000000) (disch := first | (simp; done) | (simp only [IHeap.size_push', IHeap.size_set']; omega) | omega) []
        have ut : ((h2.push (.map [] 0)).push (.map [] 0)).get (h2.size + 1) = some (.map [] 0) := by simp (maxSteps := 1000000) (disch := first | (simp; done) | (simp only [IHeap.size_push', IHeap.size_set']; omega) | omega) []
        refine WPL.by_inv mixed (by kernel_rfl) (fun k e h' => ∃ (jj : Nat) (ms : List ((Int × Int) × Bool)) (ma : List (Int × Bool)), jj + k = all.length ∧ e.n = 150 ∧ e.dfr = [] ∧ e.get 0 = .int .u8 n ∧ e.get 5 = .pointer (some ⟨h.size, 0, none⟩) ∧ e.get 7 = .slice (adrH all r) all.length all.length ∧ e.get 8 = .map (some (h.size + 1)) ∧ e.get 43 = .slice (some ⟨i, o, none⟩) bs.length cap ∧ e.get 44 = .int .i64 bs.length ∧ e.get 45 = .int .i64 j ∧ e.get 14 = .map (some h2.size) ∧ e.get 15 = .map (some (h2.size + 1)) ∧ e.get 94 = .slice (adrH all r) all.length all.length ∧ e.get 95 = .int .i64 all.length ∧ e.get 96 = .int .i64 jj ∧ h2.size + 2 ≤ h'.size ∧ (∀ i, i < h2.size → h'.get i = h2.get i) ∧ SeenIs all jj ms ∧ AtIs all (G.map (·.1)) jj ma ∧ (∃ es ck, h'.get h2.size = some (.map es ck) ∧ MapIs hv Value.bool ms es) ∧ (∃ es ck, h'.get (h2.size + 1) = some (.map es ck) ∧ MapIs (fun n => Value.int .i64 n) Value.bool ma es)) all.length ?_ ?_
        · refine ⟨0, [], [], ?_⟩
          simp (maxSteps := 1000000) (disch := first | (simp; done) | (simp only [IHeap.size_push', IHeap.size_set']; omega) | omega) [e0, e5, e7, e8, e43, e44, e45, hn, hd]
          refine ⟨ug, fun g => by simp [alGet], fun i => by simp [alGet], rfl, rfl⟩
        clear hn hd e0 e5 e7 e8 e43 e44 e45 ug us ut e
        rintro k e h3 ⟨jj, ms, ma, hjj, hn, hd, e0, e5, e7, e8, e43, e44, e45, e14, e15, e94, e95, e96, hz, hk, hms, hma, ⟨es1, ck1, g1, m1⟩, ⟨es2, ck2, g2, m2⟩⟩
        have x3 := x.ext hqz (by omega) hk
        obtain ⟨L, inv⟩ := inv
        have aok := inv.ok (by omega)
        cases k with
        | zero =>
          obtain rfl : jj = all.length := by omega
          simp (maxSteps := 1000000) (disch := first | (simp; done) | (simp only [IHeap.size_push', IHeap.size_set']; omega) | omega) [e0, e5, e7, e8, e43, e44, e45, e14, e15, e94, e95, e96, hn, hd]
          refine FN.of (len_c aok x3.arena) ?_
          obtain ⟨es, ck, gm, hM⟩ := x3.gone
          have hlG := hM.len
          have hcnt := inv.count
          have hlive := aok.live
          simp only [List.length_map] at hcnt
          simp (maxSteps := 1000000) (disch := first | (simp; done) | (simp only [IHeap.size_push', IHeap.size_set']; omega) | omega) [e0, e5, e7, e8, e43, e44, e45, e14, e15, e94, e95, e96, hn, hd, gm, hlG, hcnt]
          refine ⟨k, by omega, j + 1, by omega, q, r, a, all, hal, (slcH_eq all r).symm, by omega, G, ⟨L, inv⟩, x3⟩
        | succ k =>
          have hjl : jj < all.length := by omega
          have hjl2 : (jj : Int) < all.length := by omega
          have hall : all ≠ [] := fun h => by rw [h] at hjl; simp at hjl
          obtain ⟨c, hc⟩ : ∃ c, all[jj]? = some c := ⟨all[jj], by simp [hjl]⟩
          have c0 := hflat_slots hc
          have hrr := x3.rows hall
          have adr : adrH all r = some ⟨r, 0, none⟩ := by simp [adrH, hall]
          rw [adr] at e94
          have g1' : (h3.push (.row false 0 [.int .i64 c.1, .int .u64 c.2])).get h2.size = some (.map es1 ck1) := by simp (maxSteps := 1000000) (disch := first | (simp; done) | (simp only [IHeap.size_push', IHeap.size_set']; omega) | omega) [g1]
          have s0 : (alGet ms c).getD false = false := by
            rw [hms c, decide_eq_false_iff_not]
            intro hm
            obtain ⟨i', hi', hci⟩ := List.mem_take_iff_getElem.1 hm
            have := inv.once (i := i') (j := jj) (h := c) (by rw [← hci]; simp) hc
            omega
          have lk1 := lookup_al kh mp29 zv4 g1' m1 c
          rw [elim_bool, s0] at lk1
          simp only [hv] at lk1
          simp (maxSteps := 1000000) (disch := first | (simp; done) | (simp only [IHeap.size_push', IHeap.size_set']; omega) | omega) [e0, e5, e7, e8, e43, e44, e45, e14, e15, e94, e95, e96, hn, hd, hjl, hjl2, hrr, c0, one_int, lk1]
          have x4 : OSt h n (h3.push (.row false 0 [.int .i64 c.1, .int .u64 c.2])) a q r all G := x3.ext (by omega) (by simp only [IHeap.size_push']; omega) (fun i hi => by simp (maxSteps := 1000000) (disch := first | (simp; done) | (simp only [IHeap.size_push', IHeap.size_set']; omega) | omega) [])
          refine FN.ct (live_c aok x4.arena c.1 c.2) ?_
          rintro h4 fr
          have hz4 := fr.size
          simp only [IHeap.size_push'] at hz4
          have k4 : ∀ i, i < h3.size → h4.get i = h3.get i := fun i hi => by
            rw [fr.get i (by simp only [IHeap.size_push']; omega)]; simp (maxSteps := 1000000) (disch := first | (simp; done) | (simp only [IHeap.size_push', IHeap.size_set']; omega) | omega) []
          have x5 : OSt h n h4 a q r all G := x3.ext (by omega) (by omega) k4
          have gb : h4.get h3.size = some (.row false 0 [.int .i64 c.1, .int .u64 c.2]) := by
            rw [fr.get _ (by simp only [IHeap.size_push']; omega)]; simp (maxSteps := 1000000) (disch := first | (simp; done) | (simp only [IHeap.size_push', IHeap.size_set']; omega) | omega) []
          obtain ⟨es, ck, gm, hM⟩ := x5.gone
          have lk2 := lookup_al kh mp29 zv4 gm hM c
          rw [alGet_true x5.vals, elim_bool] at lk2
          simp only [hv] at lk2
          have g2' : h4.get (h2.size + 1) = some (.map es2 ck2) := by rw [k4 _ (by omega)]; exact g2
          have g1'' : h4.get h2.size = some (.map es1 ck1) := by rw [k4 _ (by omega)]; exact g1
          have lk3 := lookup_al ki mp37 zv4 g2' m2 c.1
          rw [elim_bool] at lk3
          obtain ⟨es3, ck3, gu1, hM1⟩ := update_al kh mp29 g1'' m1 c true
          simp only [hv] at gu1
          have hsz2 := x.size
          have hq2 := x.hq
          have g2s : (h4.set h2.size (.map es3 ck3)).get (h2.size + 1) = some (.map es2 ck2) := by rw [IHeap.get_set_ne _ (by omega)]; exact g2'
          have gms : (h4.set h2.size (.map es3 ck3)).get (h.size + 1) = some (.map es ck) := by rw [IHeap.get_set_ne _ (by omega)]; exact gm
          have gbs : (h4.set h2.size (.map es3 ck3)).get h3.size = some (.row false 0 [.int .i64 c.1, .int .u64 c.2]) := by rw [IHeap.get_set_ne _ (by omega)]; exact gb
          have lk4 := lookup_al ki mp37 zv4 g2s m2 c.1
          rw [elim_bool] at lk4
          have lk5 := lookup_al kh mp29 zv4 gms hM c
          rw [alGet_true x5.vals, elim_bool] at lk5
          simp only [hv] at lk5
          have k6 : ∀ es' ck' i, i < h2.size → ((h4.set h2.size (.map es3 ck3)).set (h2.size + 1) (.map es' ck')).get i = h2.get i := fun es' ck' i hi => by
            rw [IHeap.get_set_ne _ (by omega), IHeap.get_set_ne _ (by omega), k4 i (by omega)]; exact hk i hi
          have g7 : ∀ es' ck', ((h4.set h2.size (.map es3 ck3)).set (h2.size + 1) (.map es' ck')).get h2.size = some (.map es3 ck3) := fun es' ck' => by
            rw [IHeap.get_set_ne _ (by omega)]; exact IHeap.get_set_same _ (by omega)
          have g8 : ∀ es' ck', ((h4.set h2.size (.map es3 ck3)).set (h2.size + 1) (.map es' ck')).get (h2.size + 1) = some (.map es' ck') := fun es' ck' => by
            exact IHeap.get_set_same _ (by simp only [IHeap.size_set']; omega)
          have kk1 : h4.get h3.size = (h3.push (.row false 0 [.int .i64 c.1, .int .u64 c.2])).get h3.size := by rw [gb]; simp (maxSteps := 1000000) (disch := first | (simp; done) | (simp only [IHeap.size_push', IHeap.size_set']; omega) | omega) []
          have kk2 : h4.get (h.size + 1) = (h3.push (.row false 0 [.int .i64 c.1, .int .u64 c.2])).get (h.size + 1) := by rw [k4 _ (by omega)]; simp (maxSteps := 1000000) (disch := first | (simp; done) | (simp only [IHeap.size_push', IHeap.size_set']; omega) | omega) []
          have hlv := inv.lives c (List.mem_of_getElem? hc)
          by_cases hG : c ∈ G.map (·.1)
          · have hl : a.lives c.1 c.2 = false := by
              cases h : a.lives c.1 c.2
              · rfl
              · exact absurd hG (hlv.1 h)
            rw [if_pos hG] at lk2
            simp only [Option.getD_some] at lk2
            rw [if_pos hG] at lk5
            simp only [Option.getD_some] at lk5
            obtain ⟨es6, ck6, gu2, hM2⟩ := update_al (uv := Value.bool) ki mp37 g2s m2 c.1 ((alGet ma c.1).getD false)
            cases hb : (alGet ma c.1).getD false <;> rw [hb] at lk3 lk4 gu2 hM2
            · simp (maxSteps := 1000000) (disch := first | (simp; done) | (simp only [IHeap.size_push', IHeap.size_set']; omega) | omega) [e0, e5, e7, e8, e43, e44, e45, e14, e15, e94, e95, e96, hn, hd, hl, lk2, lk3, lk4, lk5, gb, gbs, gu1, gu2, hjl2, wrap64]
              refine ⟨niC_pend [(6, 8), (6, 9)] (by kernel_rfl) ⟨kk1, kk2, trivial⟩, niC_pend [] (by kernel_rfl) trivial, k, by omega, jj + 1, by omega, adr.symm, by omega, by omega, k6 _ _, _, hms.step hc, _, hma.step hc (b := false) (by simp [hG, hb]), hM1, hM2⟩
            · simp (maxSteps := 1000000) (disch := first | (simp; done) | (simp only [IHeap.size_push', IHeap.size_set']; omega) | omega) [e0, e5, e7, e8, e43, e44, e45, e14, e15, e94, e95, e96, hn, hd, hl, lk2, lk3, lk4, lk5, gb, gbs, gu1, gu2, hjl2, wrap64]
              refine ⟨niC_pend [(6, 8), (6, 9)] (by kernel_rfl) ⟨kk1, kk2, trivial⟩, niC_pend [] (by kernel_rfl) trivial, k, by omega, jj + 1, by omega, adr.symm, by omega, by omega, k6 _ _, _, hms.step hc, _, hma.step hc (b := true) (by simp [hG, hb]), hM1, hM2⟩
          · have hl : a.lives c.1 c.2 = true := hlv.2 hG
            rw [if_neg hG] at lk2
            simp only [Option.getD_none] at lk2
            have a0 : (alGet ma c.1).getD false = false := by
              rw [hma c.1, decide_eq_false_iff_not]
              rintro ⟨g, g1, g2, g3⟩
              have hga := List.mem_of_mem_take g1
              obtain rfl := inv.index hga (List.mem_of_getElem? hc) g2 hG g3
              have := hms g
              rw [s0] at this
              simp [g1] at this
            rw [a0] at lk3
            rw [if_neg hG] at lk5
            simp only [Option.getD_none] at lk5
            rw [a0] at lk4
            obtain ⟨es6, ck6, gu2, hM2⟩ := update_al (uv := Value.bool) ki mp37 g2s m2 c.1 true
            simp (maxSteps := 1000000) (disch := first | (simp; done) | (simp only [IHeap.size_push', IHeap.size_set']; omega) | omega) [e0, e5, e7, e8, e43, e44, e45, e14, e15, e94, e95, e96, hn, hd, hl, lk2, lk3, lk4, lk5, gb, gbs, gu1, gu2, hjl2, wrap64]
            refine ⟨niC_pend [(6, 8), (6, 9)] (by kernel_rfl) ⟨kk1, kk2, trivial⟩, niC_pend [] (by kernel_rfl) trivial, k, by omega, jj + 1, by omega, adr.symm, by omega, by omega, k6 _ _, _, hms.step hc, _, hma.step hc (b := true) (by simp [hG, a0]), hM1, hM2⟩
      · simp (maxSteps := 1000000) (disch := first | (simp; done) | (simp only [IHeap.size_push', IHeap.size_set']; omega) | omega) [e0, e5, e7, e8, e43, e44, e45, hn, hd, wrap64]
        refine ⟨k, by omega, j + 1, by omega, q, r, a, all, hal, ?_⟩
        simp (maxSteps := 1000000) (disch := first | (simp; done) | (simp only [IHeap.size_push', IHeap.size_set']; omega) | omega) [e0, e5, e7, e8, e43, e44, e45, hn, hd]
        exact ⟨G, inv, x⟩
end Go.Proofs.Ytkecaobcchnilaa.Ideal
