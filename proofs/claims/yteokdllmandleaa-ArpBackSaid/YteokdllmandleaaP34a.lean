import Derived.Test.YteokdllmandleaaI39
import Derived.Test.YteokdllmandleaaF34
noncomputable section
open Go.Proofs
namespace Go.Proofs.Yteokdllmandleaa.Ideal
open Go.RowKit
set_option linter.unusedSimpArgs false
set_option linter.unusedVariables false
set_option linter.unusedSectionVars false
set_option maxRecDepth 100000
set_option maxHeartbeats 4000000
attribute [-simp] IHeap.size_set IHeap.size_push
attribute [local simp ↓] Hid.ap_mk
attribute [local simp] scopeQ_normal scopeQ_ret scopeQ_exit WP_skip WP_label WP_exit WP_goto WP_ret WP_region WP_seq WP_cond WP_block WP_scope WP_loop WP_range thenQ_normal thenQ_ret thenQ_exit thenQ_goto loopQ_normal loopQ_ret loopQ_exit invQ_normal invQ_ret invQ_exit outOf_normal outOf_ret outOf_goto outOf_exit ev_tmp ev_const ev_func
  wops_nil wops_cons wantedE_none wantedE_some jgd_some wnx_eq niC_false wdo_move wdo_assign wdo_pick wdo_load wdo_store wdo_alloc wdo_box wdo_fieldAddr wdo_indexAddr wdo_field wdo_extract wdo_build wdo_buildSlice wdo_makeSlice wdo_binOp wdo_unOp wdo_makeFunc wdo_nilCheck wdo_callV wdo_len wdo_append wdo_copy wdo_delete wdo_max wdo_min wdo_convert jcvt_int
  xput_get put_n put_none put_dfr ibin finQ_n finQ_r finD_nil splice_one ires_nil ires_one ires_two ires_three ires1_tmp ires1_cell jcell_ptr rowLoad_row wrap64 wrapU64 wrapU8 wrapU16 wrapU32 callV_fn buildOf Instr.fill Value.cells Value.oneCell' kindOf slots_all splice_all IHeap.size_set' IHeap.size_push' IHeap.get_set_same IHeap.get_set_ne IHeap.get_pushed IHeap.get_push_ne IHeap.set_set IHeap.set_push IHeap.set_pushed IHeap.set_set3 getU_nil getU_same getU_ne jif_true jif_false pushH_eq setH_eq forceL_eq forceV_eq ibuildSlice
attribute [local simp] wdo_index jopt_some
attribute [-simp] Value.oneCell'
theorem mixed : Try.prog.follows .mixedOrders = true := by kernel_rfl
theorem one_int' (k : IntKind) (n : Int) : (Value.int k n).oneCell' = true := rfl
theorem one_slc' (a : Option Addr) (n c : Nat) : (Value.slice a n c).oneCell' = true := rfl
attribute [local simp] one_int' one_slc'
/-- Bytes, as cells. -/
def bys (l : List Nat) : List Value := l.map fun n => .int .u8 (n : Nat)
theorem bys_len (l : List Nat) : (bys l).length = l.length := by simp [bys]
theorem bys_app (l m : List Nat) : bys (l ++ m) = bys l ++ bys m := by simp [bys]
theorem bys_all (l : List Nat) : (bys l).all (·.oneCell') = true := by
  rw [List.all_eq_true]
  intro v hv
  obtain ⟨j, _, rfl⟩ := List.mem_map.1 hv
  rfl
theorem bys_get {l : List Nat} {i c : Nat} (h : l[i]? = some c) : (bys l)[i]? = some (.int .u8 c) := by simp [bys, h]
theorem bys_at {l : List Nat} {i : Nat} (h : i < l.length) : (bys l)[i]? = some (.int .u8 (l[i] : Nat)) := by simp [bys, h]
def sub (l : List Nat) (o k : Nat) : List Nat := (l.drop o).take k
theorem sub_len {l : List Nat} {o k : Nat} (h : o + k ≤ l.length) : (sub l o k).length = k := by
  unfold sub
  rw [List.length_take, List.length_drop]
  omega
theorem slots_bys {l : List Nat} {o k : Nat} (h : o + k ≤ l.length) : slots (bys l) o k = some (bys (sub l o k)) := by
  unfold slots
  rw [if_pos (by rw [bys_len]; exact h)]
  simp [bys, sub, List.map_drop, List.map_take]
theorem ni33 : notInt Try.prog 33 = true := by kernel_rfl
theorem hz33 (lo hi : Option Value) (h1 : isZ lo = true) (h2 : isZ hi = true) : pureVal Try.prog (Instr.sliceAt 33 (.slice none 0 0) lo hi none) = some (.slice none 0 0) := by
  unfold isZ at h1 h2
  split at h1 <;> split at h2 <;> first | (cases h1; done) | (cases h2; done) | skip
  · kernel_rfl
  · simp at h2; subst h2; kernel_rfl
  · simp at h1; subst h1; kernel_rfl
  · simp at h1 h2; subst h1; subst h2; kernel_rfl
theorem wdo_cut33 {draw : Bool} {all : Array Oper} {os : List Oper} {e : XEnv} {h : IHeap} (d : Option Tmp) (ty : TypeId) (p : String) (af : Array Edge) (g : Option (Nat × Bool)) [Q : Hid (XEnv → IHeap → Prop)] [E : Hid (List Ent)] (x : Operand) (lo hi : Option Operand) :
    wdo Try.prog draw all ⟨d, .slice 33 x lo hi none, ty, p, af, g⟩ os e h = jopt (cutN Try.prog h 33 (e.ev x) (lo.map e.ev) (hi.map e.ev)) (R := ⟨jgen Try.prog e ⟨d, .slice 33 x lo hi none, ty, p, af, g⟩ h (K := ⟨fun v h' k => wnx Try.prog draw all os e d h v h' k⟩)⟩) (K := ⟨fun v k => wnx Try.prog draw all os e d h v h k⟩) := wdo_cutN d ty p af g 33 hz33 x lo hi
attribute [local simp] wdo_cut33
theorem kind_c {h : IHeap} : ICall Try.prog 20 #[] h (.slice (some ⟨h.size, 0, none⟩) 6 6) (h.push (.row false 1 (bys [0, 1, 8, 0, 6, 4]))) := by
  refine ICall.of_FN ?_
  refine FN.enter mixed (fn := Try.f20) (by kernel_rfl) rfl (by kernel_rfl) fun e hn hg hd => ?_
  simp [Try.f20] at hn
  clear hg
  simp (maxSteps := 1000000) (disch := first | (simp; done) | (simp only [IHeap.size_push', IHeap.size_set']; omega) | omega) [hn, hd, zeros]
  rfl
theorem isOp_c {h : IHeap} (n : Nat) : ICall Try.prog 21 #[.int .u16 n] h (.bool (decide (n = 1 ∨ n = 2))) h := by
  refine ICall.of_FN ?_
  refine FN.enter mixed (fn := Try.f21) (by kernel_rfl) rfl (by kernel_rfl) fun e hn hg hd => ?_
  simp [Try.f21] at hn
  have a0 : e.get 0 = .int .u16 n := hg 0 (by omega)
  clear hg
  by_cases c : n = 1
  · subst c
    simp (maxSteps := 1000000) (disch := first | (simp; done) | (simp only [IHeap.size_push', IHeap.size_set']; omega) | omega) [a0, hn, hd, undef]
  · have c2 : ¬ (n : Int) = 1 := by omega
    have c3 : ((n : Int) = 2) = (n = 2) := by
      rw [eq_iff_iff]; omega
    by_cases d : n = 2
    · subst d
      simp (maxSteps := 1000000) (disch := first | (simp; done) | (simp only [IHeap.size_push', IHeap.size_set']; omega) | omega) [a0, hn, hd, undef]
    · have d2 : ¬ (n : Int) = 2 := by omega
      simp (maxSteps := 1000000) (disch := first | (simp; done) | (simp only [IHeap.size_push', IHeap.size_set']; omega) | omega) [a0, hn, hd, undef, c, c2, d, d2]
theorem equal_c {h : IHeap} {p q op oq c1 c2 : Nat} {ro ro' : Bool} {z z' : Nat} {cs ds : List Value} {l m : List Nat} (hp : h.get p = some (.row ro z cs)) (hq : h.get q = some (.row ro' z' ds)) (hlm : l.length = m.length) (hl : l.length ≤ 1000)
    (hcs : ∀ j, (hj : j < l.length) → cs[op + j]? = some (.int .u8 (l[j] : Nat))) (hds : ∀ j, (hj : j < m.length) → ds[oq + j]? = some (.int .u8 (m[j] : Nat))) :
    ICall Try.prog 19 #[.slice (some ⟨p, op, none⟩) l.length c1, .slice (some ⟨q, oq, none⟩) m.length c2] h (.bool (decide (l = m))) h := by
  refine ICall.of_FN ?_
  refine FN.enter mixed (fn := Try.f19) (by kernel_rfl) rfl (by kernel_rfl) fun e hn hg hd => ?_
  simp [Try.f19] at hn
  have a0 : e.get 0 = .slice (some ⟨p, op, none⟩) l.length c1 := hg 0 (by omega)
  have a1 : e.get 1 = .slice (some ⟨q, oq, none⟩) m.length c2 := hg 1 (by omega)
  clear hg
  simp (maxSteps := 1000000) (disch := first | (simp; done) | (simp only [IHeap.size_push', IHeap.size_set']; omega) | omega) [a0, a1, hn, hd, hlm]
  refine WPL.by_inv mixed (by kernel_rfl) (fun y e h' => ∃ j, j + y = l.length ∧ h' = h ∧ e.n = 26 ∧ e.dfr = [] ∧ e.get 0 = .slice (some ⟨p, op, none⟩) l.length c1 ∧ e.get 1 = .slice (some ⟨q, oq, none⟩) l.length c2 ∧ e.get 12 = .int .i64 l.length ∧ e.get 13 = .int .i64 j ∧ l.take j = m.take j) l.length ?_ ?_
  · refine ⟨0, ?_⟩
    simp (maxSteps := 1000000) (disch := first | (simp; done) | (simp only [IHeap.size_push', IHeap.size_set']; omega) | omega) [a0, a1, hn, hd, hlm]
  clear hn hd a0 a1 e
  rintro y e h1 ⟨j, hj, hh, hn, hd, e0, e1, e12, e13, tk⟩
  subst hh
  cases y with
  | zero =>
    obtain rfl : j = l.length := by omega
    rw [List.take_length, hlm, List.take_length] at tk
    simp (maxSteps := 1000000) (disch := first | (simp; done) | (simp only [IHeap.size_push', IHeap.size_set']; omega) | omega) [e0, e1, e12, e13, hn, hd, tk]
  | succ y =>
    have hlt : j < l.length := by omega
    have hlt2 : (j : Int) < l.length := by omega
    have hlt3 : j < m.length := by omega
    have g1 := hcs j hlt
    have g2 := hds j hlt3
    by_cases e : l[j] = m[j]
    · have e' : ((l[j] : Nat) : Int) = (m[j] : Nat) := by omega
      simp (maxSteps := 1000000) (disch := first | (simp; done) | (simp only [IHeap.size_push', IHeap.size_set']; omega) | omega) [e0, e1, e12, e13, hn, hd, hlt, hlt2, hp, hq, g1, g2, e', wrap64]
      refine ⟨niC_pend [] (by kernel_rfl) trivial, y, by omega, j + 1, by omega, by omega, ?_⟩
      rw [List.take_succ_eq_append_getElem hlt, List.take_succ_eq_append_getElem hlt3, tk, e]
    · have e' : ¬ ((l[j] : Nat) : Int) = (m[j] : Nat) := by omega
      have hne : l ≠ m := fun h => e (by subst h; rfl)
      simp (maxSteps := 1000000) (disch := first | (simp; done) | (simp only [IHeap.size_push', IHeap.size_set']; omega) | omega) [e0, e1, e12, e13, hn, hd, hlt, hlt2, hp, hq, g1, g2, e', hne]
      exact niC_pend [] (by kernel_rfl) trivial
theorem src33 {h : IHeap} {p o n c : Nat} {ro : Bool} {z : Nat} {cs vs : List Value} (g : h.get p = some (.row ro z cs)) (hs : slots cs o n = some vs) (hv : vs.length = n) : srcOf h 1 (.slice (some ⟨p, o, none⟩) n c) = some (n, vs) := by
  by_cases h0 : n = 0
  · subst h0
    have := List.eq_nil_of_length_eq_zero hv
    subst this
    exact src_zero _ _
  · exact src_row g (by rw [Nat.mul_one]; exact hs) h0
/-- An append to a whole row of bytes of one's own. -/
theorem app33 {h : IHeap} {i n m : Nat} {x : Value} {cs news : List Nat} (hx : srcOf h 1 x = some (m, bys news)) (hm : news.length = m) (hg : h.get i = some (.row false 1 (bys cs))) (hl : cs.length = n) (hsz : n + m ≤ 100000) :
    ∃ h' j, iappend Try.prog h 33 33 (.slice (some ⟨i, 0, none⟩) n n) x = some (.slice (some ⟨j, 0, none⟩) (n + m) (n + m), h') ∧ h'.get j = some (.row false 1 (bys (cs ++ news))) ∧ (∀ k, k < h.size → k ≠ i → h'.get k = h.get k) ∧ h.size ≤ h'.size ∧ (j = i ∨ h.size ≤ j) := by
  have := iapp_any (P := Try.prog) (t := 33) (t2 := 33) (n := n) sl33 ze5 bt5 (by rfl) (by omega) ni33 hx (bys_all news) (by rw [bys_len]; omega) (by omega) hg (by rw [bys_len]; omega)
  rwa [bys_app]
/-- An append to nothing. -/
theorem app33n {h : IHeap} {m : Nat} {x : Value} {news : List Nat} (hx : srcOf h 1 x = some (m, bys news)) (hm : news.length = m) (hm1 : 1 ≤ m) (hsz : m ≤ 100000) :
    iappend Try.prog h 33 33 (.slice none 0 0) x = some (.slice (some ⟨h.size, 0, none⟩) m m, h.push (.row false 1 (bys news))) :=
  iapp_nil (P := Try.prog) (t := 33) (t2 := 33) sl33 ze5 bt5 (by rfl) (by omega) ni33 hx (bys_all news) (by omega) (by omega)
def cat (ls : List (List Nat)) (j : Nat) : List Nat := (ls.take j).flatten
theorem cat_zero (ls : List (List Nat)) : cat ls 0 = [] := rfl
theorem cat_all {ls : List (List Nat)} {n : Nat} (h : ls.length = n) : cat ls n = ls.flatten := by
  unfold cat
  rw [List.take_of_length_le (by omega)]
theorem cat_succ {ls : List (List Nat)} {j : Nat} {l : List Nat} (h : ls[j]? = some l) : cat ls (j + 1) = cat ls j ++ l := by
  unfold cat
  rw [List.take_add_one, h]
  simp
/-- All parts, one behind the other. -/
theorem laid_c {h : IHeap} {p n : Nat} {vs : List Value} {ls : List (List Nat)} (hp : h.get p = some (.row false 1 vs)) (hn' : vs.length = n) (hls : ls.length = n) (hn1 : n ≤ 10) (hv : ∀ j, j < n → ∃ l c i o ro z cs, ls[j]? = some l ∧ vs[j]? = some (.slice (some ⟨i, o, none⟩) l.length c) ∧ h.get i = some (.row ro z cs) ∧ slots cs o l.length = some (bys l) ∧ 1 ≤ l.length ∧ l.length ≤ 10) :
    FN Try.prog 22 #[.slice (some ⟨p, 0, none⟩) n n] h (Q := ⟨fun v h' => ∃ r, (n ≠ 0 → v = .slice (some ⟨r, 0, none⟩) (cat ls n).length (cat ls n).length ∧ h.size ≤ r ∧ h'.get r = some (.row false 1 (bys (cat ls n)))) ∧ h.size ≤ h'.size ∧ ∀ i, i < h.size → h'.get i = h.get i⟩) := by
  refine FN.enter mixed (fn := Try.f22) (by kernel_rfl) rfl (by kernel_rfl) fun e hn hg hd => ?_
  simp [Try.f22] at hn
  have a0 : e.get 0 = .slice (some ⟨p, 0, none⟩) n n := hg 0 (by omega)
  clear hg
  have pz := IHeap.get_lt hp
  simp (maxSteps := 1000000) (disch := first | (simp; done) | (simp only [IHeap.size_push', IHeap.size_set']; omega) | omega) [a0, hn, hd]
  refine WPL.by_inv mixed (by kernel_rfl) (fun y e h' => ∃ j r : Nat, j + y = n ∧ e.n = 16 ∧ e.dfr = [] ∧ e.get 5 = .slice (some ⟨p, 0, none⟩) n n ∧ e.get 6 = .int .i64 n ∧ e.get 7 = .int .i64 j ∧ h.size ≤ h'.size ∧ (∀ i, i < h.size → h'.get i = h.get i) ∧ ((j = 0 ∧ e.get 2 = .slice none 0 0) ∨ (j ≠ 0 ∧ h.size ≤ r ∧ e.get 2 = .slice (some ⟨r, 0, none⟩) (cat ls j).length (cat ls j).length ∧ h'.get r = some (.row false 1 (bys (cat ls j))))) ∧ (cat ls j).length ≤ 10 * j) n ?_ ?_
  · refine ⟨0, 0, ?_⟩
    simp (maxSteps := 1000000) (disch := first | (simp; done) | (simp only [IHeap.size_push', IHeap.size_set']; omega) | omega) [a0, hn, hd]
    rfl
  clear hn hd a0 e
  rintro y e h1 ⟨j, r, hj, hn, hd, e5, e6, e7, z1, o1, st, hlen⟩
  cases y with
  | zero =>
    obtain rfl : j = n := by omega
    rcases st with ⟨h0, e2⟩ | ⟨h0, hr, e2, gr⟩
    · simp (maxSteps := 1000000) (disch := first | (simp; done) | (simp only [IHeap.size_push', IHeap.size_set']; omega) | omega) [e2, e5, e6, e7, hn, hd]
      exact ⟨h0, z1, o1⟩
    · simp (maxSteps := 1000000) (disch := first | (simp; done) | (simp only [IHeap.size_push', IHeap.size_set']; omega) | omega) [e2, e5, e6, e7, hn, hd]
      exact ⟨⟨r, fun _ => ⟨rfl, hr, gr⟩⟩, z1, o1⟩
  | succ y =>
    have hlt : j < n := by omega
    have hlt2 : (j : Int) < n := by omega
    obtain ⟨l, c, i, o, ro, z, cs, v1, v2, v3, v4, v5, v6⟩ := hv j hlt
    have p1 : h1.get p = some (.row false 1 vs) := by rw [o1 p pz]; exact hp
    have i1 : h1.get i = some (.row ro z cs) := by rw [o1 i (IHeap.get_lt v3)]; exact v3
    have v2' : ∀ hh, vs[j]'hh = .slice (some ⟨i, o, none⟩) l.length c := fun hh => by
      have := v2
      rw [List.getElem?_eq_getElem hh] at this
      injection this
    have tk := cat_succ v1
    have tkl : (cat ls (j + 1)).length = (cat ls j).length + l.length := by rw [tk, List.length_append]
    have sr := src33 (c := c) i1 v4 (bys_len l)
    rcases st with ⟨h0, e2⟩ | ⟨h0, hr, e2, gr⟩
    · have ap := app33n sr rfl v5 (by omega)
      subst h0
      simp (maxSteps := 1000000) (disch := first | (simp; done) | (simp only [IHeap.size_push', IHeap.size_set']; omega) | omega) [e2, e5, e6, e7, hn, hd, hlt, hlt2, p1, v2, v2', hn', ap]
      have c0 : cat ls 1 = l := by rw [tk]; rfl
      exact ⟨y, by omega, 1, by omega, rfl, by omega, fun i hi => by rw [IHeap.get_push_ne _ (by omega)]; exact o1 i hi, ⟨by omega, h1.size, z1, ⟨rfl, by rw [c0]⟩, by rw [c0]; exact IHeap.get_pushed _ rfl⟩, by rw [c0]; omega⟩
    · obtain ⟨h2, j2, ap, r2, k2, z2, f2⟩ := app33 (cs := cat ls j) sr rfl gr rfl (by omega)
      simp (maxSteps := 1000000) (disch := first | (simp; done) | (simp only [IHeap.size_push', IHeap.size_set']; omega) | omega) [e2, e5, e6, e7, hn, hd, hlt, hlt2, p1, v2, v2', hn', ap]
      exact ⟨y, by omega, j + 1, by omega, by omega, by omega, fun i hi => by rw [k2 i (by omega) (by omega)]; exact o1 i hi, ⟨by omega, j2, by omega, ⟨rfl, by rw [tkl]⟩, by rw [tk]; exact r2⟩, by omega⟩
end Go.Proofs.Yteokdllmandleaa.Ideal
