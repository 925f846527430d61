import Derived.Test.YtnmbpehficchkaaP44d
noncomputable section
open Go.Proofs
namespace Go.Proofs.Ytnmbpehficchkaa.Ideal
open Go.RowKit
set_option linter.unusedSimpArgs false
set_option linter.unusedVariables false
set_option maxRecDepth 100000
set_option maxHeartbeats 4000000
attribute [-simp] IHeap.size_set IHeap.size_push
attribute [local simp ↓] Hid.ap_mk
attribute [local simp] scopeQ_normal scopeQ_ret scopeQ_exit WP_skip WP_label WP_exit WP_goto WP_ret WP_region WP_seq WP_cond WP_block WP_scope WP_loop WP_range thenQ_normal thenQ_ret thenQ_exit thenQ_goto loopQ_normal loopQ_ret loopQ_exit invQ_normal invQ_ret invQ_exit outOf_normal outOf_ret outOf_goto outOf_exit ev_tmp ev_const ev_func
  wops_nil wops_cons wantedE_none wantedE_some jgd_some wnx_eq niC_false wdo_move wdo_assign wdo_pick wdo_load wdo_store wdo_alloc wdo_box wdo_fieldAddr wdo_indexAddr wdo_field wdo_extract wdo_build wdo_buildSlice wdo_makeSlice wdo_binOp wdo_unOp wdo_makeFunc wdo_nilCheck wdo_callV wdo_len wdo_append wdo_copy wdo_delete wdo_max wdo_min wdo_convert jcvt_int
  xput_get put_n put_none put_dfr ibin finQ_n finQ_r finD_nil splice_one ires_nil ires_one ires_two ires_three ires1_tmp ires1_cell jcell_ptr rowLoad_row wrap64 wrapU64 wrapU8 wrapU16 wrapU32 callV_fn buildOf Instr.fill Value.cells Value.oneCell' kindOf slots_all splice_all IHeap.size_set' IHeap.size_push' IHeap.get_set_same IHeap.get_set_ne IHeap.get_pushed IHeap.get_push_ne IHeap.set_set IHeap.set_push IHeap.set_pushed IHeap.set_set3 getU_nil getU_same getU_ne jif_true jif_false pushH_eq setH_eq forceL_eq forceV_eq ibuildSlice
attribute [local simp] wdo_index jopt_some
theorem u64s_len (l : List Nat) : (u64s l).length = l.length := by simp [u64s]
theorem u64s_all (l : List Nat) : (u64s l).all (·.oneCell') = true := by
  simp only [u64s, List.all_map, List.all_eq_true]
  intro n _
  rfl
theorem u64s_app (l m : List Nat) : u64s (l ++ m) = u64s l ++ u64s m := by simp [u64s]
theorem ni22 : notInt Try.prog 22 = true := by kernel_rfl
theorem hz22 (lo hi : Option Value) (h1 : isZ lo = true) (h2 : isZ hi = true) : pureVal Try.prog (Instr.sliceAt 22 (.slice none 0 0) lo hi none) = some (.slice none 0 0) := by
  unfold isZ at h1 h2
  split at h1 <;> split at h2 <;> first | (cases h1; done) | (cases h2; done) | skip
  · kernel_rfl
  · simp at h2; subst h2; kernel_rfl
  · simp at h1; subst h1; kernel_rfl
  · simp at h1 h2; subst h1; subst h2; kernel_rfl
theorem wdo_cut22 {draw : Bool} {all : Array Oper} {os : List Oper} {e : XEnv} {h : IHeap} (d : Option Tmp) (ty : TypeId) (p : String) (af : Array Edge) (g : Option (Nat × Bool)) [Q : Hid (XEnv → IHeap → Prop)] [E : Hid (List Ent)] (x : Operand) (lo hi : Option Operand) :
    wdo Try.prog draw all ⟨d, .slice 22 x lo hi none, ty, p, af, g⟩ os e h = jopt (cutN Try.prog h 22 (e.ev x) (lo.map e.ev) (hi.map e.ev)) (R := ⟨jgen Try.prog e ⟨d, .slice 22 x lo hi none, ty, p, af, g⟩ h (K := ⟨fun v h' k => wnx Try.prog draw all os e d h v h' k⟩)⟩) (K := ⟨fun v k => wnx Try.prog draw all os e d h v h k⟩) := wdo_cutN d ty p af g 22 hz22 x lo hi
attribute [local simp] wdo_cut22
/-- An append of numbers to a whole row of one's own. -/
theorem app22 {h : IHeap} {i n m : Nat} {x : Value} {cs news : List Nat} (hx : srcOf h 1 x = some (m, u64s news)) (hm : news.length = m) (hg : h.get i = some (.row false 1 (u64s cs))) (hl : cs.length = n) (hsz : n + m ≤ 100000) :
    ∃ h' j, iappend Try.prog h 22 22 (.slice (some ⟨i, 0, none⟩) n n) x = some (.slice (some ⟨j, 0, none⟩) (n + m) (n + m), h') ∧ h'.get j = some (.row false 1 (u64s (cs ++ news))) ∧ (∀ k, k < h.size → k ≠ i → h'.get k = h.get k) ∧ h.size ≤ h'.size ∧ (j = i ∨ h.size ≤ j) := by
  have := iapp_any (P := Try.prog) (t := 22) (t2 := 22) (n := n) sl22 ze25 bt25 (by rfl) (by omega) ni22 hx (u64s_all news) (by rw [u64s_len]; omega) (by omega) hg (by rw [u64s_len]; omega)
  rwa [u64s_app]
theorem src22 {h : IHeap} {b q m c : Nat} {s : List Nat} (hg : h.get b = some (.row false 1 (u64s s))) (hm : q + m ≤ s.length) : srcOf h 1 (.slice (some ⟨b, q, none⟩) m c) = some (m, u64s ((s.drop q).take m)) := by
  by_cases h0 : m = 0
  · subst h0
    simp [srcOf, u64s]
  · refine src_row hg ?_ h0
    unfold slots
    rw [if_pos (by rw [u64s_len]; omega)]
    simp [u64s]
/-- Where it is laid. -/
theorem ins_ok {s : List Nat} {x k : Nat} (hs : s.Pairwise (· ≤ ·)) (hk : k ≤ s.length) (h1 : ∀ j, k ≤ j → (hj : j < s.length) → x < s[j]) (h2 : k = 0 ∨ ∃ hj : k - 1 < s.length, s[k - 1] ≤ x) :
    (s.take k ++ [x] ++ s.drop k).Pairwise (· ≤ ·) ∧ (s.take k ++ [x] ++ s.drop k).Perm (x :: s) := by
  have hp : (s.take k ++ [x] ++ s.drop k).Perm (x :: s) := by
    have : (s.take k ++ [x] ++ s.drop k).Perm (x :: (s.take k ++ s.drop k)) := by
      rw [List.append_assoc]
      exact List.perm_middle
    rwa [List.take_append_drop] at this
  refine ⟨?_, hp⟩
  have a1 : ∀ a ∈ s.take k, a ≤ x := by
    intro a ha
    rcases h2 with rfl | ⟨hj, h2⟩
    · simp at ha
    · obtain ⟨i, hi, rfl⟩ := List.mem_iff_getElem.1 ha
      simp at hi
      rw [List.getElem_take]
      by_cases c : i = k - 1
      · subst c; exact h2
      · have := List.pairwise_iff_getElem.1 hs i (k - 1) (by omega) hj (by omega)
        omega
  have a2 : ∀ b ∈ s.drop k, x ≤ b := by
    intro b hb
    obtain ⟨i, hi, rfl⟩ := List.mem_iff_getElem.1 hb
    simp at hi
    rw [List.getElem_drop]
    exact Nat.le_of_lt (h1 (k + i) (by omega) (by omega))
  rw [List.append_assoc, List.pairwise_append]
  refine ⟨hs.sublist (List.take_sublist k s), ?_, fun a ha b hb => ?_⟩
  · rw [List.singleton_append, List.pairwise_cons]
    exact ⟨a2, hs.sublist (List.drop_sublist k s)⟩
  · simp at hb
    rcases hb with rfl | hb
    · exact a1 a ha
    · exact Nat.le_trans (a1 a ha) (a2 b hb)
/-- The row of numbers so far. -/
def OutIs (h0 h : IHeap) (v : Value) (s : List Nat) : Prop := (s = [] ∧ v = .slice none 0 0) ∨ (s ≠ [] ∧ ∃ i, h0.size ≤ i ∧ v = .slice (some ⟨i, 0, none⟩) s.length s.length ∧ h.get i = some (.row false 1 (u64s s)))
theorem sorted_c {h : IHeap} {A : Option Addr} {l : List Nat} {cap : Nat} (hb : RowsAt h A (u64s l)) (hl : l.length ≤ 1000) (hbs : ∀ n ∈ l, n < 2 ^ 64) :
    FN Try.prog 58 #[.slice A l.length cap] h (Q := ⟨fun v h' => h.size ≤ h'.size ∧ (∀ i, i < h.size → h'.get i = h.get i) ∧ ∃ s : List Nat, s.Perm l ∧ s.Pairwise (· ≤ ·) ∧ OutIs h h' v s⟩) := by
  refine FN.enter mixed (fn := Try.f58) (by kernel_rfl) rfl (by kernel_rfl) fun e hn hg hd => ?_
  simp [Try.f58] at hn
  have a0 : e.get 0 = .slice A l.length cap := hg 0 (by omega)
  clear hg
  simp (maxSteps := 1000000) (disch := first | (simp; done) | (simp only [IHeap.size_push', IHeap.size_set']; omega) | omega) [a0, hn, hd]
  refine WPL.by_inv mixed (by kernel_rfl) (fun k e h' => ∃ (j : Nat) (s : List Nat), j + k = l.length ∧ h.size ≤ h'.size ∧ (∀ i, i < h.size → h'.get i = h.get i) ∧ e.n = 49 ∧ e.dfr = [] ∧ e.get 0 = .slice A l.length cap ∧ e.get 4 = .int .i64 j ∧ s.Perm (l.take j) ∧ s.Pairwise (· ≤ ·) ∧ OutIs h h' (e.get 3) s) l.length ?_ ?_
  · refine ⟨0, [], ?_⟩
    simp (maxSteps := 1000000) (disch := first | (simp; done) | (simp only [IHeap.size_push', IHeap.size_set']; omega) | omega) [a0, hn, hd]
    exact .inl ⟨rfl, rfl⟩
  clear hn hd a0 e
  rintro k e h1 ⟨j, s, hj, hz, hold, hn, hd, a0, a4, hp, hs, ho⟩
  cases k with
  | zero =>
    obtain rfl : j = l.length := by omega
    rw [List.take_length] at hp
    simp (maxSteps := 1000000) (disch := first | (simp; done) | (simp only [IHeap.size_push', IHeap.size_set']; omega) | omega) [a0, a4, hn, hd]
    exact ⟨hz, hold, s, hp, hs, ho⟩
  | succ k =>
    have hlt : j < l.length := by omega
    have hlt2 : (j : Int) < l.length := by omega
    obtain ⟨i, o, ro, esz, cs, rfl, hrow, hcs⟩ := hb.at (j := j) (by simpa [u64s] using hlt)
    have hiz := IHeap.get_lt hrow
    have g1 := hcs j (.int .u64 l[j]) (by simp [u64s, hlt])
    have g2 : h1.get i = some (.row ro esz cs) := by rw [hold i hiz]; exact hrow
    have hsl : s.length = j := by rw [hp.length_eq]; simp; omega
    have hpt : ((l.take j) ++ [l[j]]).Perm (l.take (j + 1)) := by rw [List.take_succ_eq_append_getElem hlt]
    obtain ⟨x, hx⟩ : ∃ x, l[j] = x := ⟨_, rfl⟩
    rw [hx] at g1 hpt
    have hxb : x < 2 ^ 64 := by rw [← hx]; exact hbs _ (List.getElem_mem hlt)
    rcases ho with ⟨rfl, h3⟩ | ⟨hne, b, hbz, h3, hrb⟩
    · obtain rfl : j = 0 := by simpa using hsl.symm
      simp (maxSteps := 1000000) (disch := first | (simp; done) | (simp only [IHeap.size_push', IHeap.size_set']; omega) | omega) [a0, a4, h3, hn, hd, hlt, hlt2]
      refine WPL.unroll mixed (by kernel_rfl) ?_
      have e5 : h1.size ≠ i := by omega
      obtain ⟨h2, j2, ap1, r2, k2, z2, f2⟩ := app22 (h := h1.push (.row false 1 [])) (i := h1.size) (n := 0) (m := 0) (cs := []) (news := []) (x := .slice none 0 0) src_none rfl (IHeap.get_pushed _ rfl) rfl (by omega)
      simp only [IHeap.size_push', Nat.add_zero, List.append_nil] at ap1 r2 k2 z2 f2
      obtain ⟨h3', j3, ap2, r3, k3, z3, f3⟩ := app22 (h := h2.push (.row false 1 [.int .u64 x])) (i := j2) (n := 0) (m := 1) (cs := []) (news := [x]) (x := .slice (some ⟨h2.size, 0, none⟩) 1 1) (src_row (IHeap.get_pushed _ rfl) (slots_full _ rfl) (by omega)) rfl (by rw [IHeap.get_push_ne _ (by have := IHeap.get_lt r2; omega)]; exact r2) rfl (by omega)
      simp only [IHeap.size_push', Nat.zero_add, List.nil_append] at ap2 r3 k3 z3 f3
      obtain ⟨h4, j4, ap3, r4, k4, z4, f4⟩ := app22 (h := h3') (i := j3) (n := 1) (m := 0) (cs := [x]) (news := []) (x := .slice none 0 0) src_none rfl r3 rfl (by omega)
      simp only [Nat.add_zero, List.append_nil] at ap3 r4 k4 z4 f4
      have g3 : h2.get i = some (.row ro esz cs) := by
        rw [k2 i (by omega) (by omega), IHeap.get_push_ne _ (by omega)]; exact g2
      rw [Nat.add_zero] at g1
      simp (maxSteps := 1000000) (disch := first | (simp; done) | (simp only [IHeap.size_push', IHeap.size_set']; omega) | omega) [a0, a4, h3, hn, hd, hlt, hlt2, undef, cutN, isZ, zeros, ap1, ap2, ap3, g1, g3]
      refine ⟨niC_of (by kernel_rfl), k, by omega, 1, by omega, by omega, fun i hi => ?_, by omega, [x], ?_, by simp, .inr ⟨by simp, j4, ?_, rfl, r4⟩⟩
      · rw [k4 i (by omega) (by omega), k3 i (by omega) (by omega), IHeap.get_push_ne _ (by omega), k2 i (by omega) (by omega), IHeap.get_push_ne _ (by omega)]
        exact hold i hi
      · simpa using hpt
      · omega
    · simp (maxSteps := 1000000) (disch := first | (simp; done) | (simp only [IHeap.size_push', IHeap.size_set']; omega) | omega) [a0, a4, h3, hn, hd, hlt, hlt2]
      refine WPL.by_inv mixed (by kernel_rfl) (fun m e h' => m ≤ s.length ∧ h' = h1 ∧ e.n = 49 ∧ e.dfr = [] ∧ e.get 0 = .slice (some ⟨i, o, none⟩) l.length cap ∧ e.get 4 = .int .i64 j ∧ e.get 3 = .slice (some ⟨b, 0, none⟩) s.length s.length ∧ e.get 5 = .int .i64 m ∧ ∀ j', m ≤ j' → (hj : j' < s.length) → x < s[j']) s.length ?_ ?_
      · simp (maxSteps := 1000000) (disch := first | (simp; done) | (simp only [IHeap.size_push', IHeap.size_set']; omega) | omega) [a0, a4, h3, hn, hd]
        intro j' h1 h2
        omega
      clear hn hd a0 a4 h3 e
      rintro m e h2' ⟨hm, rfl, hn, hd, a0, a4, a3, a5, hgt⟩
      have hbz2 := IHeap.get_lt hrb
      by_cases c : ∃ m', m = m' + 1 ∧ ∃ hm' : m' < s.length, x < s[m']
      · obtain ⟨m', rfl, hm', hc⟩ := c
        have c1 : (0 : Int) < (m' : Int) + 1 := by omega
        have c2 : (x : Int) < s[m'] := by omega
        have gs : (u64s s)[m']? = some (.int .u64 s[m']) := by simp [u64s, hm']
        have c3 : (m' : Int) < s.length := by omega
        simp (maxSteps := 1000000) (disch := first | (simp; done) | (simp only [IHeap.size_push', IHeap.size_set']; omega) | omega) [a0, a4, a3, a5, hn, hd, hlt, hlt2, g1, g2, hrb, gs, c1, c2, c3]
        refine ⟨niC_of (by kernel_rfl), m', by omega, by omega, rfl, fun j' h1 h2 => ?_⟩
        by_cases he : j' = m'
        · subst he; exact hc
        · exact hgt j' (by omega) h2
      · have hpos : m = 0 ∨ ∃ hj : m - 1 < s.length, s[m - 1] ≤ x := by
          rcases Nat.eq_zero_or_pos m with h0 | h0
          · exact .inl h0
          · refine .inr ⟨by omega, ?_⟩
            rcases Nat.lt_or_ge x (s[m - 1]'(by omega)) with h1 | h1
            · exact absurd ⟨m - 1, by omega, by omega, h1⟩ c
            · exact h1
        obtain ⟨pw, pm⟩ := ins_ok hs hm hgt hpos
        have e5 : h2'.size ≠ i := by omega
        have e6 : h2'.size ≠ b := by omega
        have hb1 : (h2'.push (.row false 1 [])).get b = some (.row false 1 (u64s s)) := by rw [IHeap.get_push_ne _ (by omega)]; exact hrb
        have isl1 := islice_eq (P := Try.prog) (h := h2'.push (.row false 1 [])) (t := 22) sl22 hb1 (.inr rfl) (q := 0) (bounds_hi (n := s.length) (c := s.length) (u := m) (k := .i64) hm)
        simp only [Nat.zero_mul, Nat.zero_add, Nat.sub_zero, Nat.mul_one] at isl1
        obtain ⟨h2, j2, ap1, r2, k2, z2, f2⟩ := app22 (h := h2'.push (.row false 1 [])) (i := h2'.size) (n := 0) (m := m) (cs := []) (news := s.take m) (x := .slice (some ⟨b, 0, none⟩) m s.length) (src22 hb1 (by omega)) (by simp; omega) (IHeap.get_pushed _ rfl) rfl (by omega)
        simp only [IHeap.size_push', Nat.zero_add, List.nil_append] at ap1 r2 k2 z2 f2
        have hj2 := IHeap.get_lt r2
        obtain ⟨h3', j3, ap2, r3, k3, z3, f3⟩ := app22 (h := h2.push (.row false 1 [.int .u64 x])) (i := j2) (n := m) (m := 1) (cs := s.take m) (news := [x]) (x := .slice (some ⟨h2.size, 0, none⟩) 1 1) (src_row (IHeap.get_pushed _ rfl) (slots_full _ rfl) (by omega)) rfl (by rw [IHeap.get_push_ne _ (by omega)]; exact r2) (by simp; omega) (by omega)
        simp only [IHeap.size_push'] at ap2 r3 k3 z3 f3
        have b2 : h2.get b = some (.row false 1 (u64s s)) := by rw [k2 b (by omega) (by omega)]; exact hb1
        have b3 : h3'.get b = some (.row false 1 (u64s s)) := by rw [k3 b (by omega) (by omega), IHeap.get_push_ne _ (by omega)]; exact b2
        have isl3 := islice_eq (P := Try.prog) (h := h3') (t := 22) sl22 b3 (.inr rfl) (q := 0) (bounds_lo (n := s.length) (c := s.length) (l := m) (k := .i64) hm (Nat.le_refl _))
        simp only [Nat.zero_add, Nat.mul_one] at isl3
        obtain ⟨h4, j4, ap3, r4, k4, z4, f4⟩ := app22 (h := h3') (i := j3) (n := m + 1) (m := s.length - m) (cs := s.take m ++ [x]) (news := s.drop m) (x := .slice (some ⟨b, m, none⟩) (s.length - m) (s.length - m)) (by
          have := src22 (c := s.length - m) (m := s.length - m) (q := m) b3 (by omega)
          rwa [List.take_of_length_le (by simp)] at this) (by simp) r3 (by simp; omega) (by omega)
        have e7 : m + 1 + (s.length - m) = s.length + 1 := by omega
        rw [e7] at ap3
        have g3 : h2.get i = some (.row ro esz cs) := by
          rw [k2 i (by omega) (by omega), IHeap.get_push_ne _ (by omega)]; exact g2
        have tail : ∀ i, i < h.size → h4.get i = h.get i := fun i hi => by
          rw [k4 i (by omega) (by omega), k3 i (by omega) (by omega), IHeap.get_push_ne _ (by omega), k2 i (by omega) (by omega), IHeap.get_push_ne _ (by omega)]
          exact hold i hi
        have hlen : (s.take m ++ [x] ++ s.drop m).length = s.length + 1 := by rw [pm.length_eq]; rfl
        by_cases c0 : m = 0
        · subst c0
          rw [show ((0 : Nat) : Int) = 0 from rfl] at isl1 isl3 a5
          simp only [Nat.zero_add, Nat.sub_zero] at ap1 ap2 ap3 isl1 isl3
          simp (maxSteps := 1000000) (disch := first | (simp; done) | (simp only [IHeap.size_push', IHeap.size_set']; omega) | omega) [a0, a4, a3, a5, hn, hd, hlt, hlt2, undef, cutN, cutV, kindOf, isl1, isl3, zeros, ap1, ap2, ap3, g1, g3]
          refine ⟨niC_of (by kernel_rfl), k, by omega, j + 1, by omega, by omega, tail, by omega, _, pm.trans ?_, pw, .inr ⟨by simp, j4, by omega, ?_, r4⟩⟩
          · exact ((List.Perm.cons x hp).trans (List.perm_append_singleton x _).symm).trans hpt
          · rw [hlen]
        · obtain ⟨hm1, hle⟩ := hpos.resolve_left c0
          have gs : (u64s s)[m - 1]? = some (.int .u64 (s[m - 1] : Nat)) := by simp [u64s, hm1]
          have c6 : 0 < m := by omega
          have c1 : (0 : Int) < m := by omega
          have c2 : ¬ (x : Int) < s[m - 1] := by omega
          have c3 : (1 : Int) ≤ m := by omega
          have c4 : (m : Int) - 1 < s.length := by omega
          have c5 : ((m : Int) - 1).toNat = m - 1 := by omega
          simp (maxSteps := 1000000) (disch := first | (simp; done) | (simp only [IHeap.size_push', IHeap.size_set']; omega) | omega) [a0, a4, a3, a5, hn, hd, hlt, hlt2, undef, cutN, cutV, kindOf, isl1, isl3, zeros, ap1, ap2, ap3, g1, g2, g3, hrb, gs, c1, c2, c3, c4, c5, c6]
          refine ⟨niC_of (by kernel_rfl), k, by omega, j + 1, by omega, by omega, tail, by omega, _, pm.trans ?_, pw, .inr ⟨by simp, j4, by omega, ?_, r4⟩⟩
          · exact ((List.Perm.cons x hp).trans (List.perm_append_singleton x _).symm).trans hpt
          · rw [hlen]
end Go.Proofs.Ytnmbpehficchkaa.Ideal
