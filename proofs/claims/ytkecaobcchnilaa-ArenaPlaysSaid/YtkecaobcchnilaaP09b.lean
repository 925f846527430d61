import Derived.Test.YtkecaobcchnilaaP09a
noncomputable section
open Go.Proofs
namespace Go.Proofs.Ytkecaobcchnilaa.Ideal
set_option linter.unusedSimpArgs false
set_option linter.unusedVariables false
set_option linter.unusedSectionVars false
set_option linter.unnecessarySimpa false
set_option maxRecDepth 100000
set_option maxHeartbeats 2000000
attribute [-simp] IHeap.size_set IHeap.size_push
attribute [local simp ↓] Hid.ap_mk
attribute [local simp] scopeQ_normal scopeQ_ret scopeQ_exit WP_skip WP_label WP_exit WP_goto WP_ret WP_region WP_seq WP_cond WP_block WP_scope WP_loop WP_range thenQ_normal thenQ_ret thenQ_exit thenQ_goto loopQ_normal loopQ_ret loopQ_exit invQ_normal invQ_ret invQ_exit outOf_normal outOf_ret outOf_goto outOf_exit ev_tmp ev_const ev_func
  wops_nil wops_cons wantedE_none wantedE_some jgd_some wnx_eq niC_false wdo_move wdo_assign wdo_pick wdo_load wdo_store wdo_alloc wdo_box wdo_fieldAddr wdo_indexAddr wdo_field wdo_extract wdo_build wdo_buildSlice wdo_makeSlice wdo_binOp wdo_unOp wdo_makeFunc wdo_nilCheck wdo_callV wdo_len wdo_append wdo_copy wdo_delete wdo_max wdo_min wdo_convert jcvt_int
  xput_get put_n put_none put_dfr ibin finQ_n finQ_r finD_nil splice_one ires_nil ires_one ires_two ires_three ires1_tmp ires1_cell jcell_ptr rowLoad_row wrap64 wrapU64 wrapU8 wrapU16 wrapU32 callV_fn buildOf Instr.fill Value.cells Value.oneCell' kindOf slots_all splice_all IHeap.size_set' IHeap.size_push' IHeap.get_set_same IHeap.get_set_ne IHeap.get_pushed IHeap.get_push_ne IHeap.set_set IHeap.set_push IHeap.set_pushed IHeap.set_set3 getU_nil getU_same getU_ne jif_true jif_false pushH_eq setH_eq forceL_eq forceV_eq ibuildSlice
attribute [-simp] Value.oneCell'
/-- An arena behind a Take; the answer. -/
def AR.take (a : AR) : AR × Option Int :=
  if 0 ≤ a.free then ({ a with cs := a.cs.set a.free.toNat (a.ser + 1, 0), free := (a.cs.getD a.free.toNat (0, 0)).2, ser := a.ser + 1, live := a.live + 1 }, some a.free)
  else if (a.cs.length : Int) = a.size then (a, none)
  else ({ a with cs := a.cs ++ [(a.ser + 1, 0)], ser := a.ser + 1, live := a.live + 1 }, some a.cs.length)
def AR.takeV (a : AR) : Value := match a.take.2 with
  | some i => .tuple #[.agg #[.int .i64 i, .int .u64 (a.ser + 1)], .int .i64 0]
  | none => .tuple #[.agg #[.int .i64 0, .int .u64 0], .int .i64 9]
/-- Memory that is neither the arena's nor its cells' stays. -/
structure Keeps (h h' : IHeap) (p q : Nat) : Prop where
  size : h.size ≤ h'.size
  get : ∀ i, i < h.size → i ≠ p → i ≠ q → h'.get i = h.get i
theorem zerosC (a b : Value) : zeros #[a, b] 1 = [a, b] := by simp [zeros]
theorem ze61c : ∀ x, zeros x 1 = x.toList := fun x => by simp [zeros]
theorem slots_flat (l : List (Int × Int)) (n : Nat) (h : n = l.length * 2) : slots (flat l) 0 n = some (flat l) := by
  rw [h, ← flat_len]; simp [slots]
theorem app51 {h : IHeap} {i j n c : Nat} {l : List (Int × Int)} {x : Int × Int} {ro : Bool} {esz : Nat} (hi : h.get i = some (.row false 2 (flat l))) (hn : n = l.length) (hcc : c = l.length) (hj : h.get j = some (.row ro esz (flat [x]))) (hl : l.length < 100000) :
    iappend Try.prog h 51 51 (.slice (some ⟨i, 0, none⟩) n c) (.slice (some ⟨j, 0, none⟩) 1 1) = some (.slice (some ⟨h.size, 0, none⟩) (n + 1) (n + 1), (h.set i .dead).push (.row false 2 (flat (l ++ [x])))) := by
  subst hn; subst hcc
  have h1 : ¬ l.length + 1 ≤ l.length := by omega
  have h2 : (l.length + 1) * 16 ≤ 140737488355328 ∧ l.length + 1 ≤ 4611686018427387904 := by omega
  have h3 := slots_flat l (l.length * 2) rfl
  have h4 := flat_all [x]
  have h5 := slots_flat [x] 2 rfl
  simp [-Value.oneCell', iappend, asrcOf, srcOf, ni51, hj, hi, h4, h5, h1, h2, h3, flat_app]
theorem app51n {h : IHeap} {j : Nat} {x : Int × Int} {ro : Bool} {esz : Nat} (hj : h.get j = some (.row ro esz (flat [x]))) :
    iappend Try.prog h 51 51 (.slice none 0 0) (.slice (some ⟨j, 0, none⟩) 1 1) = some (.slice (some ⟨h.size, 0, none⟩) 1 1, h.push (.row false 2 (flat [x]))) := by
  have h4 := flat_all [x]
  have h5 := slots_flat [x] 2 rfl
  simp [-Value.oneCell', iappend, asrcOf, srcOf, ni51, hj, h4, h5]
theorem take_c {h : IHeap} {p q : Nat} {a : AR} (ok : a.ok) (x : a.at h p q) : FN Try.prog 8 #[.pointer (some ⟨p, 0, none⟩)] h (Q := ⟨fun v h' => v = a.takeV ∧ ∃ q', (q' = q ∨ h.size ≤ q') ∧ a.take.1.at h' p q' ∧ Keeps h h' p q⟩) := by
  refine FN.enter mixed (fn := Try.f8) (by kernel_rfl) rfl (by kernel_rfl) fun e hn hg hd => ?_
  simp [Try.f8] at hn
  have a0 : e.get 0 = .pointer (some ⟨p, 0, none⟩) := hg 0 (by omega)
  clear hg
  have hp := x.gp
  have hpz := IHeap.get_lt hp
  have x2 : a.at (h.push (.row false 0 [.int .i64 0, .int .u64 0])) p q := by
    refine ⟨by simp (maxSteps := 1000000) (disch := first | (simp; done) | (simp only [IHeap.size_push', IHeap.size_set']; omega) | omega) [hp], fun hc => ?_⟩
    obtain ⟨g1, g2⟩ := x.gq hc
    have := IHeap.get_lt g1
    exact ⟨by simp (maxSteps := 1000000) (disch := first | (simp; done) | (simp only [IHeap.size_push', IHeap.size_set']; omega) | omega) [g1], g2⟩
  have hlen := ok.len
  have hsz := ok.size
  have hser := ok.ser
  have hlive := ok.live
  have hfree := ok.free
  simp (maxSteps := 1000000) (disch := first | (simp; done) | (simp only [IHeap.size_push', IHeap.size_set']; omega) | omega) [a0, hn, hd]
  refine FN.of (none_c ok x2) ?_
  by_cases h1 : 0 ≤ a.free
  · obtain ⟨k, hk⟩ : ∃ k : Nat, a.free = k := ⟨a.free.toNat, by omega⟩
    have hkl : k < a.cs.length := by omega
    have hc : a.cs ≠ [] := fun h => by rw [h] at hkl; simp at hkl
    obtain ⟨hq, hqp⟩ := x.gq hc
    have hqz := IHeap.get_lt hq
    have h3 : (k : Int) < a.cs.length := by omega
    have h5 := flat_get1 (List.getElem?_eq_getElem hkl)
    have h5b : ∀ hh : k * 2 + 1 < (flat a.cs).length, (flat a.cs)[k * 2 + 1]'hh = .int .i64 a.cs[k].2 := fun hh => by
      have := h5
      rw [List.getElem?_eq_getElem hh] at this
      exact Option.some.inj this
    have h6 : k * 2 + 2 ≤ (flat a.cs).length := by rw [flat_len]; omega
    simp (maxSteps := 1000000) (disch := first | (simp; done) | (simp only [IHeap.size_push', IHeap.size_set']; omega) | omega) [a0, hn, hd, hp, AR.row, AR.slc, hk, hc, h3, h5, h5b, hq, wrap64, wrapU64, one_int, h6, flat_set, hkl, hqp, Ne.symm hqp]
    have e1 : a.take = ({ a with cs := a.cs.set k (a.ser + 1, 0), free := a.cs[k].2, ser := a.ser + 1, live := a.live + 1 }, some a.free) := by
      simp [AR.take, hk, hkl]
    have e2 : a.cs.set k (a.ser + 1, 0) ≠ [] := by
      intro h
      have := congrArg List.length h
      simp at this
      exact hc this
    refine ⟨niC_of (by kernel_rfl), by simp [AR.takeV, e1, hk], .inl ⟨⟨?_, fun _ => ⟨?_, hqp⟩⟩, ⟨?_, fun i hi hip hiq => ?_⟩⟩⟩
    · rw [e1]; simp (maxSteps := 1000000) (disch := first | (simp; done) | (simp only [IHeap.size_push', IHeap.size_set']; omega) | omega) [AR.row, AR.slc, e2, hqp, Ne.symm hqp]
    · rw [e1]; simp (maxSteps := 1000000) (disch := first | (simp; done) | (simp only [IHeap.size_push', IHeap.size_set']; omega) | omega) []
    · simp (maxSteps := 1000000) (disch := first | (simp; done) | (simp only [IHeap.size_push', IHeap.size_set']; omega) | omega) []
    · simp (maxSteps := 1000000) (disch := first | (simp; done) | (simp only [IHeap.size_push', IHeap.size_set']; omega) | omega) [hip, hiq, Ne.symm hip, Ne.symm hiq]
  · by_cases h2 : (a.cs.length : Int) = a.size
    · have hc : a.cs ≠ [] := fun h => by rw [h] at h2; simp at h2; omega
      have e1 : a.take = (a, none) := by simp [AR.take, h1, h2]
      simp (maxSteps := 1000000) (disch := first | (simp; done) | (simp only [IHeap.size_push', IHeap.size_set']; omega) | omega) [a0, hn, hd, hp, AR.row, AR.slc, h1, h2, hc, one_int]
      refine ⟨niC_of (by kernel_rfl), by simp [AR.takeV, e1], ?_⟩
      rw [e1]
      refine .inl ⟨x2, ⟨by simp (maxSteps := 1000000) (disch := first | (simp; done) | (simp only [IHeap.size_push', IHeap.size_set']; omega) | omega) [], fun i hi hip hiq => by simp (maxSteps := 1000000) (disch := first | (simp; done) | (simp only [IHeap.size_push', IHeap.size_set']; omega) | omega) []⟩⟩
    · by_cases hc : a.cs = []
      · have h3 : ¬ 0 = a.size := by omega
        simp (maxSteps := 1000000) (disch := first | (simp; done) | (simp only [IHeap.size_push', IHeap.size_set']; omega) | omega) [a0, hn, hd, hp, AR.row, AR.slc, h1, h2, h3, hc, zerosC]
        refine ⟨niC_of (by kernel_rfl), ?_⟩
        rw [app51n (x := (0, 0)) (ro := false) (esz := 2) (by simp (maxSteps := 1000000) (disch := first | (simp; done) | (simp only [IHeap.size_push', IHeap.size_set']; omega) | omega) [flat])]
        simp (maxSteps := 1000000) (disch := first | (simp; done) | (simp only [IHeap.size_push', IHeap.size_set']; omega) | omega) [a0, hn, hd, hp, AR.row, AR.slc, h1, h2, h3, hc, wrap64, wrapU64, one_int, one_slc, flat]
        have e1 : a.take = ({ a with cs := [(a.ser + 1, 0)], ser := a.ser + 1, live := a.live + 1 }, some 0) := by
          simp [AR.take, h1, h2, hc, h3]
        refine ⟨niC_of (by kernel_rfl), by simp [AR.takeV, e1], .inr ⟨h.size + 1 + 1, by omega, ⟨?_, fun _ => ⟨?_, by omega⟩⟩, ⟨?_, fun i hi hip hiq => ?_⟩⟩⟩
        · rw [e1]; simp (maxSteps := 1000000) (disch := first | (simp; done) | (simp only [IHeap.size_push', IHeap.size_set']; omega) | omega) [AR.row, AR.slc]
        · rw [e1]; simp (maxSteps := 1000000) (disch := first | (simp; done) | (simp only [IHeap.size_push', IHeap.size_set']; omega) | omega) [flat]
        · simp (maxSteps := 1000000) (disch := first | (simp; done) | (simp only [IHeap.size_push', IHeap.size_set']; omega) | omega) []
          omega
        · simp (maxSteps := 1000000) (disch := first | (simp; done) | (simp only [IHeap.size_push', IHeap.size_set']; omega) | omega) [hip, hiq, Ne.symm hip, Ne.symm hiq]
      · obtain ⟨hq, hqp⟩ := x.gq hc
        have hqz := IHeap.get_lt hq
        simp (maxSteps := 1000000) (disch := first | (simp; done) | (simp only [IHeap.size_push', IHeap.size_set']; omega) | omega) [a0, hn, hd, hp, AR.row, AR.slc, h1, h2, hc, zerosC]
        refine ⟨niC_of (by kernel_rfl), ?_⟩
        rw [app51 (l := a.cs) (x := (0, 0)) (ro := false) (esz := 2) (by simp (maxSteps := 1000000) (disch := first | (simp; done) | (simp only [IHeap.size_push', IHeap.size_set']; omega) | omega) [hq]) rfl rfl (by simp (maxSteps := 1000000) (disch := first | (simp; done) | (simp only [IHeap.size_push', IHeap.size_set']; omega) | omega) [flat]) (by omega)]
        have h6 : a.cs.length * 2 + 2 ≤ (flat (a.cs ++ [(0, 0)])).length := by rw [flat_len]; simp; omega
        have h7 : ∀ x y : Int, (a.cs ++ [(0, 0)]).set a.cs.length (x, y) = a.cs ++ [(x, y)] := fun x y => by simp
        have h8 : (a.cs.length : Int) < (a.cs.length : Int) + 1 := by omega
        have h9 : a.cs.length < (a.cs ++ [((0 : Int), (0 : Int))]).length := by simp
        have h10 := fun s n => flat_set (s := s) (n := n) h9
        simp (maxSteps := 1000000) (disch := first | (simp; done) | (simp only [IHeap.size_push', IHeap.size_set']; omega) | omega) [a0, hn, hd, hp, AR.row, AR.slc, h1, h2, hc, wrap64, wrapU64, one_int, one_slc, hqp, Ne.symm hqp, h6, h7, h8, h10]
        have e1 : a.take = ({ a with cs := a.cs ++ [(a.ser + 1, 0)], ser := a.ser + 1, live := a.live + 1 }, some (a.cs.length : Int)) := by
          simp [AR.take, h1, h2, hc]
        refine ⟨niC_of (by kernel_rfl), by simp [AR.takeV, e1], .inr ⟨h.size + 1 + 1, by omega, ⟨?_, fun _ => ⟨?_, by omega⟩⟩, ⟨?_, fun i hi hip hiq => ?_⟩⟩⟩
        · rw [e1]; simp (maxSteps := 1000000) (disch := first | (simp; done) | (simp only [IHeap.size_push', IHeap.size_set']; omega) | omega) [AR.row, AR.slc]
        · rw [e1]; simp (maxSteps := 1000000) (disch := first | (simp; done) | (simp only [IHeap.size_push', IHeap.size_set']; omega) | omega) [flat]
        · simp (maxSteps := 1000000) (disch := first | (simp; done) | (simp only [IHeap.size_push', IHeap.size_set']; omega) | omega) []
          omega
        · simp (maxSteps := 1000000) (disch := first | (simp; done) | (simp only [IHeap.size_push', IHeap.size_set']; omega) | omega) [hip, hiq, Ne.symm hip, Ne.symm hiq]
end Go.Proofs.Ytkecaobcchnilaa.Ideal
