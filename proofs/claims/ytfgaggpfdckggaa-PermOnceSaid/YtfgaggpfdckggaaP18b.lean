import Derived.Test.YtfgaggpfdckggaaP18a
noncomputable section
open Go.Proofs
namespace Go.Proofs.Ytfgaggpfdckggaa.Ideal
open Go.RowKit
set_option linter.unusedSimpArgs false
set_option linter.unusedVariables false
set_option linter.unusedSectionVars false
set_option linter.unnecessarySimpa false
set_option maxRecDepth 100000
set_option maxHeartbeats 2000000
attribute [-simp] IHeap.size_set IHeap.size_push
attribute [local simp ↓] Hid.ap_mk
attribute [local simp] scopeQ_normal scopeQ_ret scopeQ_exit WP_skip WP_label WP_exit WP_goto WP_ret WP_region WP_seq WP_cond WP_block WP_scope WP_loop WP_range thenQ_normal thenQ_ret thenQ_exit thenQ_goto loopQ_normal loopQ_ret loopQ_exit invQ_normal invQ_ret invQ_exit outOf_normal outOf_ret outOf_goto outOf_exit ev_tmp ev_const ev_func
  wops_nil wops_cons wantedE_none wantedE_some jgd_some wnx_eq niC_false wdo_move wdo_assign wdo_pick wdo_load wdo_store wdo_alloc wdo_box wdo_fieldAddr wdo_indexAddr wdo_field wdo_extract wdo_build wdo_buildSlice wdo_makeSlice wdo_binOp wdo_unOp wdo_makeFunc wdo_nilCheck wdo_callV wdo_len wdo_append wdo_copy wdo_delete wdo_max wdo_min wdo_convert jcvt_int
  xput_get put_n put_none put_dfr ibin finQ_n finQ_r finD_nil splice_one ires_nil ires_one ires_two ires_three ires1_tmp ires1_cell jcell_ptr rowLoad_row wrap64 wrapU64 wrapU8 wrapU16 wrapU32 callV_fn buildOf Instr.fill Value.cells Value.oneCell' kindOf slots_all splice_all IHeap.size_set' IHeap.size_push' IHeap.get_set_same IHeap.get_set_ne IHeap.get_pushed IHeap.get_push_ne IHeap.set_set IHeap.set_push IHeap.set_pushed IHeap.set_set3 getU_nil getU_same getU_ne jif_true jif_false pushH_eq setH_eq forceL_eq forceV_eq ibuildSlice
attribute [-simp] Value.oneCell'
def ints (l : List Int) : List Value := l.map (.int .i64 ·)
theorem ints_len (l : List Int) : (ints l).length = l.length := by simp [ints]
def seqL (o s m : Int) (n : Nat) : List Int := (List.range n).map (sq o s m)
theorem seqL_len (o s m : Int) (n : Nat) : (seqL o s m n).length = n := by simp [seqL]
theorem seqL_succ (o s m : Int) (n : Nat) : seqL o s m (n + 1) = seqL o s m n ++ [sq o s m n] := by simp [seqL, List.range_succ]
theorem seqL_get (o s m : Int) {n k : Nat} (h : k < n) : (seqL o s m n)[k]? = some (sq o s m k) := by simp [seqL, h]
theorem sq_succ (o s m : Int) (k : Nat) : (sq o s m k + s) % m = sq o s m (k + 1) := by
  unfold sq
  rw [Int.emod_add_emod]
  congr 1
  push_cast
  rw [Int.add_mul, Int.one_mul, Int.add_assoc]
def rowS (o s m : Int) (M i : Nat) : List Value := ints (seqL o s m i ++ List.replicate (M - i) 0)
theorem rowS_len (o s m : Int) {M i : Nat} (h : i ≤ M) : (rowS o s m M i).length = M := by simp [rowS, ints_len, seqL_len]; omega
theorem rowS_zero (o s m : Int) (M : Nat) : List.replicate M (Value.int .i64 0) = rowS o s m M 0 := by simp [rowS, ints, seqL]
theorem rowS_full (o s m : Int) (M : Nat) : rowS o s m M M = ints (seqL o s m M) := by simp [rowS]
theorem rowS_set (o s m : Int) {M i : Nat} (h : i < M) : (rowS o s m M i).set i (.int .i64 (sq o s m i)) = rowS o s m M (i + 1) := by
  unfold rowS ints
  rw [← List.map_set]
  congr 1
  rw [List.set_append_right _ _ (by rw [seqL_len]; exact Nat.le_refl _), seqL_len, Nat.sub_self, seqL_succ, List.append_assoc]
  congr 1
  obtain ⟨k, hk⟩ : ∃ k, M - i = k + 1 := ⟨M - i - 1, by omega⟩
  rw [hk, show M - (i + 1) = k by omega]
  rfl
theorem rowS_splice (o s m : Int) {M i : Nat} (h : i < M) : splice (rowS o s m M i) i [.int .i64 (sq o s m i)] = rowS o s m M (i + 1) := by
  rw [splice_one _ (by rw [rowS_len o s m (by omega)]; exact h), rowS_set o s m h]
theorem zeros_one (v : Value) : ∀ n, zeros #[v] n = List.replicate n v := fun n => by simp [zeros]
theorem mk_ints {h : IHeap} (n : Nat) (hn : n ≤ 70000) : imakeSlice Try.prog h 29 (.int .i64 n) (.int .i64 n) = some (.slice (some ⟨h.size, 0, none⟩) n n, h.push (.row false 1 (List.replicate n (.int .i64 0))), .alloc) := by
  have h2 : (0 : Int) ≤ n := by omega
  have h3 : (n : Int) < 9223372036854775808 := by omega
  have h4 : 8 * (n : Int) ≤ 140737488355328 := by omega
  unfold imakeSlice
  simp [h2, h3, h4, zeros_one]
theorem rslots_c {h : IHeap} (o s m : Int) : FN Try.prog 10 #[pmV o s m] h (Q := ⟨fun v h' => Fr h h' [] ∧ if mayB o s m then ∃ q, h.size ≤ q ∧ v = .slice (some ⟨q, 0, none⟩) m.toNat m.toNat ∧ h'.get q = some (.row false 1 (ints (seqL o s m m.toNat))) else v = .slice none 0 0⟩) := by
  refine FN.enter mixed (fn := Try.f10) (by kernel_rfl) rfl (by kernel_rfl) fun e hn hg hd => ?_
  simp [Try.f10] at hn
  have a0 : e.get 0 = pmV o s m := hg 0 (by omega)
  clear hg
  simp (maxSteps := 1000000) (disch := first | (simp; done) | (simp only [IHeap.size_push', IHeap.size_set']; omega) | omega) [a0, hn, hd, pmV, one_int]
  refine FN.ct (rmay_c o s m) ?_
  intro h2 fr
  have g2 : h2.get h.size = some (.row false 0 [.int .i64 o, .int .i64 s, .int .i64 m]) := by
    rw [fr.get _ (by (try simp only [IHeap.size_push', IHeap.size_set']); omega)]
    simp (maxSteps := 1000000) (disch := first | (simp; done) | (simp only [IHeap.size_push', IHeap.size_set']; omega) | omega) []
  cases hm : mayB o s m
  · simp (maxSteps := 1000000) (disch := first | (simp; done) | (simp only [IHeap.size_push', IHeap.size_set']; omega) | omega) [a0, hn, hd]
    exact ⟨by have sz0 := (fr).size; (try simp only [IHeap.size_push', IHeap.size_set'] at sz0); (try simp only [IHeap.size_push', IHeap.size_set']); omega, fun i hi => by have sz0 := (fr).size; (try simp only [IHeap.size_push', IHeap.size_set'] at sz0); have ge0 := (fr).get i (by (try simp only [IHeap.size_push', IHeap.size_set']); omega); (try simp only [IHeap.get_set_if, IHeap.get_push, IHeap.size_set', IHeap.size_push', getU,  getU] at ge0 ⊢); grind⟩
  · obtain ⟨m7, mm, o0, o1, s1, s2⟩ := may_ge hm
    obtain ⟨M, rfl⟩ : ∃ M : Nat, m = M := ⟨m.toNat, by omega⟩
    have hz2 := fr.size
    simp only [IHeap.size_push'] at hz2
    simp (maxSteps := 1000000) (disch := first | (simp; done) | (simp only [IHeap.size_push', IHeap.size_set']; omega) | omega) [a0, hn, hd, g2, one_int, mk_ints M (by omega)]
    rw [rowS_zero o s M M]
    refine WPL.by_inv mixed (by kernel_rfl) (fun k e h' => ∃ i : Nat, i + k = M ∧ e.n = 37 ∧ e.dfr = [] ∧ e.get 1 = .pointer (some ⟨h.size, 0, none⟩) ∧ e.get 3 = .slice (some ⟨h2.size, 0, none⟩) M M ∧ e.get 4 = .int .i64 (sq o s M i) ∧ e.get 5 = .int .i64 i ∧ Fr h h' [] ∧ h'.get h.size = some (.row false 0 [.int .i64 o, .int .i64 s, .int .i64 M]) ∧ h'.get h2.size = some (.row false 1 (rowS o s M M i))) M ?_ ?_
    · refine ⟨0, ?_⟩
      simp (maxSteps := 1000000) (disch := first | (simp; done) | (simp only [IHeap.size_push', IHeap.size_set']; omega) | omega) [a0, hn, hd, g2, one_int]
      exact ⟨by unfold sq; simp; exact (Int.emod_eq_of_lt o0 o1).symm, ⟨by have sz0 := (fr).size; (try simp only [IHeap.size_push', IHeap.size_set'] at sz0); (try simp only [IHeap.size_push', IHeap.size_set']); omega, fun i hi => by have sz0 := (fr).size; (try simp only [IHeap.size_push', IHeap.size_set'] at sz0); have ge0 := (fr).get i (by (try simp only [IHeap.size_push', IHeap.size_set']); omega); (try simp only [IHeap.get_set_if, IHeap.get_push, IHeap.size_set', IHeap.size_push', getU,  getU] at ge0 ⊢); grind⟩⟩
    clear hn hd a0 g2 e
    rintro k e h3 ⟨i, hi, hn, hd, e1, e3, e4, e5, fr3, g1, g2⟩
    cases k with
    | zero =>
      obtain rfl : i = M := by omega
      simp (maxSteps := 1000000) (disch := first | (simp; done) | (simp only [IHeap.size_push', IHeap.size_set']; omega) | omega) [e1, e3, e4, e5, hn, hd, g1, g2]
      exact ⟨fr3, h2.size, by omega, rfl, by rw [g2, rowS_full]⟩
    | succ k =>
      have hlt : (i : Int) < M := by omega
      have hlt2 : i < M := by omega
      have r := sq_rng (o := o) (s := s) (m := M) m7 i
      have hi1 : i + 1 ≤ M := by omega
      have hsz := IHeap.get_lt g2
      have nx := sq_succ o s M i
      by_cases hge : (M : Int) ≤ sq o s M i + s
      · have nx2 : sq o s M i + s - M = sq o s M (i + 1) := by
          rw [← nx, ← Int.sub_emod_right]
          exact (Int.emod_eq_of_lt (by omega) (by omega)).symm
        simp (maxSteps := 1000000) (disch := first | (simp; done) | (simp only [IHeap.size_push', IHeap.size_set']; omega) | omega) [e1, e3, e4, e5, hn, hd, g1, g2, hlt, hlt2, rowS_len, one_int, hi1, rowS_set, wrap64, hge, nx2]
        refine ⟨k, by omega, i + 1, by omega, ?_⟩
        simp (maxSteps := 1000000) (disch := first | (simp; done) | (simp only [IHeap.size_push', IHeap.size_set']; omega) | omega) [e1, e3, e4, e5, hn, hd]
        rw [rowS_splice o s M hlt2]
        exact ⟨⟨by have sz0 := (fr3).size; (try simp only [IHeap.size_push', IHeap.size_set'] at sz0); (try simp only [IHeap.size_push', IHeap.size_set']); omega, fun i hi => by have sz0 := (fr3).size; (try simp only [IHeap.size_push', IHeap.size_set'] at sz0); have ge0 := (fr3).get i (by (try simp only [IHeap.size_push', IHeap.size_set']); omega); (try simp only [IHeap.get_set_if, IHeap.get_push, IHeap.size_set', IHeap.size_push', getU,  getU] at ge0 ⊢); grind⟩, rfl⟩
      · have nx2 : sq o s M i + s = sq o s M (i + 1) := by
          rw [← nx]
          exact (Int.emod_eq_of_lt (by omega) (by omega)).symm
        rw [nx2] at hge
        simp (maxSteps := 1000000) (disch := first | (simp; done) | (simp only [IHeap.size_push', IHeap.size_set']; omega) | omega) [e1, e3, e4, e5, hn, hd, g1, g2, hlt, hlt2, rowS_len, one_int, hi1, rowS_set, wrap64, hge, nx2]
        refine ⟨k, by omega, i + 1, by omega, ?_⟩
        simp (maxSteps := 1000000) (disch := first | (simp; done) | (simp only [IHeap.size_push', IHeap.size_set']; omega) | omega) [e1, e3, e4, e5, hn, hd]
        rw [rowS_splice o s M hlt2]
        exact ⟨⟨by have sz0 := (fr3).size; (try simp only [IHeap.size_push', IHeap.size_set'] at sz0); (try simp only [IHeap.size_push', IHeap.size_set']); omega, fun i hi => by have sz0 := (fr3).size; (try simp only [IHeap.size_push', IHeap.size_set'] at sz0); have ge0 := (fr3).get i (by (try simp only [IHeap.size_push', IHeap.size_set']); omega); (try simp only [IHeap.get_set_if, IHeap.get_push, IHeap.size_set', IHeap.size_push', getU,  getU] at ge0 ⊢); grind⟩, rfl⟩
end Go.Proofs.Ytfgaggpfdckggaa.Ideal
