import Derived.Test.YteokdllmandleaaP34h
noncomputable section
open Go.Proofs
namespace Go.Proofs.Yteokdllmandleaa.Ideal
open Go.RowKit
set_option linter.unusedSimpArgs false
set_option linter.unusedVariables false
set_option linter.unusedSectionVars false
set_option maxRecDepth 100000
set_option maxHeartbeats 4000000
def ii (l : List Nat) : List Int := l.map fun (n : Nat) => (n : Int)
theorem ii_len (l : List Nat) : (ii l).length = l.length := by simp [ii]
theorem bysI (l : List Nat) : (bys l).toArray = ⟨(ii l).map (.int .u8)⟩ := by simp [bys, ii]
theorem ii_inj : ∀ {l m : List Nat}, ii l = ii m → l = m
  | [], [], _ => rfl
  | [], b :: m, h => by simp [ii] at h
  | a :: l, [], h => by simp [ii] at h
  | a :: l, b :: m, h => by
    simp only [ii, List.map_cons, List.cons.injEq] at h
    rw [ii_inj (l := l) (m := m) h.2, show a = b by omega]
theorem ii_dec (l m : List Nat) : decide (ii l = ii m) = decide (l = m) := by
  by_cases h : l = m
  · subst h; simp
  · have h2 : ¬ ii l = ii m := fun e => h (ii_inj e)
    simp [h, h2]
theorem ag5 : pureVal Try.prog (isAgg 5) = some false := by kernel_rfl
theorem sz5 : pureVal Try.prog (sizeOf 5) = some 1 := by kernel_rfl
theorem un23' : Try.prog.underlying 23 = some (.array 6 5) := by kernel_rfl
theorem un24' : Try.prog.underlying 24 = some (.array 4 5) := by kernel_rfl
theorem eg23 : Try.prog.eqGuardType Try.prog.depth 23 = false := by kernel_rfl
theorem eg24 : Try.prog.eqGuardType Try.prog.depth 24 = false := by kernel_rfl
theorem eg26 : Try.prog.eqGuardType Try.prog.depth 26 = false := by kernel_rfl
theorem eq23 {l m : List Nat} (hl : l.length = 6) (hm : m.length = 6) : aggEq Try.prog 23 .eql (.agg (bys l).toArray) (.agg (bys m).toArray) = some (.bool (decide (l = m))) ∧ aggEq Try.prog 23 .neq (.agg (bys l).toArray) (.agg (bys m).toArray) = some (.bool (!decide (l = m))) := by
  have := aggEq_arr (P := Try.prog) (k := .u8) (xs := ii l) (ys := ii m) un23' un5 ag5 sz5 eg23 (by rw [ii_len, hl]) (by rw [ii_len, hm])
  rw [bysI, bysI]
  rw [ii_dec] at this
  exact this
theorem eq24 {l m : List Nat} (hl : l.length = 4) (hm : m.length = 4) : aggEq Try.prog 24 .eql (.agg (bys l).toArray) (.agg (bys m).toArray) = some (.bool (decide (l = m))) ∧ aggEq Try.prog 24 .neq (.agg (bys l).toArray) (.agg (bys m).toArray) = some (.bool (!decide (l = m))) := by
  have := aggEq_arr (P := Try.prog) (k := .u8) (xs := ii l) (ys := ii m) un24' un5 ag5 sz5 eg24 (by rw [ii_len, hl]) (by rw [ii_len, hm])
  rw [bysI, bysI]
  rw [ii_dec] at this
  exact this
theorem slots_ext {cs vs : List Value} {q n : Nat} (h : slots cs q n = some vs) : cs.toArray.extract q (q + n) = vs.toArray := by
  unfold slots at h
  split at h
  · cases h
    rw [List.extract_toArray]
    simp [List.extract_eq_take_drop]
  · cases h
theorem pt23 (cs : Array Value) (q : Nat) : pureVal Try.prog (part 23 cs q) = some (.agg (cs.extract q (q + 6))) := by kernel_rfl
theorem pt24 (cs : Array Value) (q : Nat) : pureVal Try.prog (part 24 cs q) = some (.agg (cs.extract q (q + 4))) := by kernel_rfl
theorem ag22 : pureVal Try.prog (isAgg 22) = some false := by kernel_rfl
theorem sg26 : (fldsOf Try.prog 26).map (fun l => l.map fldSig) = some [(true, 22, 0), (true, 23, 1), (true, 23, 7), (true, 24, 13), (true, 24, 17)] := by kernel_rfl
theorem st26 : Try.prog.stoodInHeld 26 = false := by kernel_rfl
theorem eqF_arr {d : Nat} {xs : Array Value} {f : Field} {t n : Nat} {l : List Nat} (h : fldSig f = (true, t, n)) {K : Nat} (hu : Try.prog.underlying t = some (.array K 5)) (hp : pureVal Try.prog (part t xs n) = some (.agg (bys l).toArray)) (hl : l.length = K) : EqF Try.prog (d + 2) xs xs f true := by
  simp only [fldSig, Prod.mk.injEq, bne_iff_ne, ne_eq] at h
  obtain ⟨h1, h2, h3⟩ := h
  refine ⟨h1, _, _, by rw [h2, h3]; exact hp, by rw [h2, h3]; exact hp, ?_⟩
  rw [h2, bysI]
  have := pv_eqArr (P := Try.prog) d t 5 K .u8 .u8 (ii l) (ii l) hu un5 ag5 sz5 (by rw [ii_len, hl]) (by rw [ii_len, hl])
  simpa using this
theorem eq26 (a : AR) : aggEq Try.prog 26 .eql a.val a.val = some (.bool true) ∧ aggEq Try.prog 26 .neq a.val a.val = some (.bool false) := by
  have e : pureVal Try.prog (Op.equal 26 a.val a.val) = some true := by
    show pureVal Try.prog (Op.equalIn 10000 26 _ _) = _
    have sg := sg26
    cases hf : fldsOf Try.prog 26 with
    | none => rw [hf] at sg; cases sg
    | some fs =>
      rw [hf] at sg
      simp only [Option.map_some, Option.some.injEq] at sg
      match fs, sg with
      | [f0, f1, f2, f3, f4], sg =>
        simp only [List.map_cons, List.map_nil, List.cons.injEq, and_true] at sg
        obtain ⟨s0, s1, s2, s3, s4⟩ := sg
        have := pv_eqStructL (P := Try.prog) 9999 26 [f0, f1, f2, f3, f4] a.row.toArray a.row.toArray [true, true, true, true, true] (fldsOf_inv hf) st26 ?_
        · exact this
        · refine .cons ?_ (.cons (eqF_arr (d := 9997) s1 un23' (l := a.fr) (by rw [pt23, slots_ext a.sfr]) a.l1) (.cons (eqF_arr (d := 9997) s2 un23' (l := a.to) (by rw [pt23, slots_ext a.sto]) a.l2) (.cons (eqF_arr (d := 9997) s3 un24' (l := a.fip) (by rw [pt24, slots_ext a.sfip]) a.l3) (.cons (eqF_arr (d := 9997) s4 un24' (l := a.ip) (by rw [pt24, slots_ext a.sip]) a.l4) .nil))))
          simp only [fldSig, Prod.mk.injEq, bne_iff_ne, ne_eq] at s0
          obtain ⟨h1, h2, h3⟩ := s0
          have p0 : pureVal Try.prog (part 22 a.row.toArray 0) = some (.int .u16 a.op) := pv_isAgg un22 _ ag22 rfl _ _ _ (by simp [AR.row])
          refine ⟨h1, _, _, by rw [h2, h3]; exact p0, by rw [h2, h3]; exact p0, ?_⟩
          rw [h2, pv_eqInt 9998 22 .u16 .u16 _ _ un22]
          simp
  have p1 : plainV a.val = true := by
    simp only [AR.val, plainV, AR.row, bys]
    simp [scal]
  constructor
  · unfold aggEq
    rw [if_pos ⟨eg26, p1, p1⟩]
    simp only [e, Option.map_some]
  · unfold aggEq
    rw [if_pos ⟨eg26, p1, p1⟩]
    simp only [e, Option.map_some]
    rfl
end Go.Proofs.Yteokdllmandleaa.Ideal
