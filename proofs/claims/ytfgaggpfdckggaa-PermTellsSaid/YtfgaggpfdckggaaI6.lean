/- Slices that are made, and cut; maps that are made. -/
import Derived.Test.YtfgaggpfdckggaaI5
noncomputable section
namespace Go.Proofs.Ytfgaggpfdckggaa.Ideal
set_option linter.unusedVariables false
set_option linter.unusedSimpArgs false
set_option linter.unnecessarySimpa false

theorem wrap_in (x : Int) (h0 : 0 ≤ x) (h1 : x < 9223372036854775808) : IntKind.i64.wrap x = x := by
  unfold IntKind.wrap
  simp [IntKind.bits, IntKind.signed, IntKind.min, IntKind.max]
  omega

theorem alloc_buildSlice {P : Program} {o : Oper} {a : Act} {id : Nat} {t e : TypeId} {n s : Nat} {ps : Array (Nat × Operand)} {z out : Array Value} (ho : o.op = .buildSlice t n ps) (ht : slcOf P t = some (e, s)) (hz : zeroOf P e = some z) (hzs : z.size = s)
    (hn : n * s ≤ 16777216) (hf : Instr.fill (fun i => some (i * s, s)) (zeros z n).toArray (ps.map fun (i, x) => (i, a.eval x)).toList = some out) : AOp P o a id (.slice (some ⟨id, 0, none⟩) n n) (.row false s out.toList) := by
  intro ρ ar w hfr hrel
  obtain ⟨hu, hs⟩ := slcOf_inv ht
  obtain ⟨z0, rfl, hsc, hzr⟩ := zeroOf_inv hz
  subst hzs
  obtain ⟨out', hf', hr⟩ := fill_rel (ρ := ρ) _ _ _ _ _ _ (parts_rel (ar := ar) ps (fun p hp => hrel p.2 (by simp [ho, Op.operands]; exact ⟨p.1, hp⟩))) (.plain (zeros_plain hsc n)) hf
  have key : ∀ pv : Array (Nat × Value), Instr.fill (fun i => some (i * z0.cells.size, z0.cells.size)) (zeros z0.cells n).toArray pv.toList = some out' →
      (Instr.buildSlice t n pv).run P w = .ok (.slice (some ⟨w.heap.size, 0, none⟩) n n) { w with heap := w.heap.push (.cells out' e (0, 0)) } := by
    intro pv hpv
    have hcells := zeros_cells z0.cells n
    rw [← hcells] at hpv
    have hn' : ¬ (n * z0.cells.size > 2 ^ 24) := by omega
    by_cases h0 : n * z0.cells.size = 0
    · have e0 : ∀ f : Nat → Value, (Array.range (n * z0.cells.size)).map f = #[] := fun f => by rw [h0]; simp
      rw [e0] at hpv
      simp only [Instr.buildSlice, Sem.run_bind, run_under hu, Result.andThen_ok, run_size hs, hn', if_false, if_pos h0, Sem.run_pure, e0, hpv]
      simp [newRow, newObj, Sem.run]
    · simp only [Instr.buildSlice, Sem.run_bind, run_under hu, Result.andThen_ok, run_size hs, hn', if_false, if_neg h0, Sem.run_pure, hzr, hpv]
      simp [newRow, newObj, Sem.run]
  refine ⟨.slice (some ⟨w.heap.size, 0, none⟩) n n, .cells out' e (0, 0), ⟨w.heap.size, 0, out'.size, z0.cells.size⟩, { w with heap := w.heap.push (.cells out' e (0, 0)) }, ?_, rfl, rfl, rfl, rfl, rfl, row_new hfr hr, ?_⟩
  · simp only [execOp, ho, Sem.run_bind, key _ hf', Result.andThen_ok]
    rfl
  · have := VRel.slc (o := 0) (n := n) (c := n) (upd_same ρ id ⟨w.heap.size, 0, out'.size, z0.cells.size⟩) (.inl rfl)
    simpa using this

theorem alloc_makeSlice {P : Program} {o : Oper} {a : Act} {id : Nat} {t e : TypeId} {s bytes : Nat} {x y : Operand} {k k' : IntKind} {n c : Int} {z : Array Value} (ho : o.op = .makeSlice t x y) (ht : slcOf P t = some (e, s)) (hz : zeroOf P e = some z) (hzs : z.size = s)
    (hb : (P.info? e).map (·.bytes) = some bytes) (hx : a.eval x = .int k n) (hy : a.eval y = .int k' c) (h0 : 0 ≤ n) (h1 : n ≤ c) (h2 : c < 9223372036854775808) (h3 : bytes * c ≤ 140737488355328) :
    AOp P o a id (.slice (some ⟨id, 0, none⟩) n.toNat c.toNat) (.row false s (zeros z c.toNat)) := by
  intro ρ ar w hfr hrel
  obtain ⟨hu, hs⟩ := slcOf_inv ht
  have g1 := hrel x (by simp [ho, Op.operands])
  have g2 := hrel y (by simp [ho, Op.operands])
  rw [hx] at g1
  rw [hy] at g2
  obtain ⟨z0, rfl, hsc, hzr⟩ := zeroOf_inv hz
  subst hzs
  obtain ⟨i, hi, rfl⟩ := Option.map_eq_some_iff.mp hb
  have hrun : ∀ w, (typeInfo e).run P w = .ok i w := fun w => by simp [typeInfo, program, Sem.run_bind, Sem.run, hi]
  have hcells := zeros_cells z0.cells c.toNat
  have wn := wrap_in n h0 (by omega)
  have wc := wrap_in c (by omega) h2
  refine ⟨.slice (some ⟨w.heap.size, 0, none⟩) n.toNat c.toNat, .cells (zeros z0.cells c.toNat).toArray e (0, 0), ⟨w.heap.size, 0, (zeros z0.cells c.toNat).toArray.size, z0.cells.size⟩, { w with heap := w.heap.push (.cells (zeros z0.cells c.toNat).toArray e (0, 0)) }, ?_, rfl, rfl, rfl, rfl, rfl, ?_, ?_⟩
  · have hroom : ¬ (c.toNat * i.bytes > roomBytes) := by
      unfold roomBytes
      have : ((c.toNat * i.bytes : Nat) : Int) ≤ 140737488355328 := by
        rw [Int.natCast_mul, Int.toNat_of_nonneg (by omega), Int.mul_comm]; exact h3
      omega
    have e1 : ¬ (c < 0) := by omega
    have e2 : ¬ (n < 0) := by omega
    have e3 : ¬ (c < n) := by omega
    have e4 : ¬ (281474976710656 < (i.bytes : Int) * c) := by omega
    simp only [execOp, ho, g1.int_inv, g2.int_inv, Sem.run_bind, Instr.makeSlice, run_under hu, asInt, asIntOf, Sem.run_pure, Result.andThen_ok, hrun, wn, wc, askRoom, hroom, if_false]
    by_cases hz0 : c.toNat * z0.cells.size = 0
    · have e0 : ∀ f : Nat → Value, (Array.range (c.toNat * z0.cells.size)).map f = #[] := fun f => by rw [hz0]; simp
      rw [e0] at hcells
      rw [← hcells]
      simp [e1, e2, e3, e4, run_size hs, hz0, newRow, newObj, Sem.run]
      rw [show Array.map (fun x : Nat => (default : Value)) (Array.range 0) = #[] from by simp]
    · simp [e1, e2, e3, e4, run_size hs, hzr, hz0, newRow, newObj, Sem.run, ← hcells]
  · have := row_new (ρ := ρ) (id := id) (b := w.heap.size) (esz := z0.cells.size) (e := e) hfr (ARel.plain (ρ := ρ) (zeros_plain hsc c.toNat))
    simpa using this
  · have := VRel.slc (o := 0) (n := n.toNat) (c := c.toNat) (upd_same ρ id ⟨w.heap.size, 0, (zeros z0.cells c.toNat).toArray.size, z0.cells.size⟩) (.inl rfl)
    simpa using this

theorem alloc_makeMap {P : Program} {o : Oper} {a : Act} {id : Nat} {t : TypeId} (ho : o.op = .makeMap t none) : AOp P o a id (.map (some id)) (.map [] 0) := by
  intro ρ ar w hfr hrel
  refine ⟨.map (some w.heap.size), .map #[] 0, ⟨w.heap.size, 0, 0, 0⟩, { w with heap := w.heap.push (.map #[] 0) }, ?_, rfl, rfl, rfl, rfl, rfl, .map rfl (fun i e he => by simp at he), ?_⟩
  · simp [execOp, ho, Sem.run_bind, Instr.makeMap, newObj, Sem.run]
  · exact .mp (R := ⟨w.heap.size, 0, 0, 0⟩) (upd_same ρ id _)

/-- Bounds are whole numbers: they are the same in the world. -/
theorem bounds_ops {ρ : Rho} {a ar : Act} {n cap : Nat} {lo hi mx : Option Operand} {r : Nat × Nat × Nat} (hb : bounds n cap (lo.map a.eval) (hi.map a.eval) (mx.map a.eval) = some r)
    (hl : ∀ x, lo = some x → VRel ρ (a.eval x) (ar.eval x)) (hh : ∀ x, hi = some x → VRel ρ (a.eval x) (ar.eval x)) (hm : ∀ x, mx = some x → VRel ρ (a.eval x) (ar.eval x)) :
    lo.map ar.eval = lo.map a.eval ∧ hi.map ar.eval = hi.map a.eval ∧ mx.map ar.eval = mx.map a.eval := by
  have key : ∀ (x : Operand) (y k : Nat), bnd (a.eval x) y = some k → VRel ρ (a.eval x) (ar.eval x) → ar.eval x = a.eval x := by
    intro x y k hx hr
    obtain ⟨q, i, e, _⟩ := bnd_inv hx
    rw [e] at hr ⊢
    exact hr.int_inv
  unfold bounds at hb
  split at hb
  · rename_i m hm'
    split at hb
    · rename_i h hh'
      split at hb
      · split at hb
        · rename_i l hl'
          refine ⟨?_, ?_, ?_⟩
          · cases lo with
            | none => rfl
            | some x => simp only [Option.map_some] at hl' ⊢; rw [key x _ _ hl' (hl x rfl)]
          · cases hi with
            | none => rfl
            | some x => simp only [Option.map_some] at hh' ⊢; rw [key x _ _ hh' (hh x rfl)]
          · cases mx with
            | none => rfl
            | some x => simp only [Option.map_some] at hm' ⊢; rw [key x _ _ hm' (hm x rfl)]
        · cases hb
      · cases hb
    · cases hb
  · cases hb

theorem bounds_le {n cap l h m : Nat} {lo hi mx : Option Value} (hb : bounds n cap lo hi mx = some (l, h, m)) : m ≤ cap := by
  unfold bounds at hb
  split at hb
  · rename_i m0 hm0
    have : m0 ≤ cap := by
      split at hm0
      · exact bnd_le hm0
      · cases hm0; omega
    split at hb
    · split at hb
      · split at hb
        · cases hb; omega
        · cases hb
      · cases hb
    · cases hb
  · cases hb
/-- The cut of a slice, its address: an empty one of which nothing is left is marked. -/
def cutAddr (i q l s h m : Nat) (exact : Bool) : Addr := ⟨i, q + l * s, if exact && m == l then some 0 else none⟩
theorem read_sliceS {P : Program} {o : Oper} {a : Act} {hp : IHeap} {t e : TypeId} {s : Nat} {x : Operand} {lo hi mx : Option Operand} {i q n c l h m : Nat} {ro : Bool} {esz : Nat} {cs : List Value} (ho : o.op = .slice t x lo hi mx) (hx : a.eval x = .slice (some ⟨i, q, none⟩) n c)
    (ht : slcOf P t = some (e, s)) (hb : bounds n c (lo.map a.eval) (hi.map a.eval) (mx.map a.eval) = some (l, h, m)) (hg : hp.get i = some (.row ro esz cs)) (hs : esz = 0 ∨ esz = s) :
    ROp P o a hp (.slice (some (cutAddr i q l s h m mx.isSome)) (h - l) (m - l)) [i] := by
  intro ρ ar w hm hrel
  have h0 := hrel x (by simp [ho, Op.operands])
  rw [hx] at h0
  obtain ⟨hu, hsz⟩ := slcOf_inv ht
  obtain ⟨e1, e2, e3⟩ := bounds_ops (ar := ar) hb (fun y hy => hrel y (by simp [ho, Op.operands, hy])) (fun y hy => hrel y (by simp [ho, Op.operands, hy])) (fun y hy => hrel y (by simp [ho, Op.operands, hy]))
  rcases h0.slc_inv with ⟨R, c', hR, hc, e0⟩ | ⟨rfl, rfl, a', e0⟩
  · obtain ⟨ob, hb', hor⟩ := hm i (by simp) R _ hg hR
    obtain ⟨_, _, _, _, _, hez, _⟩ := hor.cells
    obtain ⟨m', k1, k2, k3, k4, k5, k6⟩ := bounds_run (P := P) hb (show c ≤ c' by omega) true w
    have hrun : (execOp ar.eval o).run P w = .ok (.value (.slice (if m' = l then some ⟨R.block, R.off + q, none⟩ else some ⟨R.block, R.off + q + l * s, none⟩) (h - l) (m' - l))) w := by
      simp only [execOp, ho, e0, Sem.run_bind, Instr.sliceAt, run_under hu, Instr.slice, e1, e2, e3, k1, Result.andThen_ok, run_size hsz]
      by_cases hml : m' = l
      · simp [hml]
      · simp [hml, add_none]
    refine ⟨_, hrun, ?_⟩
    by_cases hml : m' = l
    · rw [if_pos hml, show h - l = 0 by omega, show m' - l = 0 by omega, show m - l = 0 by omega]
      unfold cutAddr
      split
      · exact .slcE
      · exact .slc0
    · rw [if_neg hml, Nat.add_assoc]
      have hex : (mx.isSome && m == l) = false := by
        cases hmx : mx with
        | none => rfl
        | some vm =>
          have := k6 (by rw [hmx]; rfl)
          simp; omega
      unfold cutAddr
      rw [hex]
      refine .slc hR ?_
      rcases k5 with rfl | ⟨rfl, rfl⟩
      · exact .inl rfl
      · rcases hc with rfl | ⟨c1, c2, c3⟩
        · exact .inl rfl
        · refine .inr ⟨by omega, c2, ?_⟩
          have : s = R.esz := by omega
          subst this
          have h5 : l * R.esz + (m' - l) * R.esz = m' * R.esz := by
            rw [← Nat.add_mul]; congr 1; omega
          omega
  · obtain ⟨m', k1, k2, k3, k4, k5, _⟩ := bounds_run (P := P) hb (Nat.le_refl 0) true w
    have hm0 : m ≤ 0 := bounds_le hb
    have hm' : m' = 0 := by omega
    have hrun : (execOp ar.eval o).run P w = .ok (.value (.slice (some a') 0 0)) w := by
      simp only [execOp, ho, e0, Sem.run_bind, Instr.sliceAt, run_under hu, Instr.slice, e1, e2, e3, k1, Result.andThen_ok, run_size hsz]
      rw [if_pos (show m' = l by omega), show h - l = 0 by omega, show m' - l = 0 by omega]
      rfl
    refine ⟨_, hrun, ?_⟩
    rw [show h - l = 0 by omega, show m - l = 0 by omega]
    unfold cutAddr
    split
    · exact .slcE
    · exact .slc0
/-- An empty slice of which nothing is left, cut again. -/
theorem pure_sliceE {P : Program} {o : Oper} {a : Act} {t e : TypeId} {s : Nat} {x : Operand} {lo hi mx : Option Operand} {i q u l h m : Nat} (ho : o.op = .slice t x lo hi mx) (hx : a.eval x = .slice (some ⟨i, q, some u⟩) 0 0)
    (ht : slcOf P t = some (e, s)) (hb : bounds 0 0 (lo.map a.eval) (hi.map a.eval) (mx.map a.eval) = some (l, h, m)) : PureOp P o a (.slice (some ⟨i, q, some u⟩) 0 0) := by
  intro ρ ar w hrel
  have h0 := hrel x (by simp [ho, Op.operands])
  rw [hx] at h0
  obtain ⟨hu, hsz⟩ := slcOf_inv ht
  obtain ⟨e1, e2, e3⟩ := bounds_ops (ar := ar) hb (fun y hy => hrel y (by simp [ho, Op.operands, hy])) (fun y hy => hrel y (by simp [ho, Op.operands, hy])) (fun y hy => hrel y (by simp [ho, Op.operands, hy]))
  have e0 : ∃ a', ar.eval x = .slice (some a') 0 0 := by
    generalize ar.eval x = z at h0
    cases h0 with
    | base h => simp [scal] at h
    | slcE => exact ⟨_, rfl⟩
  obtain ⟨a', e0⟩ := e0
  obtain ⟨m', k1, k2, k3, k4, k5, _⟩ := bounds_run (P := P) hb (Nat.le_refl 0) true w
  have hm0 : m ≤ 0 := bounds_le hb
  have hrun : (execOp ar.eval o).run P w = .ok (.value (.slice (some a') 0 0)) w := by
    simp only [execOp, ho, e0, Sem.run_bind, Instr.sliceAt, run_under hu, Instr.slice, e1, e2, e3, k1, Result.andThen_ok, run_size hsz]
    rw [if_pos (show m' = l by omega), show h - l = 0 by omega, show m' - l = 0 by omega]
    rfl
  exact ⟨_, hrun, .slcE⟩

theorem pure_sliceA {P : Program} {o : Oper} {a : Act} {t : TypeId} {s N : Nat} {x : Operand} {lo hi mx : Option Operand} {i q l h m : Nat} (ho : o.op = .slice t x lo hi mx) (hx : a.eval x = .pointer (some ⟨i, q, none⟩))
    (ht : arrOf P t = some (N, s)) (hb : bounds N N (lo.map a.eval) (hi.map a.eval) (mx.map a.eval) = some (l, h, m)) : PureOp P o a (.slice (some (cutAddr i q l s h m true)) (h - l) (m - l)) := by
  intro ρ ar w hrel
  have h0 := hrel x (by simp [ho, Op.operands])
  rw [hx] at h0
  obtain ⟨e, hu, hsz⟩ := arrOf_inv ht
  obtain ⟨e1, e2, e3⟩ := bounds_ops (ar := ar) hb (fun y hy => hrel y (by simp [ho, Op.operands, hy])) (fun y hy => hrel y (by simp [ho, Op.operands, hy])) (fun y hy => hrel y (by simp [ho, Op.operands, hy]))
  obtain ⟨R, hR, e0⟩ := h0.ptr_inv
  obtain ⟨m', k1, k2, k3, k4, k5, _⟩ := bounds_run (P := P) hb (Nat.le_refl N) false w
  have hmm : m' = m := by omega
  subst hmm
  have hrun : (execOp ar.eval o).run P w = .ok (.value (.slice (if m' = l then some ⟨R.block, R.off + q, none⟩ else some ⟨R.block, R.off + q + l * s, none⟩) (h - l) (m' - l))) w := by
    simp only [execOp, ho, e0, Sem.run_bind, Instr.sliceAt, run_under hu, Instr.sureAddr, e1, e2, e3, k1, Sem.run_pure, Result.andThen_ok, run_size hsz]
    by_cases hml : m' = l
    · simp [hml]
    · simp [hml, add_none]
  refine ⟨_, hrun, ?_⟩
  by_cases hml : m' = l
  · rw [if_pos hml, show h - l = 0 by omega, show m' - l = 0 by omega]
    unfold cutAddr
    split
    · exact .slcE
    · exact .slc0
  · rw [if_neg hml, Nat.add_assoc]
    have : (true && m' == l) = false := by simpa using hml
    unfold cutAddr
    rw [this]
    exact .slc hR (.inl rfl)
end Go.Proofs.Ytfgaggpfdckggaa.Ideal
