/- Stores; what makes memory; slicing a slice. -/
import Derived.Test.YtfgaggpfdckggaaI4
noncomputable section
namespace Go.Proofs.Ytfgaggpfdckggaa.Ideal
set_option linter.unusedVariables false
set_option linter.unusedSimpArgs false
set_option linter.unnecessarySimpa false

theorem setCells_heap (b : Nat) (t : TypeId) (fr : Nat × Nat) : ∀ (vs : List Value) (o : Nat) (w : World) (cur : Array Value), w.heap[b]? = some (.cells cur t fr) → o + vs.length ≤ cur.size →
    ∃ cur', (w.setCells b o vs).heap[b]? = some (.cells cur' t fr) ∧ cur'.size = cur.size ∧ (∀ k, cur'[k]? = if o ≤ k ∧ k < o + vs.length then vs[k - o]? else cur[k]?) ∧
      (w.setCells b o vs).heap.size = w.heap.size ∧ (∀ b', b' ≠ b → (w.setCells b o vs).heap[b']? = w.heap[b']?) ∧ (w.setCells b o vs).os = w.os ∧ (w.setCells b o vs).tape = w.tape ∧ (w.setCells b o vs).output = w.output
  | [], o, w, cur, h, _ => ⟨cur, h, rfl, fun k => by rw [if_neg (by simp)], rfl, fun _ _ => rfl, rfl, rfl, rfl⟩
  | v :: r, o, w, cur, h, hle => by
    simp only [List.length_cons] at hle
    have h1 : (w.setCell ⟨b, o, none⟩ v).heap[b]? = some (.cells (cur.setIfInBounds o v) t fr) := by
      simp [World.setCell, Array.getElem?_modify, h]
    obtain ⟨cur', g1, g2, g3, g4, g5, g6, g7, g8⟩ := setCells_heap b t fr r (o + 1) (w.setCell ⟨b, o, none⟩ v) (cur.setIfInBounds o v) h1 (by simp; omega)
    have he : w.setCells b o (v :: r) = (w.setCell ⟨b, o, none⟩ v).setCells b (o + 1) r := rfl
    have hsz : (w.setCell ⟨b, o, none⟩ v).heap.size = w.heap.size := by simp [World.setCell]
    rw [he]
    refine ⟨cur', g1, by simpa using g2, fun k => ?_, g4.trans hsz, fun b' hb' => ?_, g6, g7, g8⟩
    · rw [g3 k, Array.getElem?_setIfInBounds]
      by_cases e : k = o
      · subst e
        rw [if_neg (by omega), if_pos rfl, if_pos (by omega), if_pos (by simp), Nat.sub_self]; rfl
      · by_cases c : o + 1 ≤ k ∧ k < o + 1 + r.length
        · rw [if_pos c, if_pos (by simp; omega), show k - o = (k - (o + 1)) + 1 by omega]; rfl
        · rw [if_neg c, if_neg (fun x => e x.symm), if_neg (by simp; omega)]
    · rw [g5 b' hb']
      simp [World.setCell, Array.getElem?_modify, show ¬ b = b' from fun x => hb' x.symm]

/-- vs in the place of what lay there from q on. -/
def splice (cs : List Value) (q : Nat) (vs : List Value) : List Value := cs.take q ++ vs ++ cs.drop (q + vs.length)
theorem splice_length {cs : List Value} {q : Nat} {vs : List Value} (h : q + vs.length ≤ cs.length) : (splice cs q vs).length = cs.length := by
  unfold splice; simp; omega
theorem splice_get {cs : List Value} {q : Nat} {vs : List Value} (h : q + vs.length ≤ cs.length) (k : Nat) : (splice cs q vs)[k]? = if q ≤ k ∧ k < q + vs.length then vs[k - q]? else cs[k]? := by
  unfold splice
  by_cases h1 : k < q
  · rw [if_neg (by omega), List.append_assoc, List.getElem?_append_left (by simp; omega), List.getElem?_take, if_pos h1]
  · by_cases h2 : k < q + vs.length
    · rw [if_pos (by omega), List.append_assoc, List.getElem?_append_right (by simp; omega), List.getElem?_append_left (by simp; omega)]
      congr 1; simp; omega
    · rw [if_neg (by omega), List.append_assoc, List.getElem?_append_right (by simp; omega), List.getElem?_append_right (by simp; omega), List.getElem?_drop]
      congr 1; simp; omega

theorem storeCells_run {P : Program} {ρ : Rho} {w : World} {R : Ren} {esz : Nat} {cs vs vs' : List Value} {ob : Obj} {q : Nat} (hb : w.heap[R.block]? = some ob) (ho : ORel ρ R (.row false esz cs) ob) (hr : LRel ρ vs vs') (hle : q + vs.length ≤ cs.length)
    (h1 : vs.all (·.oneCell') = true) : ∃ w' ob', (storeCells ⟨R.block, R.off + q, none⟩ vs').run P w = .ok () w' ∧ w'.heap.size = w.heap.size ∧ w'.os = w.os ∧ w'.tape = w.tape ∧ w'.output = w.output ∧ w'.heap[R.block]? = some ob' ∧ ORel ρ R (.row false esz (splice cs q vs)) ob' ∧ ∀ b, b ≠ R.block → w'.heap[b]? = w.heap[b]? := by
  obtain ⟨c, e, fr, rfl, hfr, he, hroom, hz, hc⟩ := ho.cells
  have hlen : vs'.length = vs.length := hr.1.symm
  obtain ⟨cur', g1, g2, g3, g4, g5, g6, g7, g8⟩ := setCells_heap R.block e fr vs' (R.off + q) w c hb (by omega)
  refine ⟨_, .cells cur' e fr, ?_, g4, g6, g7, g8, g1, ORel.row (fun h0 => by rw [g2]; exact hfr h0) he (by omega) (by rw [splice_length hle]; omega) ?_, g5⟩
  · have := run_storeCells_cells (P := P) R.block (R.off + q) vs' 0 w (fun j hj => by
      rw [Nat.add_zero, cell_of hb]
      have : R.off + q + j < c.size := by omega
      simp [this]) (fun j hj => by
      rw [Nat.add_zero, frozen_of hb]
      exact (hfr rfl).2 _ (by omega)) (fun v hv => by
      obtain ⟨j, hj⟩ := List.getElem?_of_mem hv
      have hj' : j < vs.length := by
        rw [← hlen]; exact (List.getElem?_eq_some_iff.1 hj).1
      obtain ⟨v2, k1, k2⟩ := hr.2 j vs[j] (by simp [hj'])
      rw [hj] at k1; cases k1
      rw [k2.one]
      exact List.all_eq_true.1 h1 _ (List.getElem_mem hj'))
    simpa using this
  · intro i v hi
    rw [splice_get hle] at hi
    rw [g3]
    split at hi
    · rename_i hin
      obtain ⟨v', k1, k2⟩ := hr.2 _ _ hi
      refine ⟨v', ?_, k2⟩
      rw [if_pos (by omega), show R.off + i - (R.off + q) = i - q by omega]; exact k1
    · rename_i hin
      rw [if_neg (by omega)]
      exact hc i v hi

theorem mem_store {P : Program} {o : Oper} {a : Act} {h : IHeap} {t : TypeId} {x y : Operand} {i q n : Nat} {esz : Nat} {cs : List Value} (ho : o.op = .store t x y) (hx : a.eval x = .pointer (some ⟨i, q, none⟩))
    (hg : h.get i = some (.row false esz cs)) (hs : tsize P t = some n) (hn : (a.eval y).cells.size = n) (hle : q + n ≤ cs.length) (h1 : (a.eval y).cells.toList.all (·.oneCell') = true) :
    MOp P o a h undef (h.set i (.row false esz (splice cs q (a.eval y).cells.toList))) := by
  intro ρ ar w hm _ hrel
  have h0 := hrel x (by simp [ho, Op.operands])
  have h2 := hrel y (by simp [ho, Op.operands])
  rw [hx] at h0
  obtain ⟨R, hR, e⟩ := h0.ptr_inv
  obtain ⟨ob, hb, hor⟩ := hm.obj i R _ hg hR
  have hc := ARel.cells h2
  obtain ⟨w', ob', g1, g2, g3, g4, g5, g6, g7, g8⟩ := storeCells_run (P := P) (q := q) hb hor (.of_arr hc) (by simp [hn]; exact hle) h1
  obtain ⟨s, m⟩ := hm.write hg rfl (by simp) hR g2 g3 g4 g5 g6 g7 g8
  refine ⟨.skip, w', ρ, undef, ?_, .inr ⟨rfl, rfl⟩, s, m, VRel.undef_rel⟩
  have hn' : (ar.eval y).cells.size = n := by rw [← hc.1]; exact hn
  simp [execOp, ho, e, Sem.run_bind, Instr.storeAt, Instr.sureAddr, storeVar, run_size hs, hn', g1]

/-! ### What makes memory -/
theorem upd_same (ρ : Rho) (i : Nat) (R : Ren) : ρ.upd i R i = some R := if_pos rfl
/-- A row of its own: the ren of a block that is new. -/
theorem row_new {ρ : Rho} {id : Nat} {b esz : Nat} {cs cs' : Array Value} {e : TypeId} (hf : ρ id = none) (h : ARel ρ cs cs') : ORel (ρ.upd id ⟨b, 0, cs'.size, esz⟩) ⟨b, 0, cs'.size, esz⟩ (.row false esz cs.toList) (.cells cs' e (0, 0)) :=
  .row (fun _ => ⟨fun _ => rfl, fun k _ => by simp⟩) rfl rfl (by simp [h.1]) (fun i v hv => by
    rw [Array.getElem?_toList] at hv
    obtain ⟨v', h1, h2⟩ := h.get hv
    exact ⟨v', by rw [Nat.zero_add]; exact h1, h2.mono (upd_le hf)⟩)
theorem alloc_box {P : Program} {o : Oper} {a : Act} {id : Nat} {t : TypeId} {x : Operand} (ho : o.op = .box t x) : AOp P o a id (.pointer (some ⟨id, 0, none⟩)) (.row false 0 (a.eval x).cells.toList) := by
  intro ρ ar w hf hrel
  have h0 := ARel.cells (hrel x (by simp [ho, Op.operands]))
  refine ⟨.pointer (some ⟨w.heap.size, 0, none⟩), .cells (ar.eval x).cells t (0, 0), ⟨w.heap.size, 0, (ar.eval x).cells.size, 0⟩, { w with heap := w.heap.push (.cells (ar.eval x).cells t (0, 0)) }, ?_, rfl, rfl, rfl, rfl, rfl, row_new hf h0, ?_⟩
  · simp [execOp, ho, Sem.run_bind, Instr.box, newVar, newRow, newObj, Sem.run]
  · have := VRel.ptr (o := 0) (upd_same ρ id ⟨w.heap.size, 0, (ar.eval x).cells.size, 0⟩)
    simpa using this
theorem alloc_alloc {P : Program} {o : Oper} {a : Act} {id : Nat} {t : TypeId} {z : Array Value} (ho : o.op = .alloc t) (hz : zeroOf P t = some z) : AOp P o a id (.pointer (some ⟨id, 0, none⟩)) (.row false 0 z.toList) := by
  intro ρ ar w hf hrel
  obtain ⟨z0, rfl, hsc, hzr⟩ := zeroOf_inv hz
  refine ⟨.pointer (some ⟨w.heap.size, 0, none⟩), .cells z0.cells t (0, 0), ⟨w.heap.size, 0, z0.cells.size, 0⟩, { w with heap := w.heap.push (.cells z0.cells t (0, 0)) }, ?_, rfl, rfl, rfl, rfl, rfl, row_new hf (.plain hsc), ?_⟩
  · simp [execOp, ho, Sem.run_bind, Instr.alloc, hzr, newVar, newRow, newObj, Sem.run]
  · have := VRel.ptr (o := 0) (upd_same ρ id ⟨w.heap.size, 0, z0.cells.size, 0⟩)
    simpa using this
/-- n elements, all zero. -/
def zeros (z : Array Value) (n : Nat) : List Value := (List.replicate n z.toList).flatten
theorem zeros_cells (z : Array Value) (n : Nat) : ((Array.range (n * z.size)).map (fun i => z[i % z.size]!)) = (zeros z n).toArray := by
  apply Array.ext'
  rw [Array.toList_map, Array.toList_range]
  unfold zeros
  induction n with
  | zero => simp
  | succ n ih =>
    have hadd : ∀ m k, (List.range (m + k)) = List.range m ++ (List.range k).map (m + ·) := fun m k => List.range_add
    rw [Nat.succ_mul, hadd, List.map_append, ih]
    have : (List.replicate (n + 1) z.toList).flatten = (List.replicate n z.toList).flatten ++ z.toList := by
      rw [List.replicate_succ', List.flatten_append]; simp
    show _ = (List.replicate (n + 1) z.toList).flatten
    rw [this]
    congr 1
    apply List.ext_getElem?
    intro k
    rw [List.map_map, List.getElem?_map]
    by_cases hk : k < z.size
    · rw [List.getElem?_range hk]
      simp [hk, Nat.mod_eq_of_lt hk]
    · rw [List.getElem?_eq_none (by simp; omega), List.getElem?_eq_none (by simp; omega)]
      rfl
theorem zeroOf_size {P : Program} {t : TypeId} {z : Array Value} (h : zeroOf P t = some z) : z.all scal = true := by
  obtain ⟨z0, rfl, hsc, _⟩ := zeroOf_inv h
  exact hsc
theorem zeros_plain {z : Array Value} (h : z.all scal = true) (n : Nat) : (zeros z n).toArray.all scal = true := by
  rw [Array.all_eq_true_iff_forall_mem] at *
  intro v hv
  simp [zeros, List.mem_flatten] at hv
  obtain ⟨l, ⟨_, rfl⟩, hv⟩ := hv
  exact h v (by simpa using hv)
end Go.Proofs.Ytfgaggpfdckggaa.Ideal
