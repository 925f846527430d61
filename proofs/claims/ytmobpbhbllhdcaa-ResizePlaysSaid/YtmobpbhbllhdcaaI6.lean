/- The ideal heap: I4, I5, I6. Operations on memory: what each class promises; loads and stores. -/
import Derived.Test.YtmobpbhbllhdcaaI3
import Derived.Laws.IdiomCopy
noncomputable section
namespace Go.Proofs.Ytmobpbhbllhdcaa.Ideal
set_option linter.unusedVariables false
set_option linter.unusedSimpArgs false
set_option linter.unnecessarySimpa false

theorem getD_opt {α : Type} [Inhabited α] {xs : Array α} {i : Nat} {v d : α} (h : xs[i]? = some v) : xs.getD i d = v := by
  obtain ⟨hi, e⟩ := Array.getElem?_eq_some_iff.1 h
  simp [Array.getD, hi, e]

theorem VRel.one {ρ : Rho} {v v' : Value} (h : VRel ρ v v') : v'.oneCell' = v.oneCell' := by
  cases h <;> rfl

/-- An operation, by what it does to memory. -/
def MOp (P : Program) (o : Oper) (a : Act) (h : IHeap) (v : Value) (h' : IHeap) : Prop :=
  ∀ (ρ : Rho) (ar : Act) (w : World), Models ρ h w → Fresh ρ h.size h'.size → OpsRel ρ o a ar →
    ∃ nx w' ρ' v', (execOp ar.eval o).run P w = .ok nx w' ∧ (nx = .value v' ∨ (nx = .skip ∧ v' = undef)) ∧ Step ρ h w ρ' h' w' ∧ Models ρ' h' w' ∧ VRel ρ' v v'
/-- It reads the blocks 'ids' alone, and changes nothing. -/
def ROp (P : Program) (o : Oper) (a : Act) (h : IHeap) (v : Value) (ids : List Nat) : Prop :=
  ∀ (ρ : Rho) (ar : Act) (w : World), (∀ i ∈ ids, ∀ R ob, h.get i = some ob → ρ i = some R → ∃ b, w.heap[R.block]? = some b ∧ ORel ρ R ob b) → OpsRel ρ o a ar →
    ∃ v', (execOp ar.eval o).run P w = .ok (.value v') w ∧ VRel ρ v v'
def Rho.upd (ρ : Rho) (i : Nat) (R : Ren) : Rho := fun j => if j = i then some R else ρ j
/-- It makes one block, n, behind all others, and changes nothing; id: the block's number. -/
def AOp (P : Program) (o : Oper) (a : Act) (id : Nat) (v : Value) (n : IObj) : Prop :=
  ∀ (ρ : Rho) (ar : Act) (w : World), ρ id = none → OpsRel ρ o a ar →
    ∃ v' ob R w', (execOp ar.eval o).run P w = .ok (.value v') w' ∧ w'.heap = w.heap.push ob ∧ w'.os = w.os ∧ w'.tape = w.tape ∧ w'.output = w.output ∧ R.block = w.heap.size ∧ ORel (ρ.upd id R) R n ob ∧ VRel (ρ.upd id R) v v'

theorem ROp.of_pure {P : Program} {o : Oper} {a : Act} {v : Value} (h : PureOp P o a v) (hp : IHeap) : ROp P o a hp v [] := fun ρ ar w _ hrel => h ρ ar w hrel
theorem MOp.of_read {P : Program} {o : Oper} {a : Act} {h : IHeap} {v : Value} {ids : List Nat} (hr : ROp P o a h v ids) : MOp P o a h v h := by
  intro ρ ar w hm _ hrel
  obtain ⟨v', h1, h2⟩ := hr ρ ar w (fun i _ R ob hg hi => hm.obj i R ob hg hi) hrel
  exact ⟨_, w, ρ, v', h1, .inl rfl, Step.refl _ _ _, hm, h2⟩
theorem MOp.of_pure {P : Program} {o : Oper} {a : Act} {h : IHeap} {v : Value} (hp : PureOp P o a v) : MOp P o a h v h := .of_read (.of_pure hp h)

theorem upd_le {ρ : Rho} {i : Nat} {R : Ren} (hi : ρ i = none) : ∀ j R', ρ j = some R' → ρ.upd i R j = some R' := fun j R' hj => by
  unfold Rho.upd
  by_cases e : j = i
  · subst e; rw [hi] at hj; cases hj
  · rw [if_neg e]; exact hj
/-- A new block. -/
theorem Models.push {ρ : Rho} {h : IHeap} {w w' : World} {n : IObj} {ob : Obj} {R : Ren} (hm : Models ρ h w) (hf : ρ h.size = none) (hw : w'.heap = w.heap.push ob) (hos : w'.os = w.os) (ht : w'.tape = w.tape) (hou : w'.output = w.output)
    (hR : R.block = w.heap.size) (ho : ORel (ρ.upd h.size R) R n ob) (hn : n ≠ .dead := by intro e; cases e) : Step ρ h w (ρ.upd h.size R) (h.push n) w' ∧ Models (ρ.upd h.size R) (h.push n) w' := by
  have hup : ∀ i R', ρ.upd h.size R i = some R' → (i = h.size ∧ R' = R) ∨ (i ≠ h.size ∧ ρ i = some R') := by
    intro i R' hi
    unfold Rho.upd at hi
    split at hi
    · exact .inl ⟨by assumption, (Option.some.inj hi).symm⟩
    · exact .inr ⟨by assumption, hi⟩
  refine ⟨⟨Grow.push _ _, by rw [hw]; simp, hos, ht, hou, ?_, ?_, ?_⟩, ⟨?_, ?_, ?_⟩⟩
  · intro i hi
    simp only [IHeap.size_push] at hi
    unfold Rho.upd
    rw [if_neg (by omega)]
  · intro i R' h1 h2 hi
    rcases hup i R' hi with ⟨_, rfl⟩ | ⟨h3, _⟩
    · exact .inl (by omega)
    · simp only [IHeap.size_push] at h2; omega
  · intro b hb _
    rw [hw, Array.getElem?_push]
    rw [if_neg (by omega)]
  · intro i R' o hg hi
    rw [IHeap.get_push] at hg
    rcases hup i R' hi with ⟨rfl, rfl⟩ | ⟨h3, h4⟩
    · rw [if_pos rfl] at hg
      cases hg
      exact ⟨ob, by rw [hw, Array.getElem?_push, if_pos hR], ho⟩
    · rw [if_neg h3] at hg
      obtain ⟨b, h5, h6⟩ := hm.obj i R' o hg h4
      refine ⟨b, ?_, h6.mono (upd_le hf)⟩
      rw [hw, Array.getElem?_push, if_neg (by have := hm.lt i R' h4; omega)]; exact h5
  · intro i j R1 R2 h1 h2 he hd1 hd2
    rw [IHeap.get_push] at hd1 hd2
    rcases hup i R1 h1 with ⟨rfl, rfl⟩ | ⟨h3, h4⟩ <;> rcases hup j R2 h2 with ⟨rfl, rfl⟩ | ⟨h5, h6⟩
    · exact .inl rfl
    · have := hm.lt j R2 h6; omega
    · have := hm.lt i R1 h4; omega
    · rw [if_neg h3] at hd1
      rw [if_neg h5] at hd2
      exact (hm.inj i j R1 R2 h4 h6 he hd1 hd2).imp id (fun x => ⟨x.1.grow (Grow.push _ _), x.2.grow (Grow.push _ _)⟩)
  · intro i R' hi
    rw [hw, Array.size_push]
    rcases hup i R' hi with ⟨rfl, rfl⟩ | ⟨h3, h4⟩
    · omega
    · have := hm.lt i R' h4; omega
theorem MOp.of_alloc {P : Program} {o : Oper} {a : Act} {h : IHeap} {v : Value} {n : IObj} (ha : AOp P o a h.size v n) (hn : n ≠ .dead ∧ n.isRo = false) : MOp P o a h v (h.push n) := by
  intro ρ ar w hm hf hrel
  have h0 := hf h.size (Nat.le_refl _) (by simp)
  obtain ⟨v', ob, R, w', h1, h2, h3, h4, h5, h6, h7, h8⟩ := ha ρ ar w h0 hrel
  obtain ⟨s, m⟩ := hm.push h0 h2 h3 h4 h5 h6 h7 hn.1
  exact ⟨_, w', _, v', h1, .inl rfl, s, m, h8⟩

/-- A block of ours is written. -/
theorem Models.write {ρ : Rho} {h : IHeap} {w w' : World} {i : Nat} {R : Ren} {o o' : IObj} {ob : Obj} (hm : Models ρ h w) (hg : h.get i = some o) (hro : o.isRo = false) (hd : o ≠ .dead) (hi : ρ i = some R)
    (hz : w'.heap.size = w.heap.size) (hos : w'.os = w.os) (ht : w'.tape = w.tape) (hou : w'.output = w.output) (hb : w'.heap[R.block]? = some ob) (ho : ORel ρ R o' ob) (hother : ∀ b, b ≠ R.block → w'.heap[b]? = w.heap[b]?) :
    Step ρ h w ρ (h.set i o') w' ∧ Models ρ (h.set i o') w' := by
  have hlt := IHeap.get_lt hg
  refine ⟨⟨Grow.set hg hro hd, by rw [hz]; exact Nat.le_refl _, hos, ht, hou, fun _ _ => rfl, ?_, ?_⟩, ⟨?_, ?_, ?_⟩⟩
  · intro j R' h1 h2
    simp only [IHeap.size_set] at h2; omega
  · intro b hb' hall
    refine hother b (fun e => ?_)
    rcases hall i R o hg hi e.symm with h0 | h0
    · rw [h0] at hro; cases hro
    · exact hd h0
  · intro j R' o1 h1 h2
    rw [IHeap.get_set _ _ _ _ hlt] at h1
    by_cases e : i = j
    · subst e
      rw [if_pos rfl] at h1
      cases h1
      rw [hi] at h2; cases h2
      exact ⟨ob, hb, ho⟩
    · rw [if_neg e] at h1
      by_cases hdj : o1 = .dead
      · subst hdj
        have := hm.lt j R' h2
        rw [← hz] at this
        exact ⟨w'.heap[R'.block], by simp [this], .dead⟩
      · obtain ⟨b, h5, h6⟩ := hm.obj j R' o1 h1 h2
        refine ⟨b, ?_, h6⟩
        rw [hother _ (fun e' => e ((hm.inj i j R R' hi h2 e'.symm (by rw [hg]; simpa using hd) (by rw [h1]; simpa using hdj)).resolve_right (fun x => RoO.not hro (hg ▸ x.1))))]
        exact h5
  · intro j k R1 R2 h1 h2 he hd1 hd2
    have nd : ∀ x, (h.set i o').get x ≠ some .dead → h.get x ≠ some .dead := by
      intro x hx
      rw [IHeap.get_set _ _ _ _ hlt] at hx
      by_cases e : i = x
      · subst e; rw [hg]; simpa using hd
      · rw [if_neg e] at hx; exact hx
    exact (hm.inj j k R1 R2 h1 h2 he (nd j hd1) (nd k hd2)).imp id (fun x => ⟨x.1.grow (Grow.set hg hro hd), x.2.grow (Grow.set hg hro hd)⟩)
  · intro j R' h1
    rw [hz]; exact hm.lt j R' h1

/-- A row's cells in the world. -/
theorem ORel.cells {ρ : Rho} {R : Ren} {ro : Bool} {esz : Nat} {cs : List Value} {ob : Obj} (h : ORel ρ R (.row ro esz cs) ob) : ∃ c e fr, ob = .cells c e fr ∧ (ro = false → (esz = 0 → fr = (0, 0)) ∧ ∀ k, k < c.size → (decide (fr.1 ≤ k) && decide (k < fr.2)) = false) ∧ R.esz = esz ∧ c.size = R.room ∧ R.off + cs.length ≤ c.size ∧
    ∀ (i : Nat) (v : Value), cs[i]? = some v → ∃ v', c[R.off + i]? = some v' ∧ VRel ρ v v' := by
  cases h with
  | row a b c d e => exact ⟨_, _, _, rfl, a, b, c, d, e⟩
theorem cell_of {w : World} {b : Nat} {c : Array Value} {e : TypeId} {fr : Nat × Nat} (h : w.heap[b]? = some (.cells c e fr)) (k : Nat) : w.cell? ⟨b, k, none⟩ = c[k]? := by
  simp [World.cell?, h]
theorem frozen_of {w : World} {b : Nat} {c : Array Value} {e : TypeId} {fr : Nat × Nat} (h : w.heap[b]? = some (.cells c e fr)) (k : Nat) : w.frozen? ⟨b, k, none⟩ = (decide (fr.1 ≤ k) && decide (k < fr.2)) := by
  obtain ⟨x, y⟩ := fr
  simp [World.frozen?, h]

/-- What lies in a row from q on, n cells. -/
def slots (cs : List Value) (q n : Nat) : Option (List Value) := if q + n ≤ cs.length then some ((cs.drop q).take n) else none
theorem slots_run {P : Program} {ρ : Rho} {w : World} {R : Ren} {ro : Bool} {esz : Nat} {cs vs : List Value} {ob : Obj} {q n : Nat} (hb : w.heap[R.block]? = some ob) (ho : ORel ρ R (.row ro esz cs) ob) (hs : slots cs q n = some vs) :
    ∃ vs', (loadCells ⟨R.block, R.off + q, none⟩ n).run P w = .ok vs'.toArray w ∧ LRel ρ vs vs' ∧ vs.length = n := by
  unfold slots at hs
  split at hs
  · rename_i hle
    obtain rfl := Option.some.inj hs
    obtain ⟨c, e, fr, rfl, _, _, hr, hz, hc⟩ := ho.cells
    have hn : ((cs.drop q).take n).length = n := by simp; omega
    have hcell : ∀ j v, ((cs.drop q).take n)[j]? = some v → ∃ v', c[R.off + q + j]? = some v' ∧ VRel ρ v v' := by
      intro j v hj
      rw [List.getElem?_take] at hj
      split at hj
      · rw [List.getElem?_drop] at hj
        rw [Nat.add_assoc]
        exact hc _ _ hj
      · cases hj
    let vs' := (c.toList.drop (R.off + q)).take n
    have hl : vs'.length = n := by simp [vs']; omega
    have hg : ∀ j, j < n → vs'[j]? = c[R.off + q + j]? := by
      intro j hj
      simp only [vs']
      rw [List.getElem?_take, if_pos hj, List.getElem?_drop, Array.getElem?_toList]
    refine ⟨vs', ?_, ⟨by rw [hn, hl], ?_⟩, hn⟩
    · have := run_loadCells_list (P := P) w ⟨R.block, R.off + q, none⟩ vs' (fun j v hj => by
        rw [add_none, cell_of hb]
        have hj' : j < n := by
          rw [← hl]
          exact (List.getElem?_eq_some_iff.1 hj).1
        rw [← hg j hj']; exact hj)
      rwa [hl] at this
    · intro j v hj
      have hj' : j < n := by
        rw [← hn]
        exact (List.getElem?_eq_some_iff.1 hj).1
      rw [hg j hj']
      exact hcell j v hj
  · cases hs

/-- A load's value. -/
def loadOf (P : Program) (t : TypeId) (cs : List Value) (q : Nat) : Option Value :=
  match tagg P t, tsize P t with
  | some true, some n => (slots cs q n).map fun vs => .agg vs.toArray
  | some false, some _ => cs[q]?
  | _, _ => none
theorem read_load {P : Program} {o : Oper} {a : Act} {h : IHeap} {t : TypeId} {x : Operand} {i q : Nat} {ro : Bool} {esz : Nat} {cs : List Value} {v : Value} (ho : o.op = .load t x) (hx : a.eval x = .pointer (some ⟨i, q, none⟩))
    (hg : h.get i = some (.row ro esz cs)) (hv : loadOf P t cs q = some v) : ROp P o a h v [i] := by
  intro ρ ar w hm hrel
  have h0 := hrel x (by simp [ho, Op.operands])
  rw [hx] at h0
  obtain ⟨R, hR, e⟩ := h0.ptr_inv
  obtain ⟨ob, hb, hor⟩ := hm i (by simp) R _ hg hR
  unfold loadOf at hv
  split at hv
  · rename_i n h1 h2
    obtain ⟨vs, hs, rfl⟩ := Option.map_eq_some_iff.mp hv
    obtain ⟨vs', k1, k2, _⟩ := slots_run (P := P) hb hor hs
    refine ⟨.agg vs'.toArray, ?_, .agg (ARel.of_list k2).1 (ARel.of_list k2).2⟩
    simp [execOp, ho, e, Sem.run_bind, Instr.loadAt, Instr.sureAddr, loadVar, run_isAggB h1, run_size h2, k1]
  · rename_i n h1 h2
    obtain ⟨c, e', fr, rfl, _, _, hr, hz, hc⟩ := hor.cells
    obtain ⟨v', k1, k2⟩ := hc q v hv
    refine ⟨v', ?_, k2⟩
    have hcell := cell_of hb (R.off + q)
    rw [k1] at hcell
    simp [execOp, ho, e, Sem.run_bind, Instr.loadAt, Instr.sureAddr, loadVar, run_isAggB h1, load, Sem.run, hcell]
  · cases hv
end Go.Proofs.Ytmobpbhbllhdcaa.Ideal
end
noncomputable section
namespace Go.Proofs.Ytmobpbhbllhdcaa.Ideal
set_option linter.unusedVariables false
set_option linter.unusedSimpArgs false
set_option linter.unnecessarySimpa false

theorem setCells_heap (b : Nat) (t : TypeId) (fr : Nat × Nat) : ∀ (vs : List Value) (o : Nat) (w : World) (cur : Array Value), w.heap[b]? = some (.cells cur t fr) → o + vs.length ≤ cur.size →
    ∃ cur', (w.setCells b o vs).heap[b]? = some (.cells cur' t fr) ∧ cur'.size = cur.size ∧ (∀ k, cur'[k]? = if o ≤ k ∧ k < o + vs.length then vs[k - o]? else cur[k]?) ∧
      (w.setCells b o vs).heap.size = w.heap.size ∧ (∀ b', b' ≠ b → (w.setCells b o vs).heap[b']? = w.heap[b']?) ∧ (w.setCells b o vs).os = w.os ∧ (w.setCells b o vs).tape = w.tape ∧ (w.setCells b o vs).output = w.output
  | [], o, w, cur, h, _ => ⟨cur, h, rfl, fun k => by rw [if_neg (by simp)], rfl, fun _ _ => rfl, rfl, rfl, rfl⟩
  | v :: r, o, w, cur, h, hle => by
    simp only [List.length_cons] at hle
    have h1 : (w.setCell ⟨b, o, none⟩ v).heap[b]? = some (.cells (cur.setIfInBounds o v) t fr) := by
      simp [World.setCell, Array.getElem?_modify, h]
    obtain ⟨cur', g1, g2, g3, g4, g5, g6, g7, g8⟩ := setCells_heap b t fr r (o + 1) (w.setCell ⟨b, o, none⟩ v) (cur.setIfInBounds o v) h1 (by simp; omega)
    have he : w.setCells b o (v :: r) = (w.setCell ⟨b, o, none⟩ v).setCells b (o + 1) r := rfl
    have hsz : (w.setCell ⟨b, o, none⟩ v).heap.size = w.heap.size := by simp [World.setCell]
    rw [he]
    refine ⟨cur', g1, by simpa using g2, fun k => ?_, g4.trans hsz, fun b' hb' => ?_, g6, g7, g8⟩
    · rw [g3 k, Array.getElem?_setIfInBounds]
      by_cases e : k = o
      · subst e
        rw [if_neg (by omega), if_pos rfl, if_pos (by omega), if_pos (by simp), Nat.sub_self]; rfl
      · by_cases c : o + 1 ≤ k ∧ k < o + 1 + r.length
        · rw [if_pos c, if_pos (by simp; omega), show k - o = (k - (o + 1)) + 1 by omega]; rfl
        · rw [if_neg c, if_neg (fun x => e x.symm), if_neg (by simp; omega)]
    · rw [g5 b' hb']
      simp [World.setCell, Array.getElem?_modify, show ¬ b = b' from fun x => hb' x.symm]

/-- vs in the place of what lay there from q on. -/
def splice (cs : List Value) (q : Nat) (vs : List Value) : List Value := cs.take q ++ vs ++ cs.drop (q + vs.length)
theorem splice_length {cs : List Value} {q : Nat} {vs : List Value} (h : q + vs.length ≤ cs.length) : (splice cs q vs).length = cs.length := by
  unfold splice; simp; omega
theorem splice_get {cs : List Value} {q : Nat} {vs : List Value} (h : q + vs.length ≤ cs.length) (k : Nat) : (splice cs q vs)[k]? = if q ≤ k ∧ k < q + vs.length then vs[k - q]? else cs[k]? := by
  unfold splice
  by_cases h1 : k < q
  · rw [if_neg (by omega), List.append_assoc, List.getElem?_append_left (by simp; omega), List.getElem?_take, if_pos h1]
  · by_cases h2 : k < q + vs.length
    · rw [if_pos (by omega), List.append_assoc, List.getElem?_append_right (by simp; omega), List.getElem?_append_left (by simp; omega)]
      congr 1; simp; omega
    · rw [if_neg (by omega), List.append_assoc, List.getElem?_append_right (by simp; omega), List.getElem?_append_right (by simp; omega), List.getElem?_drop]
      congr 1; simp; omega

theorem storeCells_run {P : Program} {ρ : Rho} {w : World} {R : Ren} {esz : Nat} {cs vs vs' : List Value} {ob : Obj} {q : Nat} (hb : w.heap[R.block]? = some ob) (ho : ORel ρ R (.row false esz cs) ob) (hr : LRel ρ vs vs') (hle : q + vs.length ≤ cs.length)
    (h1 : vs.all (·.oneCell') = true) : ∃ w' ob', (storeCells ⟨R.block, R.off + q, none⟩ vs').run P w = .ok () w' ∧ w'.heap.size = w.heap.size ∧ w'.os = w.os ∧ w'.tape = w.tape ∧ w'.output = w.output ∧ w'.heap[R.block]? = some ob' ∧ ORel ρ R (.row false esz (splice cs q vs)) ob' ∧ ∀ b, b ≠ R.block → w'.heap[b]? = w.heap[b]? := by
  obtain ⟨c, e, fr, rfl, hfr, he, hroom, hz, hc⟩ := ho.cells
  have hlen : vs'.length = vs.length := hr.1.symm
  obtain ⟨cur', g1, g2, g3, g4, g5, g6, g7, g8⟩ := setCells_heap R.block e fr vs' (R.off + q) w c hb (by omega)
  refine ⟨_, .cells cur' e fr, ?_, g4, g6, g7, g8, g1, ORel.row (fun h0 => by rw [g2]; exact hfr h0) he (by omega) (by rw [splice_length hle]; omega) ?_, g5⟩
  · have := run_storeCells_cells (P := P) R.block (R.off + q) vs' 0 w (fun j hj => by
      rw [Nat.add_zero, cell_of hb]
      have : R.off + q + j < c.size := by omega
      simp [this]) (fun j hj => by
      rw [Nat.add_zero, frozen_of hb]
      exact (hfr rfl).2 _ (by omega)) (fun v hv => by
      obtain ⟨j, hj⟩ := List.getElem?_of_mem hv
      have hj' : j < vs.length := by
        rw [← hlen]; exact (List.getElem?_eq_some_iff.1 hj).1
      obtain ⟨v2, k1, k2⟩ := hr.2 j vs[j] (by simp [hj'])
      rw [hj] at k1; cases k1
      rw [k2.one]
      exact List.all_eq_true.1 h1 _ (List.getElem_mem hj'))
    simpa using this
  · intro i v hi
    rw [splice_get hle] at hi
    rw [g3]
    split at hi
    · rename_i hin
      obtain ⟨v', k1, k2⟩ := hr.2 _ _ hi
      refine ⟨v', ?_, k2⟩
      rw [if_pos (by omega), show R.off + i - (R.off + q) = i - q by omega]; exact k1
    · rename_i hin
      rw [if_neg (by omega)]
      exact hc i v hi

theorem mem_store {P : Program} {o : Oper} {a : Act} {h : IHeap} {t : TypeId} {x y : Operand} {i q n : Nat} {esz : Nat} {cs : List Value} (ho : o.op = .store t x y) (hx : a.eval x = .pointer (some ⟨i, q, none⟩))
    (hg : h.get i = some (.row false esz cs)) (hs : tsize P t = some n) (hn : (a.eval y).cells.size = n) (hle : q + n ≤ cs.length) (h1 : (a.eval y).cells.toList.all (·.oneCell') = true) :
    MOp P o a h undef (h.set i (.row false esz (splice cs q (a.eval y).cells.toList))) := by
  intro ρ ar w hm _ hrel
  have h0 := hrel x (by simp [ho, Op.operands])
  have h2 := hrel y (by simp [ho, Op.operands])
  rw [hx] at h0
  obtain ⟨R, hR, e⟩ := h0.ptr_inv
  obtain ⟨ob, hb, hor⟩ := hm.obj i R _ hg hR
  have hc := ARel.cells h2
  obtain ⟨w', ob', g1, g2, g3, g4, g5, g6, g7, g8⟩ := storeCells_run (P := P) (q := q) hb hor (.of_arr hc) (by simp [hn]; exact hle) h1
  obtain ⟨s, m⟩ := hm.write hg rfl (by simp) hR g2 g3 g4 g5 g6 g7 g8
  refine ⟨.skip, w', ρ, undef, ?_, .inr ⟨rfl, rfl⟩, s, m, VRel.undef_rel⟩
  have hn' : (ar.eval y).cells.size = n := by rw [← hc.1]; exact hn
  simp [execOp, ho, e, Sem.run_bind, Instr.storeAt, Instr.sureAddr, storeVar, run_size hs, hn', g1]

/-! ### What makes memory -/
theorem upd_same (ρ : Rho) (i : Nat) (R : Ren) : ρ.upd i R i = some R := if_pos rfl
/-- A row of its own: the ren of a block that is new. -/
theorem row_new {ρ : Rho} {id : Nat} {b esz : Nat} {cs cs' : Array Value} {e : TypeId} (hf : ρ id = none) (h : ARel ρ cs cs') : ORel (ρ.upd id ⟨b, 0, cs'.size, esz⟩) ⟨b, 0, cs'.size, esz⟩ (.row false esz cs.toList) (.cells cs' e (0, 0)) :=
  .row (fun _ => ⟨fun _ => rfl, fun k _ => by simp⟩) rfl rfl (by simp [h.1]) (fun i v hv => by
    rw [Array.getElem?_toList] at hv
    obtain ⟨v', h1, h2⟩ := h.get hv
    exact ⟨v', by rw [Nat.zero_add]; exact h1, h2.mono (upd_le hf)⟩)
theorem alloc_box {P : Program} {o : Oper} {a : Act} {id : Nat} {t : TypeId} {x : Operand} (ho : o.op = .box t x) : AOp P o a id (.pointer (some ⟨id, 0, none⟩)) (.row false 0 (a.eval x).cells.toList) := by
  intro ρ ar w hf hrel
  have h0 := ARel.cells (hrel x (by simp [ho, Op.operands]))
  refine ⟨.pointer (some ⟨w.heap.size, 0, none⟩), .cells (ar.eval x).cells t (0, 0), ⟨w.heap.size, 0, (ar.eval x).cells.size, 0⟩, { w with heap := w.heap.push (.cells (ar.eval x).cells t (0, 0)) }, ?_, rfl, rfl, rfl, rfl, rfl, row_new hf h0, ?_⟩
  · simp [execOp, ho, Sem.run_bind, Instr.box, newVar, newRow, newObj, Sem.run]
  · have := VRel.ptr (o := 0) (upd_same ρ id ⟨w.heap.size, 0, (ar.eval x).cells.size, 0⟩)
    simpa using this
theorem alloc_alloc {P : Program} {o : Oper} {a : Act} {id : Nat} {t : TypeId} {z : Array Value} (ho : o.op = .alloc t) (hz : zeroOf P t = some z) : AOp P o a id (.pointer (some ⟨id, 0, none⟩)) (.row false 0 z.toList) := by
  intro ρ ar w hf hrel
  obtain ⟨z0, rfl, hsc, hzr⟩ := zeroOf_inv hz
  refine ⟨.pointer (some ⟨w.heap.size, 0, none⟩), .cells z0.cells t (0, 0), ⟨w.heap.size, 0, z0.cells.size, 0⟩, { w with heap := w.heap.push (.cells z0.cells t (0, 0)) }, ?_, rfl, rfl, rfl, rfl, rfl, row_new hf (.plain hsc), ?_⟩
  · simp [execOp, ho, Sem.run_bind, Instr.alloc, hzr, newVar, newRow, newObj, Sem.run]
  · have := VRel.ptr (o := 0) (upd_same ρ id ⟨w.heap.size, 0, z0.cells.size, 0⟩)
    simpa using this
/-- n elements, all zero. -/
def zeros (z : Array Value) (n : Nat) : List Value := (List.replicate n z.toList).flatten
theorem zeros_cells (z : Array Value) (n : Nat) : ((Array.range (n * z.size)).map (fun i => z[i % z.size]!)) = (zeros z n).toArray := by
  apply Array.ext'
  rw [Array.toList_map, Array.toList_range]
  unfold zeros
  induction n with
  | zero => simp
  | succ n ih =>
    have hadd : ∀ m k, (List.range (m + k)) = List.range m ++ (List.range k).map (m + ·) := fun m k => List.range_add
    rw [Nat.succ_mul, hadd, List.map_append, ih]
    have : (List.replicate (n + 1) z.toList).flatten = (List.replicate n z.toList).flatten ++ z.toList := by
      rw [List.replicate_succ', List.flatten_append]; simp
    show _ = (List.replicate (n + 1) z.toList).flatten
    rw [this]
    congr 1
    apply List.ext_getElem?
    intro k
    rw [List.map_map, List.getElem?_map]
    by_cases hk : k < z.size
    · rw [List.getElem?_range hk]
      simp [hk, Nat.mod_eq_of_lt hk]
    · rw [List.getElem?_eq_none (by simp; omega), List.getElem?_eq_none (by simp; omega)]
      rfl
theorem zeroOf_size {P : Program} {t : TypeId} {z : Array Value} (h : zeroOf P t = some z) : z.all scal = true := by
  obtain ⟨z0, rfl, hsc, _⟩ := zeroOf_inv h
  exact hsc
theorem zeros_plain {z : Array Value} (h : z.all scal = true) (n : Nat) : (zeros z n).toArray.all scal = true := by
  rw [Array.all_eq_true_iff_forall_mem] at *
  intro v hv
  simp [zeros, List.mem_flatten] at hv
  obtain ⟨l, ⟨_, rfl⟩, hv⟩ := hv
  exact h v (by simpa using hv)
end Go.Proofs.Ytmobpbhbllhdcaa.Ideal
end
noncomputable section
namespace Go.Proofs.Ytmobpbhbllhdcaa.Ideal
set_option linter.unusedVariables false
set_option linter.unusedSimpArgs false
set_option linter.unnecessarySimpa false

theorem wrap_in (x : Int) (h0 : 0 ≤ x) (h1 : x < 9223372036854775808) : IntKind.i64.wrap x = x := by
  unfold IntKind.wrap
  simp [IntKind.bits, IntKind.signed, IntKind.min, IntKind.max]
  omega

theorem alloc_buildSlice {P : Program} {o : Oper} {a : Act} {id : Nat} {t e : TypeId} {n s : Nat} {ps : Array (Nat × Operand)} {z out : Array Value} (ho : o.op = .buildSlice t n ps) (ht : slcOf P t = some (e, s)) (hz : zeroOf P e = some z) (hzs : z.size = s)
    (hn : n * s ≤ 16777216) (hf : Instr.fill (fun i => some (i * s, s)) (zeros z n).toArray (ps.map fun (i, x) => (i, a.eval x)).toList = some out) : AOp P o a id (.slice (some ⟨id, 0, none⟩) n n) (.row false s out.toList) := by
  intro ρ ar w hfr hrel
  obtain ⟨hu, hs⟩ := slcOf_inv ht
  obtain ⟨z0, rfl, hsc, hzr⟩ := zeroOf_inv hz
  subst hzs
  obtain ⟨out', hf', hr⟩ := fill_rel (ρ := ρ) _ _ _ _ _ _ (parts_rel (ar := ar) ps (fun p hp => hrel p.2 (by simp [ho, Op.operands]; exact ⟨p.1, hp⟩))) (.plain (zeros_plain hsc n)) hf
  have key : ∀ pv : Array (Nat × Value), Instr.fill (fun i => some (i * z0.cells.size, z0.cells.size)) (zeros z0.cells n).toArray pv.toList = some out' →
      (Instr.buildSlice t n pv).run P w = .ok (.slice (some ⟨w.heap.size, 0, none⟩) n n) { w with heap := w.heap.push (.cells out' e (0, 0)) } := by
    intro pv hpv
    have hcells := zeros_cells z0.cells n
    rw [← hcells] at hpv
    have hn' : ¬ (n * z0.cells.size > 2 ^ 24) := by omega
    by_cases h0 : n * z0.cells.size = 0
    · have e0 : ∀ f : Nat → Value, (Array.range (n * z0.cells.size)).map f = #[] := fun f => by rw [h0]; simp
      rw [e0] at hpv
      simp only [Instr.buildSlice, Sem.run_bind, run_under hu, Result.andThen_ok, run_size hs, hn', if_false, if_pos h0, Sem.run_pure, e0, hpv]
      simp [newRow, newObj, Sem.run]
    · simp only [Instr.buildSlice, Sem.run_bind, run_under hu, Result.andThen_ok, run_size hs, hn', if_false, if_neg h0, Sem.run_pure, hzr, hpv]
      simp [newRow, newObj, Sem.run]
  refine ⟨.slice (some ⟨w.heap.size, 0, none⟩) n n, .cells out' e (0, 0), ⟨w.heap.size, 0, out'.size, z0.cells.size⟩, { w with heap := w.heap.push (.cells out' e (0, 0)) }, ?_, rfl, rfl, rfl, rfl, rfl, row_new hfr hr, ?_⟩
  · simp only [execOp, ho, Sem.run_bind, key _ hf', Result.andThen_ok]
    rfl
  · have := VRel.slc (o := 0) (n := n) (c := n) (upd_same ρ id ⟨w.heap.size, 0, out'.size, z0.cells.size⟩) (.inl rfl)
    simpa using this

theorem alloc_makeSlice {P : Program} {o : Oper} {a : Act} {id : Nat} {t e : TypeId} {s bytes : Nat} {x y : Operand} {k k' : IntKind} {n c : Int} {z : Array Value} (ho : o.op = .makeSlice t x y) (ht : slcOf P t = some (e, s)) (hz : zeroOf P e = some z) (hzs : z.size = s)
    (hb : (P.info? e).map (·.bytes) = some bytes) (hx : a.eval x = .int k n) (hy : a.eval y = .int k' c) (h0 : 0 ≤ n) (h1 : n ≤ c) (h2 : c < 9223372036854775808) (h3 : bytes * c ≤ 140737488355328) :
    AOp P o a id (.slice (some ⟨id, 0, none⟩) n.toNat c.toNat) (.row false s (zeros z c.toNat)) := by
  intro ρ ar w hfr hrel
  obtain ⟨hu, hs⟩ := slcOf_inv ht
  have g1 := hrel x (by simp [ho, Op.operands])
  have g2 := hrel y (by simp [ho, Op.operands])
  rw [hx] at g1
  rw [hy] at g2
  obtain ⟨z0, rfl, hsc, hzr⟩ := zeroOf_inv hz
  subst hzs
  obtain ⟨i, hi, rfl⟩ := Option.map_eq_some_iff.mp hb
  have hrun : ∀ w, (typeInfo e).run P w = .ok i w := fun w => by simp [typeInfo, program, Sem.run_bind, Sem.run, hi]
  have hcells := zeros_cells z0.cells c.toNat
  have wn := wrap_in n h0 (by omega)
  have wc := wrap_in c (by omega) h2
  refine ⟨.slice (some ⟨w.heap.size, 0, none⟩) n.toNat c.toNat, .cells (zeros z0.cells c.toNat).toArray e (0, 0), ⟨w.heap.size, 0, (zeros z0.cells c.toNat).toArray.size, z0.cells.size⟩, { w with heap := w.heap.push (.cells (zeros z0.cells c.toNat).toArray e (0, 0)) }, ?_, rfl, rfl, rfl, rfl, rfl, ?_, ?_⟩
  · have hroom : ¬ (c.toNat * i.bytes > roomBytes) := by
      unfold roomBytes
      have : ((c.toNat * i.bytes : Nat) : Int) ≤ 140737488355328 := by
        rw [Int.natCast_mul, Int.toNat_of_nonneg (by omega), Int.mul_comm]; exact h3
      omega
    have e1 : ¬ (c < 0) := by omega
    have e2 : ¬ (n < 0) := by omega
    have e3 : ¬ (c < n) := by omega
    have e4 : ¬ (281474976710656 < (i.bytes : Int) * c) := by omega
    simp only [execOp, ho, g1.int_inv, g2.int_inv, Sem.run_bind, Instr.makeSlice, run_under hu, asInt, asIntOf, Sem.run_pure, Result.andThen_ok, hrun, wn, wc, askRoom, hroom, if_false]
    by_cases hz0 : c.toNat * z0.cells.size = 0
    · have e0 : ∀ f : Nat → Value, (Array.range (c.toNat * z0.cells.size)).map f = #[] := fun f => by rw [hz0]; simp
      rw [e0] at hcells
      rw [← hcells]
      simp [e1, e2, e3, e4, run_size hs, hz0, newRow, newObj, Sem.run]
      rw [show Array.map (fun x : Nat => (default : Value)) (Array.range 0) = #[] from by simp]
    · simp [e1, e2, e3, e4, run_size hs, hzr, hz0, newRow, newObj, Sem.run, ← hcells]
  · have := row_new (ρ := ρ) (id := id) (b := w.heap.size) (esz := z0.cells.size) (e := e) hfr (ARel.plain (ρ := ρ) (zeros_plain hsc c.toNat))
    simpa using this
  · have := VRel.slc (o := 0) (n := n.toNat) (c := c.toNat) (upd_same ρ id ⟨w.heap.size, 0, (zeros z0.cells c.toNat).toArray.size, z0.cells.size⟩) (.inl rfl)
    simpa using this

theorem alloc_makeMap {P : Program} {o : Oper} {a : Act} {id : Nat} {t : TypeId} (ho : o.op = .makeMap t none) : AOp P o a id (.map (some id)) (.map [] 0) := by
  intro ρ ar w hfr hrel
  refine ⟨.map (some w.heap.size), .map #[] 0, ⟨w.heap.size, 0, 0, 0⟩, { w with heap := w.heap.push (.map #[] 0) }, ?_, rfl, rfl, rfl, rfl, rfl, .map rfl (fun i e he => by simp at he), ?_⟩
  · simp [execOp, ho, Sem.run_bind, Instr.makeMap, newObj, Sem.run]
  · exact .mp (R := ⟨w.heap.size, 0, 0, 0⟩) (upd_same ρ id _)

/-- Bounds are whole numbers: they are the same in the world. -/
theorem bounds_ops {ρ : Rho} {a ar : Act} {n cap : Nat} {lo hi mx : Option Operand} {r : Nat × Nat × Nat} (hb : bounds n cap (lo.map a.eval) (hi.map a.eval) (mx.map a.eval) = some r)
    (hl : ∀ x, lo = some x → VRel ρ (a.eval x) (ar.eval x)) (hh : ∀ x, hi = some x → VRel ρ (a.eval x) (ar.eval x)) (hm : ∀ x, mx = some x → VRel ρ (a.eval x) (ar.eval x)) :
    lo.map ar.eval = lo.map a.eval ∧ hi.map ar.eval = hi.map a.eval ∧ mx.map ar.eval = mx.map a.eval := by
  have key : ∀ (x : Operand) (y k : Nat), bnd (a.eval x) y = some k → VRel ρ (a.eval x) (ar.eval x) → ar.eval x = a.eval x := by
    intro x y k hx hr
    obtain ⟨q, i, e, _⟩ := bnd_inv hx
    rw [e] at hr ⊢
    exact hr.int_inv
  unfold bounds at hb
  split at hb
  · rename_i m hm'
    split at hb
    · rename_i h hh'
      split at hb
      · split at hb
        · rename_i l hl'
          refine ⟨?_, ?_, ?_⟩
          · cases lo with
            | none => rfl
            | some x => simp only [Option.map_some] at hl' ⊢; rw [key x _ _ hl' (hl x rfl)]
          · cases hi with
            | none => rfl
            | some x => simp only [Option.map_some] at hh' ⊢; rw [key x _ _ hh' (hh x rfl)]
          · cases mx with
            | none => rfl
            | some x => simp only [Option.map_some] at hm' ⊢; rw [key x _ _ hm' (hm x rfl)]
        · cases hb
      · cases hb
    · cases hb
  · cases hb

theorem bounds_le {n cap l h m : Nat} {lo hi mx : Option Value} (hb : bounds n cap lo hi mx = some (l, h, m)) : m ≤ cap := by
  unfold bounds at hb
  split at hb
  · rename_i m0 hm0
    have : m0 ≤ cap := by
      split at hm0
      · exact bnd_le hm0
      · cases hm0; omega
    split at hb
    · split at hb
      · split at hb
        · cases hb; omega
        · cases hb
      · cases hb
    · cases hb
  · cases hb
/-- The cut of a slice, its address: an empty one of which nothing is left is marked. -/
def cutAddr (i q l s h m : Nat) (exact : Bool) : Addr := ⟨i, q + l * s, if exact && m == l then some 0 else none⟩
theorem read_sliceS {P : Program} {o : Oper} {a : Act} {hp : IHeap} {t e : TypeId} {s : Nat} {x : Operand} {lo hi mx : Option Operand} {i q n c l h m : Nat} {ro : Bool} {esz : Nat} {cs : List Value} (ho : o.op = .slice t x lo hi mx) (hx : a.eval x = .slice (some ⟨i, q, none⟩) n c)
    (ht : slcOf P t = some (e, s)) (hb : bounds n c (lo.map a.eval) (hi.map a.eval) (mx.map a.eval) = some (l, h, m)) (hg : hp.get i = some (.row ro esz cs)) (hs : esz = 0 ∨ esz = s) :
    ROp P o a hp (.slice (some (cutAddr i q l s h m mx.isSome)) (h - l) (m - l)) [i] := by
  intro ρ ar w hm hrel
  have h0 := hrel x (by simp [ho, Op.operands])
  rw [hx] at h0
  obtain ⟨hu, hsz⟩ := slcOf_inv ht
  obtain ⟨e1, e2, e3⟩ := bounds_ops (ar := ar) hb (fun y hy => hrel y (by simp [ho, Op.operands, hy])) (fun y hy => hrel y (by simp [ho, Op.operands, hy])) (fun y hy => hrel y (by simp [ho, Op.operands, hy]))
  rcases h0.slc_inv with ⟨R, c', hR, hc, e0⟩ | ⟨rfl, rfl, a', e0⟩
  · obtain ⟨ob, hb', hor⟩ := hm i (by simp) R _ hg hR
    obtain ⟨_, _, _, _, _, hez, _⟩ := hor.cells
    obtain ⟨m', k1, k2, k3, k4, k5, k6⟩ := bounds_run (P := P) hb (show c ≤ c' by omega) true w
    have hrun : (execOp ar.eval o).run P w = .ok (.value (.slice (if m' = l then some ⟨R.block, R.off + q, none⟩ else some ⟨R.block, R.off + q + l * s, none⟩) (h - l) (m' - l))) w := by
      simp only [execOp, ho, e0, Sem.run_bind, Instr.sliceAt, run_under hu, Instr.slice, e1, e2, e3, k1, Result.andThen_ok, run_size hsz]
      by_cases hml : m' = l
      · simp [hml]
      · simp [hml, add_none]
    refine ⟨_, hrun, ?_⟩
    by_cases hml : m' = l
    · rw [if_pos hml, show h - l = 0 by omega, show m' - l = 0 by omega, show m - l = 0 by omega]
      unfold cutAddr
      split
      · exact .slcE
      · exact .slc0
    · rw [if_neg hml, Nat.add_assoc]
      have hex : (mx.isSome && m == l) = false := by
        cases hmx : mx with
        | none => rfl
        | some vm =>
          have := k6 (by rw [hmx]; rfl)
          simp; omega
      unfold cutAddr
      rw [hex]
      refine .slc hR ?_
      rcases k5 with rfl | ⟨rfl, rfl⟩
      · exact .inl rfl
      · rcases hc with rfl | ⟨c1, c2, c3⟩
        · exact .inl rfl
        · refine .inr ⟨by omega, c2, ?_⟩
          have : s = R.esz := by omega
          subst this
          have h5 : l * R.esz + (m' - l) * R.esz = m' * R.esz := by
            rw [← Nat.add_mul]; congr 1; omega
          omega
  · obtain ⟨m', k1, k2, k3, k4, k5, _⟩ := bounds_run (P := P) hb (Nat.le_refl 0) true w
    have hm0 : m ≤ 0 := bounds_le hb
    have hm' : m' = 0 := by omega
    have hrun : (execOp ar.eval o).run P w = .ok (.value (.slice (some a') 0 0)) w := by
      simp only [execOp, ho, e0, Sem.run_bind, Instr.sliceAt, run_under hu, Instr.slice, e1, e2, e3, k1, Result.andThen_ok, run_size hsz]
      rw [if_pos (show m' = l by omega), show h - l = 0 by omega, show m' - l = 0 by omega]
      rfl
    refine ⟨_, hrun, ?_⟩
    rw [show h - l = 0 by omega, show m - l = 0 by omega]
    unfold cutAddr
    split
    · exact .slcE
    · exact .slc0
/-- An empty slice of which nothing is left, cut again. -/
theorem pure_sliceE {P : Program} {o : Oper} {a : Act} {t e : TypeId} {s : Nat} {x : Operand} {lo hi mx : Option Operand} {i q u l h m : Nat} (ho : o.op = .slice t x lo hi mx) (hx : a.eval x = .slice (some ⟨i, q, some u⟩) 0 0)
    (ht : slcOf P t = some (e, s)) (hb : bounds 0 0 (lo.map a.eval) (hi.map a.eval) (mx.map a.eval) = some (l, h, m)) : PureOp P o a (.slice (some ⟨i, q, some u⟩) 0 0) := by
  intro ρ ar w hrel
  have h0 := hrel x (by simp [ho, Op.operands])
  rw [hx] at h0
  obtain ⟨hu, hsz⟩ := slcOf_inv ht
  obtain ⟨e1, e2, e3⟩ := bounds_ops (ar := ar) hb (fun y hy => hrel y (by simp [ho, Op.operands, hy])) (fun y hy => hrel y (by simp [ho, Op.operands, hy])) (fun y hy => hrel y (by simp [ho, Op.operands, hy]))
  have e0 : ∃ a', ar.eval x = .slice (some a') 0 0 := by
    generalize ar.eval x = z at h0
    cases h0 with
    | base h => simp [scal] at h
    | slcE => exact ⟨_, rfl⟩
  obtain ⟨a', e0⟩ := e0
  obtain ⟨m', k1, k2, k3, k4, k5, _⟩ := bounds_run (P := P) hb (Nat.le_refl 0) true w
  have hm0 : m ≤ 0 := bounds_le hb
  have hrun : (execOp ar.eval o).run P w = .ok (.value (.slice (some a') 0 0)) w := by
    simp only [execOp, ho, e0, Sem.run_bind, Instr.sliceAt, run_under hu, Instr.slice, e1, e2, e3, k1, Result.andThen_ok, run_size hsz]
    rw [if_pos (show m' = l by omega), show h - l = 0 by omega, show m' - l = 0 by omega]
    rfl
  exact ⟨_, hrun, .slcE⟩

theorem pure_sliceA {P : Program} {o : Oper} {a : Act} {t : TypeId} {s N : Nat} {x : Operand} {lo hi mx : Option Operand} {i q l h m : Nat} (ho : o.op = .slice t x lo hi mx) (hx : a.eval x = .pointer (some ⟨i, q, none⟩))
    (ht : arrOf P t = some (N, s)) (hb : bounds N N (lo.map a.eval) (hi.map a.eval) (mx.map a.eval) = some (l, h, m)) : PureOp P o a (.slice (some (cutAddr i q l s h m true)) (h - l) (m - l)) := by
  intro ρ ar w hrel
  have h0 := hrel x (by simp [ho, Op.operands])
  rw [hx] at h0
  obtain ⟨e, hu, hsz⟩ := arrOf_inv ht
  obtain ⟨e1, e2, e3⟩ := bounds_ops (ar := ar) hb (fun y hy => hrel y (by simp [ho, Op.operands, hy])) (fun y hy => hrel y (by simp [ho, Op.operands, hy])) (fun y hy => hrel y (by simp [ho, Op.operands, hy]))
  obtain ⟨R, hR, e0⟩ := h0.ptr_inv
  obtain ⟨m', k1, k2, k3, k4, k5, _⟩ := bounds_run (P := P) hb (Nat.le_refl N) false w
  have hmm : m' = m := by omega
  subst hmm
  have hrun : (execOp ar.eval o).run P w = .ok (.value (.slice (if m' = l then some ⟨R.block, R.off + q, none⟩ else some ⟨R.block, R.off + q + l * s, none⟩) (h - l) (m' - l))) w := by
    simp only [execOp, ho, e0, Sem.run_bind, Instr.sliceAt, run_under hu, Instr.sureAddr, e1, e2, e3, k1, Sem.run_pure, Result.andThen_ok, run_size hsz]
    by_cases hml : m' = l
    · simp [hml]
    · simp [hml, add_none]
  refine ⟨_, hrun, ?_⟩
  by_cases hml : m' = l
  · rw [if_pos hml, show h - l = 0 by omega, show m' - l = 0 by omega]
    unfold cutAddr
    split
    · exact .slcE
    · exact .slc0
  · rw [if_neg hml, Nat.add_assoc]
    have : (true && m' == l) = false := by simpa using hml
    unfold cutAddr
    rw [this]
    exact .slc hR (.inl rfl)
end Go.Proofs.Ytmobpbhbllhdcaa.Ideal
end
