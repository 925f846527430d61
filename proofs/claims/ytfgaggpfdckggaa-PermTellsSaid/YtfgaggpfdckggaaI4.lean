/- Operations on memory: what each class promises; loads and stores. -/
import Derived.Test.YtfgaggpfdckggaaI3
import Derived.Laws.IdiomCopy
noncomputable section
namespace Go.Proofs.Ytfgaggpfdckggaa.Ideal
set_option linter.unusedVariables false
set_option linter.unusedSimpArgs false
set_option linter.unnecessarySimpa false

theorem getD_opt {α : Type} [Inhabited α] {xs : Array α} {i : Nat} {v d : α} (h : xs[i]? = some v) : xs.getD i d = v := by
  obtain ⟨hi, e⟩ := Array.getElem?_eq_some_iff.1 h
  simp [Array.getD, hi, e]

theorem VRel.one {ρ : Rho} {v v' : Value} (h : VRel ρ v v') : v'.oneCell' = v.oneCell' := by
  cases h <;> rfl

/-- An operation, by what it does to memory. -/
def MOp (P : Program) (o : Oper) (a : Act) (h : IHeap) (v : Value) (h' : IHeap) : Prop :=
  ∀ (ρ : Rho) (ar : Act) (w : World), Models ρ h w → Fresh ρ h.size h'.size → OpsRel ρ o a ar →
    ∃ nx w' ρ' v', (execOp ar.eval o).run P w = .ok nx w' ∧ (nx = .value v' ∨ (nx = .skip ∧ v' = undef)) ∧ Step ρ h w ρ' h' w' ∧ Models ρ' h' w' ∧ VRel ρ' v v'
/-- It reads the blocks 'ids' alone, and changes nothing. -/
def ROp (P : Program) (o : Oper) (a : Act) (h : IHeap) (v : Value) (ids : List Nat) : Prop :=
  ∀ (ρ : Rho) (ar : Act) (w : World), (∀ i ∈ ids, ∀ R ob, h.get i = some ob → ρ i = some R → ∃ b, w.heap[R.block]? = some b ∧ ORel ρ R ob b) → OpsRel ρ o a ar →
    ∃ v', (execOp ar.eval o).run P w = .ok (.value v') w ∧ VRel ρ v v'
def Rho.upd (ρ : Rho) (i : Nat) (R : Ren) : Rho := fun j => if j = i then some R else ρ j
/-- It makes one block, n, behind all others, and changes nothing; id: the block's number. -/
def AOp (P : Program) (o : Oper) (a : Act) (id : Nat) (v : Value) (n : IObj) : Prop :=
  ∀ (ρ : Rho) (ar : Act) (w : World), ρ id = none → OpsRel ρ o a ar →
    ∃ v' ob R w', (execOp ar.eval o).run P w = .ok (.value v') w' ∧ w'.heap = w.heap.push ob ∧ w'.os = w.os ∧ w'.tape = w.tape ∧ w'.output = w.output ∧ R.block = w.heap.size ∧ ORel (ρ.upd id R) R n ob ∧ VRel (ρ.upd id R) v v'

theorem ROp.of_pure {P : Program} {o : Oper} {a : Act} {v : Value} (h : PureOp P o a v) (hp : IHeap) : ROp P o a hp v [] := fun ρ ar w _ hrel => h ρ ar w hrel
theorem MOp.of_read {P : Program} {o : Oper} {a : Act} {h : IHeap} {v : Value} {ids : List Nat} (hr : ROp P o a h v ids) : MOp P o a h v h := by
  intro ρ ar w hm _ hrel
  obtain ⟨v', h1, h2⟩ := hr ρ ar w (fun i _ R ob hg hi => hm.obj i R ob hg hi) hrel
  exact ⟨_, w, ρ, v', h1, .inl rfl, Step.refl _ _ _, hm, h2⟩
theorem MOp.of_pure {P : Program} {o : Oper} {a : Act} {h : IHeap} {v : Value} (hp : PureOp P o a v) : MOp P o a h v h := .of_read (.of_pure hp h)

theorem upd_le {ρ : Rho} {i : Nat} {R : Ren} (hi : ρ i = none) : ∀ j R', ρ j = some R' → ρ.upd i R j = some R' := fun j R' hj => by
  unfold Rho.upd
  by_cases e : j = i
  · subst e; rw [hi] at hj; cases hj
  · rw [if_neg e]; exact hj
/-- A new block. -/
theorem Models.push {ρ : Rho} {h : IHeap} {w w' : World} {n : IObj} {ob : Obj} {R : Ren} (hm : Models ρ h w) (hf : ρ h.size = none) (hw : w'.heap = w.heap.push ob) (hos : w'.os = w.os) (ht : w'.tape = w.tape) (hou : w'.output = w.output)
    (hR : R.block = w.heap.size) (ho : ORel (ρ.upd h.size R) R n ob) (hn : n ≠ .dead := by intro e; cases e) : Step ρ h w (ρ.upd h.size R) (h.push n) w' ∧ Models (ρ.upd h.size R) (h.push n) w' := by
  have hup : ∀ i R', ρ.upd h.size R i = some R' → (i = h.size ∧ R' = R) ∨ (i ≠ h.size ∧ ρ i = some R') := by
    intro i R' hi
    unfold Rho.upd at hi
    split at hi
    · exact .inl ⟨by assumption, (Option.some.inj hi).symm⟩
    · exact .inr ⟨by assumption, hi⟩
  refine ⟨⟨Grow.push _ _, by rw [hw]; simp, hos, ht, hou, ?_, ?_, ?_⟩, ⟨?_, ?_, ?_⟩⟩
  · intro i hi
    simp only [IHeap.size_push] at hi
    unfold Rho.upd
    rw [if_neg (by omega)]
  · intro i R' h1 h2 hi
    rcases hup i R' hi with ⟨_, rfl⟩ | ⟨h3, _⟩
    · exact .inl (by omega)
    · simp only [IHeap.size_push] at h2; omega
  · intro b hb _
    rw [hw, Array.getElem?_push]
    rw [if_neg (by omega)]
  · intro i R' o hg hi
    rw [IHeap.get_push] at hg
    rcases hup i R' hi with ⟨rfl, rfl⟩ | ⟨h3, h4⟩
    · rw [if_pos rfl] at hg
      cases hg
      exact ⟨ob, by rw [hw, Array.getElem?_push, if_pos hR], ho⟩
    · rw [if_neg h3] at hg
      obtain ⟨b, h5, h6⟩ := hm.obj i R' o hg h4
      refine ⟨b, ?_, h6.mono (upd_le hf)⟩
      rw [hw, Array.getElem?_push, if_neg (by have := hm.lt i R' h4; omega)]; exact h5
  · intro i j R1 R2 h1 h2 he hd1 hd2
    rw [IHeap.get_push] at hd1 hd2
    rcases hup i R1 h1 with ⟨rfl, rfl⟩ | ⟨h3, h4⟩ <;> rcases hup j R2 h2 with ⟨rfl, rfl⟩ | ⟨h5, h6⟩
    · rfl
    · have := hm.lt j R2 h6; omega
    · have := hm.lt i R1 h4; omega
    · rw [if_neg h3] at hd1
      rw [if_neg h5] at hd2
      exact hm.inj i j R1 R2 h4 h6 he hd1 hd2
  · intro i R' hi
    rw [hw, Array.size_push]
    rcases hup i R' hi with ⟨rfl, rfl⟩ | ⟨h3, h4⟩
    · omega
    · have := hm.lt i R' h4; omega
theorem MOp.of_alloc {P : Program} {o : Oper} {a : Act} {h : IHeap} {v : Value} {n : IObj} (ha : AOp P o a h.size v n) (hn : n ≠ .dead) : MOp P o a h v (h.push n) := by
  intro ρ ar w hm hf hrel
  have h0 := hf h.size (Nat.le_refl _) (by simp)
  obtain ⟨v', ob, R, w', h1, h2, h3, h4, h5, h6, h7, h8⟩ := ha ρ ar w h0 hrel
  obtain ⟨s, m⟩ := hm.push h0 h2 h3 h4 h5 h6 h7 hn
  exact ⟨_, w', _, v', h1, .inl rfl, s, m, h8⟩

/-- A block of ours is written. -/
theorem Models.write {ρ : Rho} {h : IHeap} {w w' : World} {i : Nat} {R : Ren} {o o' : IObj} {ob : Obj} (hm : Models ρ h w) (hg : h.get i = some o) (hro : o.isRo = false) (hd : o ≠ .dead) (hi : ρ i = some R)
    (hz : w'.heap.size = w.heap.size) (hos : w'.os = w.os) (ht : w'.tape = w.tape) (hou : w'.output = w.output) (hb : w'.heap[R.block]? = some ob) (ho : ORel ρ R o' ob) (hother : ∀ b, b ≠ R.block → w'.heap[b]? = w.heap[b]?) :
    Step ρ h w ρ (h.set i o') w' ∧ Models ρ (h.set i o') w' := by
  have hlt := IHeap.get_lt hg
  refine ⟨⟨Grow.set hg hro hd, by rw [hz]; exact Nat.le_refl _, hos, ht, hou, fun _ _ => rfl, ?_, ?_⟩, ⟨?_, ?_, ?_⟩⟩
  · intro j R' h1 h2
    simp only [IHeap.size_set] at h2; omega
  · intro b hb' hall
    refine hother b (fun e => ?_)
    rcases hall i R o hg hi e.symm with h0 | h0
    · rw [h0] at hro; cases hro
    · exact hd h0
  · intro j R' o1 h1 h2
    rw [IHeap.get_set _ _ _ _ hlt] at h1
    by_cases e : i = j
    · subst e
      rw [if_pos rfl] at h1
      cases h1
      rw [hi] at h2; cases h2
      exact ⟨ob, hb, ho⟩
    · rw [if_neg e] at h1
      by_cases hdj : o1 = .dead
      · subst hdj
        have := hm.lt j R' h2
        rw [← hz] at this
        exact ⟨w'.heap[R'.block], by simp [this], .dead⟩
      · obtain ⟨b, h5, h6⟩ := hm.obj j R' o1 h1 h2
        refine ⟨b, ?_, h6⟩
        rw [hother _ (fun e' => e (hm.inj i j R R' hi h2 e'.symm (by rw [hg]; simpa using hd) (by rw [h1]; simpa using hdj)))]
        exact h5
  · intro j k R1 R2 h1 h2 he hd1 hd2
    have nd : ∀ x, (h.set i o').get x ≠ some .dead → h.get x ≠ some .dead := by
      intro x hx
      rw [IHeap.get_set _ _ _ _ hlt] at hx
      by_cases e : i = x
      · subst e; rw [hg]; simpa using hd
      · rw [if_neg e] at hx; exact hx
    exact hm.inj j k R1 R2 h1 h2 he (nd j hd1) (nd k hd2)
  · intro j R' h1
    rw [hz]; exact hm.lt j R' h1

/-- A row's cells in the world. -/
theorem ORel.cells {ρ : Rho} {R : Ren} {ro : Bool} {esz : Nat} {cs : List Value} {ob : Obj} (h : ORel ρ R (.row ro esz cs) ob) : ∃ c e fr, ob = .cells c e fr ∧ (ro = false → (esz = 0 → fr = (0, 0)) ∧ ∀ k, k < c.size → (decide (fr.1 ≤ k) && decide (k < fr.2)) = false) ∧ R.esz = esz ∧ c.size = R.room ∧ R.off + cs.length ≤ c.size ∧
    ∀ (i : Nat) (v : Value), cs[i]? = some v → ∃ v', c[R.off + i]? = some v' ∧ VRel ρ v v' := by
  cases h with
  | row a b c d e => exact ⟨_, _, _, rfl, a, b, c, d, e⟩
theorem cell_of {w : World} {b : Nat} {c : Array Value} {e : TypeId} {fr : Nat × Nat} (h : w.heap[b]? = some (.cells c e fr)) (k : Nat) : w.cell? ⟨b, k, none⟩ = c[k]? := by
  simp [World.cell?, h]
theorem frozen_of {w : World} {b : Nat} {c : Array Value} {e : TypeId} {fr : Nat × Nat} (h : w.heap[b]? = some (.cells c e fr)) (k : Nat) : w.frozen? ⟨b, k, none⟩ = (decide (fr.1 ≤ k) && decide (k < fr.2)) := by
  obtain ⟨x, y⟩ := fr
  simp [World.frozen?, h]

/-- What lies in a row from q on, n cells. -/
def slots (cs : List Value) (q n : Nat) : Option (List Value) := if q + n ≤ cs.length then some ((cs.drop q).take n) else none
theorem slots_run {P : Program} {ρ : Rho} {w : World} {R : Ren} {ro : Bool} {esz : Nat} {cs vs : List Value} {ob : Obj} {q n : Nat} (hb : w.heap[R.block]? = some ob) (ho : ORel ρ R (.row ro esz cs) ob) (hs : slots cs q n = some vs) :
    ∃ vs', (loadCells ⟨R.block, R.off + q, none⟩ n).run P w = .ok vs'.toArray w ∧ LRel ρ vs vs' ∧ vs.length = n := by
  unfold slots at hs
  split at hs
  · rename_i hle
    obtain rfl := Option.some.inj hs
    obtain ⟨c, e, fr, rfl, _, _, hr, hz, hc⟩ := ho.cells
    have hn : ((cs.drop q).take n).length = n := by simp; omega
    have hcell : ∀ j v, ((cs.drop q).take n)[j]? = some v → ∃ v', c[R.off + q + j]? = some v' ∧ VRel ρ v v' := by
      intro j v hj
      rw [List.getElem?_take] at hj
      split at hj
      · rw [List.getElem?_drop] at hj
        rw [Nat.add_assoc]
        exact hc _ _ hj
      · cases hj
    let vs' := (c.toList.drop (R.off + q)).take n
    have hl : vs'.length = n := by simp [vs']; omega
    have hg : ∀ j, j < n → vs'[j]? = c[R.off + q + j]? := by
      intro j hj
      simp only [vs']
      rw [List.getElem?_take, if_pos hj, List.getElem?_drop, Array.getElem?_toList]
    refine ⟨vs', ?_, ⟨by rw [hn, hl], ?_⟩, hn⟩
    · have := run_loadCells_list (P := P) w ⟨R.block, R.off + q, none⟩ vs' (fun j v hj => by
        rw [add_none, cell_of hb]
        have hj' : j < n := by
          rw [← hl]
          exact (List.getElem?_eq_some_iff.1 hj).1
        rw [← hg j hj']; exact hj)
      rwa [hl] at this
    · intro j v hj
      have hj' : j < n := by
        rw [← hn]
        exact (List.getElem?_eq_some_iff.1 hj).1
      rw [hg j hj']
      exact hcell j v hj
  · cases hs

/-- A load's value. -/
def loadOf (P : Program) (t : TypeId) (cs : List Value) (q : Nat) : Option Value :=
  match tagg P t, tsize P t with
  | some true, some n => (slots cs q n).map fun vs => .agg vs.toArray
  | some false, some _ => cs[q]?
  | _, _ => none
theorem read_load {P : Program} {o : Oper} {a : Act} {h : IHeap} {t : TypeId} {x : Operand} {i q : Nat} {ro : Bool} {esz : Nat} {cs : List Value} {v : Value} (ho : o.op = .load t x) (hx : a.eval x = .pointer (some ⟨i, q, none⟩))
    (hg : h.get i = some (.row ro esz cs)) (hv : loadOf P t cs q = some v) : ROp P o a h v [i] := by
  intro ρ ar w hm hrel
  have h0 := hrel x (by simp [ho, Op.operands])
  rw [hx] at h0
  obtain ⟨R, hR, e⟩ := h0.ptr_inv
  obtain ⟨ob, hb, hor⟩ := hm i (by simp) R _ hg hR
  unfold loadOf at hv
  split at hv
  · rename_i n h1 h2
    obtain ⟨vs, hs, rfl⟩ := Option.map_eq_some_iff.mp hv
    obtain ⟨vs', k1, k2, _⟩ := slots_run (P := P) hb hor hs
    refine ⟨.agg vs'.toArray, ?_, .agg (ARel.of_list k2).1 (ARel.of_list k2).2⟩
    simp [execOp, ho, e, Sem.run_bind, Instr.loadAt, Instr.sureAddr, loadVar, run_isAggB h1, run_size h2, k1]
  · rename_i n h1 h2
    obtain ⟨c, e', fr, rfl, _, _, hr, hz, hc⟩ := hor.cells
    obtain ⟨v', k1, k2⟩ := hc q v hv
    refine ⟨v', ?_, k2⟩
    have hcell := cell_of hb (R.off + q)
    rw [k1] at hcell
    simp [execOp, ho, e, Sem.run_bind, Instr.loadAt, Instr.sureAddr, loadVar, run_isAggB h1, load, Sem.run, hcell]
  · cases hv
end Go.Proofs.Ytfgaggpfdckggaa.Ideal
