/- Going over a map of at most one entry: its order is not drawn. -/
import Derived.Test.YtfgaggpfdckggaaI8b
noncomputable section
namespace Go.Proofs.Ytfgaggpfdckggaa.Ideal
set_option linter.unusedVariables false
set_option linter.unusedSimpArgs false
set_option linter.unnecessarySimpa false

theorem run_getIter {P : Program} {w : World} {b since last : Nat} {m : Option Nat} {seen : Array Nat} (hb : w.heap[b]? = some (.mapIter m since seen last)) : (getObj b).run P w = .ok (.mapIter m since seen last) w := by
  simp [getObj, Sem.run, hb]
theorem run_next_nil {P : Program} {w : World} {b : Nat} {since last : Nat} {seen : Array Nat} {ty : TypeId} (hi : w.heap[b]? = some (.mapIter none since seen last)) :
    (Instr.next (.pointer (some ⟨b, 0, none⟩)) false ty).run P w = .ok (.tuple #[.bool false]) w := by
  simp [Instr.next, Sem.run_bind, run_getIter hi]
theorem run_next_over {P : Program} {w : World} {b m : Nat} {es : Array MapEntry} {ck since last : Nat} {seen : Array Nat} {ty : TypeId} (hi : w.heap[b]? = some (.mapIter (some m) since seen last)) (hm : w.heap[m]? = some (.map es ck))
    (hg : (!seen.isEmpty && !es.isEmpty && es.all (fun e => decide (e.born ≥ last))) = false) (hl : es.filter (fun e => !seen.contains e.born) = #[]) :
    (Instr.next (.pointer (some ⟨b, 0, none⟩)) false ty).run P w = .ok (.tuple #[.bool false]) w := by
  unfold Instr.next
  simp only [Sem.run_bind, run_getIter hi, run_getMap hm, Result.andThen_ok, hg, hl, Bool.false_eq_true, if_false]
  have h0 : ∀ p : MapEntry → Bool, (#[] : Array MapEntry).filter p = #[] := fun p => by simp
  simp only [h0]
  have h4 : ((if (#[] : Array MapEntry).isEmpty then #[none] else #[]) ++ ((#[] : Array MapEntry) ++ #[]).map some : Array (Option MapEntry)) = #[none] := by simp
  simp only [h4]
  have h5 : (choose (.mapNext (#[none] : Array (Option MapEntry)).size)).run P w = .ok 0 w := rfl
  rw [h5]
  simp only [Result.andThen_ok]
  have h6 : (#[none] : Array (Option MapEntry))[0]? = some none := rfl
  simp only [h6]
  rfl
theorem run_next_one {P : Program} {w : World} {b m : Nat} {es : Array MapEntry} {e : MapEntry} {ck since last : Nat} {seen : Array Nat} {ty : TypeId} (hi : w.heap[b]? = some (.mapIter (some m) since seen last)) (hm : w.heap[m]? = some (.map es ck))
    (hg : (!seen.isEmpty && !es.isEmpty && es.all (fun e => decide (e.born ≥ last))) = false) (hl : es.filter (fun e => !seen.contains e.born) = #[e]) (hb : e.born < since) :
    (Instr.next (.pointer (some ⟨b, 0, none⟩)) false ty).run P w = .ok (.tuple #[.bool true, e.key, e.val]) { w with heap := w.heap.setIfInBounds b (.mapIter (some m) since (seen.push e.born) ck) } := by
  have h1 : (#[e] : Array MapEntry).filter (fun e => decide (e.born < since)) = #[e] := by simp [hb]
  have h2 : (#[e] : Array MapEntry).filter (fun e => decide (e.born ≥ since)) = #[] := by simp; omega
  have h3 : ∀ o, (setObj b o).run P w = .ok () { w with heap := w.heap.setIfInBounds b o } := fun o => by simp [setObj, Sem.run, hi]
  unfold Instr.next
  simp only [Sem.run_bind, run_getIter hi, run_getMap hm, Result.andThen_ok, hg, hl, Bool.false_eq_true, if_false, h1, h2]
  have h4 : ((if (#[e] : Array MapEntry).isEmpty then #[none] else #[]) ++ ((#[e] : Array MapEntry) ++ #[]).map some : Array (Option MapEntry)) = #[some e] := by simp
  simp only [h4]
  have h5 : (choose (.mapNext (#[some e] : Array (Option MapEntry)).size)).run P w = .ok 0 w := rfl
  rw [h5]
  simp only [Result.andThen_ok]
  have h6 : (#[some e] : Array (Option MapEntry))[0]? = some (some e) := rfl
  simp only [h6, Sem.run_bind, h3, Result.andThen_ok]
  rfl
theorem run_entry {P : Program} {w : World} {b m : Nat} {es : Array MapEntry} {e : MapEntry} {since ck stamp : Nat} {seen : Array Nat} (hi : w.heap[b]? = some (.mapIter (some m) since seen ck)) (hm : w.heap[m]? = some (.map es ck))
    (hs : seen.back? = some stamp) (hf : es.find? (fun e => e.born == stamp) = some e) : (Instr.entry (.pointer (some ⟨b, 0, none⟩))).run P w = .ok (.tuple #[e.key, e.val]) w := by
  unfold Instr.entry
  simp only [Sem.run_bind, run_getIter hi, run_getMap hm, Result.andThen_ok, hs, hf, bne_self_eq_false, Bool.false_eq_true, if_false]
  rfl

/-- Entries, one like the other. -/
def Ents (ρ : Rho) (es es' : List MapEntry) : Prop := es.length = es'.length ∧ ∀ (i : Nat) (e : MapEntry), es[i]? = some e → ∃ e', es'[i]? = some e' ∧ ERel ρ e e'
theorem Ents.cons_inv {ρ : Rho} {e : MapEntry} {es es' : List MapEntry} (h : Ents ρ (e :: es) es') : ∃ e' l, es' = e' :: l ∧ ERel ρ e e' ∧ Ents ρ es l := by
  cases es' with
  | nil => exact absurd h.1 (by simp)
  | cons e' l =>
    obtain ⟨e2, h1, h2⟩ := h.2 0 e rfl
    cases h1
    exact ⟨_, _, rfl, h2, by simpa using h.1, fun i x hx => h.2 (i + 1) x (by simpa using hx)⟩
theorem Ents.nil_inv {ρ : Rho} {es' : List MapEntry} (h : Ents ρ [] es') : es' = [] := List.eq_nil_of_length_eq_zero h.1.symm
theorem Ents.cons {ρ : Rho} {e e' : MapEntry} {es es' : List MapEntry} (h : ERel ρ e e') (k : Ents ρ es es') : Ents ρ (e :: es) (e' :: es') := by
  refine ⟨by simp [k.1], fun i x hx => ?_⟩
  cases i with
  | zero => cases hx; exact ⟨_, rfl, h⟩
  | succ i => exact k.2 i x (by simpa using hx)
theorem Ents.nil (ρ : Rho) : Ents ρ [] [] := ⟨rfl, fun i e h => by simp at h⟩
theorem Ents.filter {ρ : Rho} (p : Nat → Bool) : ∀ {es es' : List MapEntry}, Ents ρ es es' → Ents ρ (es.filter fun e => p e.born) (es'.filter fun e => p e.born)
  | [], es', h => by rw [h.nil_inv]; exact .nil ρ
  | e :: es, es', h => by
    obtain ⟨e', l, rfl, h1, h2⟩ := h.cons_inv
    have ih := Ents.filter p h2
    simp only [List.filter_cons, ← h1.born]
    split
    · exact .cons h1 ih
    · exact ih
theorem Ents.all {ρ : Rho} (p : Nat → Bool) : ∀ {es es' : List MapEntry}, Ents ρ es es' → (es'.all fun e => p e.born) = es.all fun e => p e.born
  | [], es', h => by rw [h.nil_inv]
  | e :: es, es', h => by
    obtain ⟨e', l, rfl, h1, h2⟩ := h.cons_inv
    simp only [List.all_cons, ← h1.born, Ents.all p h2]
theorem Ents.find {ρ : Rho} (p : Nat → Bool) : ∀ {es es' : List MapEntry}, Ents ρ es es' → ∀ {e}, (es.find? fun e => p e.born) = some e → ∃ e', (es'.find? fun e => p e.born) = some e' ∧ ERel ρ e e'
  | [], es', h, e, hf => by simp at hf
  | x :: es, es', h, e, hf => by
    obtain ⟨x', l, rfl, h1, h2⟩ := h.cons_inv
    rw [List.find?_cons] at hf ⊢
    rw [← h1.born]
    split at hf
    · cases hf; exact ⟨x', rfl, h1⟩
    · exact Ents.find p h2 hf

/-- 'range' of a map. -/
def irange (P : Program) (h : IHeap) (t : TypeId) (x : Value) : Option (Value × IHeap) :=
  match mapOf P t, x with
  | some _, .map none => pushH h (.iter none 0 #[] 0) fun h' => some (.pointer (some ⟨h.size, 0, none⟩), h')
  | some _, .map (some m) => (match h.get m with
    | some (.map _ ck) => pushH h (.iter (some m) ck #[] ck) fun h' => some (.pointer (some ⟨h.size, 0, none⟩), h')
    | _ => none)
  | _, _ => none
theorem mem_range {P : Program} {o : Oper} {a : Act} {h h' : IHeap} {t : TypeId} {x : Operand} {v : Value} (ho : o.op = .range t x) (hv : irange P h t (a.eval x) = some (v, h')) : MOp P o a h v h' := by
  intro ρ ar w hm hfr hrel
  have gx := hrel x (by simp [ho, Op.operands])
  have fin : ∀ (it : IObj) (ob : Obj), it ≠ .dead → h' = h.push it → v = .pointer (some ⟨h.size, 0, none⟩) → (∀ R : Ren, R.off = 0 → ORel (ρ.upd h.size R) R it ob) → ρ h.size = none → (Instr.range t (ar.eval x)).run P w = .ok (.pointer (some ⟨w.heap.size, 0, none⟩)) { w with heap := w.heap.push ob } →
      ∃ nx w' ρ' v', (execOp ar.eval o).run P w = .ok nx w' ∧ (nx = .value v' ∨ (nx = .skip ∧ v' = undef)) ∧ Step ρ h w ρ' h' w' ∧ Models ρ' h' w' ∧ VRel ρ' v v' := by
    intro it ob hd hh hv' hor hf hrun
    subst hh hv'
    obtain ⟨s, m⟩ := hm.push (w' := { w with heap := w.heap.push ob }) (R := ⟨w.heap.size, 0, 0, 0⟩) hf rfl rfl rfl rfl rfl (hor _ rfl) hd
    refine ⟨_, _, _, .pointer (some ⟨w.heap.size, 0, none⟩), ?_, .inl rfl, s, m, ?_⟩
    · simp only [execOp, ho, Sem.run_bind, hrun, Result.andThen_ok]; rfl
    · have hu := upd_same ρ h.size ⟨w.heap.size, 0, 0, 0⟩
      have := VRel.ptr (o := 0) hu
      simpa using this
  unfold irange at hv
  split at hv
  · rename_i ke hmo hx
    rw [pushH_eq] at hv
    cases hv
    obtain ⟨kt, et⟩ := ke
    have hu := mapOf_inv hmo
    have ex := scal_eq (by rw [hx]; rfl) gx
    rw [hx] at ex
    refine fin _ (.mapIter none 0 #[] 0) (by simp) rfl rfl (fun R hR => .iterN hR) (hfr h.size (Nat.le_refl _) (by simp)) ?_
    rw [ex]
    simp only [Instr.range, Sem.run_bind, run_under hu, Result.andThen_ok]
    rfl
  · rename_i ke m hmo hx
    split at hv
    · rename_i es ck hg
      rw [pushH_eq] at hv
      cases hv
      obtain ⟨kt, et⟩ := ke
      have hu := mapOf_inv hmo
      rw [hx] at gx
      obtain ⟨S, hS, ex⟩ := gx.map_inv
      obtain ⟨ob, hb, hor⟩ := hm.obj m S _ hg hS
      have hfr0 := hfr h.size (Nat.le_refl _) (by simp)
      cases hor with
      | @map _ es' _ hs hh =>
        refine fin _ (.mapIter (some S.block) ck #[] ck) (by simp) rfl rfl (fun R hR => .iter hR (upd_le hfr0 _ _ hS)) hfr0 ?_
        rw [ex]
        simp only [Instr.range, Sem.run_bind, run_under hu, Result.andThen_ok, run_getMap hb]
        rfl
    · cases hv
  · cases hv
/-- 'next'. -/
def inext (h : IHeap) (x : Value) : Option (Value × IHeap) :=
  match x with
  | .pointer (some ⟨i, 0, none⟩) => (match h.get i with
    | some (.iter none _ _ _) => some (.tuple #[.bool false], h)
    | some (.iter (some m) since seen last) => (match h.get m with
      | some (.map es ck) => if (!seen.toList.isEmpty && !es.isEmpty && es.all (fun e => decide (e.born ≥ last))) then none else
        (match es.filter (fun e => !seen.toList.elem e.born) with
        | [] => some (.tuple #[.bool false], h)
        | [e] => if e.born < since then setH h i (.iter (some m) since (seen.push e.born) ck) fun h' => some (.tuple #[.bool true, e.key, e.val], h') else none
        | _ => none)
      | _ => none)
    | _ => none)
  | _ => none
theorem tup3 {ρ : Rho} {b : Bool} {k k' u u' : Value} (hk : VRel ρ k k') (hu : VRel ρ u u') : VRel ρ (.tuple #[.bool b, k, u]) (.tuple #[.bool b, k', u']) := by
  refine .tup rfl (fun i hi => ?_)
  have hi' : i < 3 := hi
  match i, hi' with
  | 0, _ => exact .base rfl
  | 1, _ => exact hk
  | 2, _ => exact hu
theorem tup2' {ρ : Rho} {k k' u u' : Value} (hk : VRel ρ k k') (hu : VRel ρ u u') : VRel ρ (.tuple #[k, u]) (.tuple #[k', u']) := by
  refine .tup rfl (fun i hi => ?_)
  have hi' : i < 2 := hi
  match i, hi' with
  | 0, _ => exact hk
  | 1, _ => exact hu
theorem tup1 {ρ : Rho} {b : Bool} : VRel ρ (.tuple #[.bool b]) (.tuple #[.bool b]) := by
  refine .tup rfl (fun i hi => ?_)
  have hi' : i < 1 := hi
  match i, hi' with
  | 0, _ => exact .base rfl
theorem mem_next {P : Program} {o : Oper} {a : Act} {h h' : IHeap} {x : Operand} {v : Value} (ho : o.op = .next x false) (hv : inext h (a.eval x) = some (v, h')) : MOp P o a h v h' := by
  intro ρ ar w hm hfr hrel
  have gx := hrel x (by simp [ho, Op.operands])
  have hexec : ∀ v' w', (Instr.next (ar.eval x) false o.type).run P w = .ok v' w' → (execOp ar.eval o).run P w = .ok (.value v') w' := by
    intro v' w' hr
    simp only [execOp, ho, Sem.run_bind, hr, Result.andThen_ok]; rfl
  unfold inext at hv
  split at hv
  · rename_i i hx
    rw [hx] at gx
    obtain ⟨R, hR, ex⟩ := gx.ptr_inv
    split at hv
    · rename_i since seen last hg
      cases hv
      obtain ⟨ob, hb, hor⟩ := hm.obj i R _ hg hR
      cases hor with
      | iterN h0 =>
        rw [h0] at ex
        exact ⟨_, w, ρ, _, hexec _ _ (by rw [ex]; exact run_next_nil hb), .inl rfl, Step.refl _ _ _, hm, tup1⟩
    · rename_i m since seen last hg
      obtain ⟨ob, hb, hor⟩ := hm.obj i R _ hg hR
      cases hor with
      | @iter _ _ _ _ S h0 hS =>
        rw [h0] at ex
        split at hv
        · rename_i es ck hgm
          obtain ⟨ob2, hb2, hor2⟩ := hm.obj m S _ hgm hS
          cases hor2 with
          | @map _ es' _ hs hh =>
            have hE : Ents ρ es es'.toList := ⟨by rw [hs, Array.length_toList], fun i e he => by rw [show es'.toList[i]? = es'[i]? from Array.getElem?_toList]; exact hh i e he⟩
            split at hv
            · cases hv
            · rename_i hcond
              have hcond' : (!seen.isEmpty && !es'.isEmpty && es'.all (fun e => decide (e.born ≥ last))) = false := by
                have e1 : seen.isEmpty = seen.toList.isEmpty := by simp
                have e2 : es'.isEmpty = es.isEmpty := by
                  show decide (es'.size = 0) = _
                  rw [← hs]
                  cases es <;> rfl
                have e3 : es'.all (fun e => decide (e.born ≥ last)) = es.all (fun e => decide (e.born ≥ last)) := by
                  rw [← Array.all_toList]
                  exact hE.all (fun n => decide (n ≥ last))
                rw [e1, e2, e3]
                simpa using hcond
              have hF : Ents ρ (es.filter fun e => !seen.toList.elem e.born) (es'.filter fun e => !seen.contains e.born).toList := by
                rw [Array.toList_filter]
                have := hE.filter (fun n => !seen.toList.elem n)
                have e4 : (fun e : MapEntry => !seen.contains e.born) = fun e => !seen.toList.elem e.born := by
                  funext e
                  simp [Array.contains_eq_mem, List.elem_eq_contains, List.contains_eq_mem]
                rw [e4]
                exact this
              split at hv
              · rename_i hl
                cases hv
                rw [hl] at hF
                have hn : (es'.filter fun e => !seen.contains e.born) = #[] := Array.ext' (by rw [hF.nil_inv])
                exact ⟨_, w, ρ, _, hexec _ _ (by rw [ex]; exact run_next_over hb hb2 hcond' hn), .inl rfl, Step.refl _ _ _, hm, tup1⟩
              · rename_i e hl
                split at hv
                · rename_i hborn
                  rw [setH_eq] at hv
                  cases hv
                  rw [hl] at hF
                  obtain ⟨e', l, hl', he, hrest⟩ := hF.cons_inv
                  rw [hrest.nil_inv] at hl'
                  have hn : (es'.filter fun e => !seen.contains e.born) = #[e'] := Array.ext' hl'
                  have hlt := hm.lt i R hR
                  obtain ⟨s, mm⟩ := hm.write (o' := .iter (some m) since (seen.push e.born) ck) (w' := { w with heap := w.heap.setIfInBounds R.block (.mapIter (some S.block) since (seen.push e'.born) ck) }) hg rfl (by simp) hR (by simp) rfl rfl rfl
                    (ob := .mapIter (some S.block) since (seen.push e'.born) ck) (by simp [Array.getElem?_setIfInBounds, hlt]) (by rw [he.born]; exact .iter h0 hS) (fun b' hb' => by
                      show (w.heap.setIfInBounds R.block _)[b']? = _
                      rw [Array.getElem?_setIfInBounds, if_neg (fun e => hb' e.symm)])
                  exact ⟨_, _, ρ, _, hexec _ _ (by rw [ex]; exact run_next_one hb hb2 hcond' hn (by rw [← he.born]; exact hborn)), .inl rfl, s, mm, tup3 he.key he.val⟩
                · cases hv
              · cases hv
        · cases hv
    · cases hv
  · cases hv
/-- 'entry'. -/
def ientry (h : IHeap) (x : Value) : Option Value :=
  match x with
  | .pointer (some ⟨i, 0, none⟩) => (match h.get i with
    | some (.iter (some m) _ seen stepped) => (match h.get m, seen.toList.getLast? with
      | some (.map es ck), some stamp => if Nat.beq ck stepped then (es.find? fun e => Nat.beq e.born stamp).map fun e => .tuple #[e.key, e.val] else none
      | _, _ => none)
    | _ => none)
  | _ => none
theorem mem_entry {P : Program} {o : Oper} {a : Act} {h : IHeap} {x : Operand} {v : Value} (ho : o.op = .entry x) (hv : ientry h (a.eval x) = some v) : MOp P o a h v h := by
  intro ρ ar w hm hfr hrel
  have gx := hrel x (by simp [ho, Op.operands])
  unfold ientry at hv
  split at hv
  · rename_i i hx
    rw [hx] at gx
    obtain ⟨R, hR, ex⟩ := gx.ptr_inv
    split at hv
    · rename_i m since seen stepped hg
      obtain ⟨ob, hb, hor⟩ := hm.obj i R _ hg hR
      cases hor with
      | @iter _ _ _ _ S h0 hS =>
        rw [h0] at ex
        split at hv
        · rename_i es ck stamp hgm hst
          split at hv
          · rename_i hck
            have hck : ck = stepped := Nat.eq_of_beq_eq_true hck
            subst hck
            obtain ⟨e, hf, he⟩ := Option.map_eq_some_iff.mp hv
            subst he
            obtain ⟨ob2, hb2, hor2⟩ := hm.obj m S _ hgm hS
            cases hor2 with
            | @map _ es' _ hs hh =>
              have hE : Ents ρ es es'.toList := ⟨by rw [hs, Array.length_toList], fun i e he => by rw [show es'.toList[i]? = es'[i]? from Array.getElem?_toList]; exact hh i e he⟩
              obtain ⟨e', hf', he'⟩ := hE.find (fun n => Nat.beq n stamp) hf
              have hf2 : es'.find? (fun e => e.born == stamp) = some e' := by
                rw [← Array.find?_toList]
                have : (fun e : MapEntry => e.born == stamp) = fun e => Nat.beq e.born stamp := by funext e; rw [Bool.eq_iff_iff]; simp
                rw [this]
                exact hf'
              refine ⟨_, w, ρ, .tuple #[e'.key, e'.val], ?_, .inl rfl, Step.refl _ _ _, hm, tup2' he'.key he'.val⟩
              simp only [execOp, ho, Sem.run_bind]
              rw [ex]
              have := run_entry (P := P) (w := w) hb hb2 (by rw [← Array.getLast?_toList]; exact hst) hf2
              simp only [Nat.add_zero] at this ⊢
              rw [this]
              rfl
          · cases hv
        · cases hv
    · cases hv
  · cases hv
end Go.Proofs.Ytfgaggpfdckggaa.Ideal
