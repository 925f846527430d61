/- The ideal heap: I8c, I8d, I9. Going over a map of at most one entry: its order is not drawn. -/
import Derived.Test.YtmobpbhbllhdcaaI8b
import Derived.Laws.IdiomStrings
noncomputable section
namespace Go.Proofs.Ytmobpbhbllhdcaa.Ideal
set_option linter.unusedVariables false
set_option linter.unusedSimpArgs false
set_option linter.unnecessarySimpa false

theorem run_getIter {P : Program} {w : World} {b since last : Nat} {m : Option Nat} {seen : Array Nat} (hb : w.heap[b]? = some (.mapIter m since seen last)) : (getObj b).run P w = .ok (.mapIter m since seen last) w := by
  simp [getObj, Sem.run, hb]
theorem run_next_nil {P : Program} {w : World} {b : Nat} {since last : Nat} {seen : Array Nat} {ty : TypeId} (hi : w.heap[b]? = some (.mapIter none since seen last)) :
    (Instr.next (.pointer (some ⟨b, 0, none⟩)) false ty).run P w = .ok (.tuple #[.bool false]) w := by
  simp [Instr.next, Sem.run_bind, run_getIter hi]
theorem run_next_over {P : Program} {w : World} {b m : Nat} {es : Array MapEntry} {ck since last : Nat} {seen : Array Nat} {ty : TypeId} (hi : w.heap[b]? = some (.mapIter (some m) since seen last)) (hm : w.heap[m]? = some (.map es ck))
    (hg : (!seen.isEmpty && !es.isEmpty && es.all (fun e => decide (e.born ≥ last))) = false) (hl : es.filter (fun e => !seen.contains e.born) = #[]) :
    (Instr.next (.pointer (some ⟨b, 0, none⟩)) false ty).run P w = .ok (.tuple #[.bool false]) w := by
  unfold Instr.next
  simp only [Sem.run_bind, run_getIter hi, run_getMap hm, Result.andThen_ok, hg, hl, Bool.false_eq_true, if_false]
  have h0 : ∀ p : MapEntry → Bool, (#[] : Array MapEntry).filter p = #[] := fun p => by simp
  simp only [h0]
  have h4 : ((if (#[] : Array MapEntry).isEmpty then #[none] else #[]) ++ ((#[] : Array MapEntry) ++ #[]).map some : Array (Option MapEntry)) = #[none] := by simp
  simp only [h4]
  have h5 : (choose (.mapNext (#[none] : Array (Option MapEntry)).size)).run P w = .ok 0 w := rfl
  rw [h5]
  simp only [Result.andThen_ok]
  have h6 : (#[none] : Array (Option MapEntry))[0]? = some none := rfl
  simp only [h6]
  rfl
theorem run_next_one {P : Program} {w : World} {b m : Nat} {es : Array MapEntry} {e : MapEntry} {ck since last : Nat} {seen : Array Nat} {ty : TypeId} (hi : w.heap[b]? = some (.mapIter (some m) since seen last)) (hm : w.heap[m]? = some (.map es ck))
    (hg : (!seen.isEmpty && !es.isEmpty && es.all (fun e => decide (e.born ≥ last))) = false) (hl : es.filter (fun e => !seen.contains e.born) = #[e]) (hb : e.born < since) :
    (Instr.next (.pointer (some ⟨b, 0, none⟩)) false ty).run P w = .ok (.tuple #[.bool true, e.key, e.val]) { w with heap := w.heap.setIfInBounds b (.mapIter (some m) since (seen.push e.born) ck) } := by
  have h1 : (#[e] : Array MapEntry).filter (fun e => decide (e.born < since)) = #[e] := by simp [hb]
  have h2 : (#[e] : Array MapEntry).filter (fun e => decide (e.born ≥ since)) = #[] := by simp; omega
  have h3 : ∀ o, (setObj b o).run P w = .ok () { w with heap := w.heap.setIfInBounds b o } := fun o => by simp [setObj, Sem.run, hi]
  unfold Instr.next
  simp only [Sem.run_bind, run_getIter hi, run_getMap hm, Result.andThen_ok, hg, hl, Bool.false_eq_true, if_false, h1, h2]
  have h4 : ((if (#[e] : Array MapEntry).isEmpty then #[none] else #[]) ++ ((#[e] : Array MapEntry) ++ #[]).map some : Array (Option MapEntry)) = #[some e] := by simp
  simp only [h4]
  have h5 : (choose (.mapNext (#[some e] : Array (Option MapEntry)).size)).run P w = .ok 0 w := rfl
  rw [h5]
  simp only [Result.andThen_ok]
  have h6 : (#[some e] : Array (Option MapEntry))[0]? = some (some e) := rfl
  simp only [h6, Sem.run_bind, h3, Result.andThen_ok]
  rfl
theorem run_entry {P : Program} {w : World} {b m : Nat} {es : Array MapEntry} {e : MapEntry} {since ck stamp : Nat} {seen : Array Nat} (hi : w.heap[b]? = some (.mapIter (some m) since seen ck)) (hm : w.heap[m]? = some (.map es ck))
    (hs : seen.back? = some stamp) (hf : es.find? (fun e => e.born == stamp) = some e) : (Instr.entry (.pointer (some ⟨b, 0, none⟩))).run P w = .ok (.tuple #[e.key, e.val]) w := by
  unfold Instr.entry
  simp only [Sem.run_bind, run_getIter hi, run_getMap hm, Result.andThen_ok, hs, hf, bne_self_eq_false, Bool.false_eq_true, if_false]
  rfl

/-- Entries, one like the other. -/
def Ents (ρ : Rho) (es es' : List MapEntry) : Prop := es.length = es'.length ∧ ∀ (i : Nat) (e : MapEntry), es[i]? = some e → ∃ e', es'[i]? = some e' ∧ ERel ρ e e'
theorem Ents.cons_inv {ρ : Rho} {e : MapEntry} {es es' : List MapEntry} (h : Ents ρ (e :: es) es') : ∃ e' l, es' = e' :: l ∧ ERel ρ e e' ∧ Ents ρ es l := by
  cases es' with
  | nil => exact absurd h.1 (by simp)
  | cons e' l =>
    obtain ⟨e2, h1, h2⟩ := h.2 0 e rfl
    cases h1
    exact ⟨_, _, rfl, h2, by simpa using h.1, fun i x hx => h.2 (i + 1) x (by simpa using hx)⟩
theorem Ents.nil_inv {ρ : Rho} {es' : List MapEntry} (h : Ents ρ [] es') : es' = [] := List.eq_nil_of_length_eq_zero h.1.symm
theorem Ents.cons {ρ : Rho} {e e' : MapEntry} {es es' : List MapEntry} (h : ERel ρ e e') (k : Ents ρ es es') : Ents ρ (e :: es) (e' :: es') := by
  refine ⟨by simp [k.1], fun i x hx => ?_⟩
  cases i with
  | zero => cases hx; exact ⟨_, rfl, h⟩
  | succ i => exact k.2 i x (by simpa using hx)
theorem Ents.nil (ρ : Rho) : Ents ρ [] [] := ⟨rfl, fun i e h => by simp at h⟩
theorem Ents.filter {ρ : Rho} (p : Nat → Bool) : ∀ {es es' : List MapEntry}, Ents ρ es es' → Ents ρ (es.filter fun e => p e.born) (es'.filter fun e => p e.born)
  | [], es', h => by rw [h.nil_inv]; exact .nil ρ
  | e :: es, es', h => by
    obtain ⟨e', l, rfl, h1, h2⟩ := h.cons_inv
    have ih := Ents.filter p h2
    simp only [List.filter_cons, ← h1.born]
    split
    · exact .cons h1 ih
    · exact ih
theorem Ents.all {ρ : Rho} (p : Nat → Bool) : ∀ {es es' : List MapEntry}, Ents ρ es es' → (es'.all fun e => p e.born) = es.all fun e => p e.born
  | [], es', h => by rw [h.nil_inv]
  | e :: es, es', h => by
    obtain ⟨e', l, rfl, h1, h2⟩ := h.cons_inv
    simp only [List.all_cons, ← h1.born, Ents.all p h2]
theorem Ents.find {ρ : Rho} (p : Nat → Bool) : ∀ {es es' : List MapEntry}, Ents ρ es es' → ∀ {e}, (es.find? fun e => p e.born) = some e → ∃ e', (es'.find? fun e => p e.born) = some e' ∧ ERel ρ e e'
  | [], es', h, e, hf => by simp at hf
  | x :: es, es', h, e, hf => by
    obtain ⟨x', l, rfl, h1, h2⟩ := h.cons_inv
    rw [List.find?_cons] at hf ⊢
    rw [← h1.born]
    split at hf
    · cases hf; exact ⟨x', rfl, h1⟩
    · exact Ents.find p h2 hf

/-- 'range' of a map. -/
def irange (P : Program) (h : IHeap) (t : TypeId) (x : Value) : Option (Value × IHeap) :=
  match mapOf P t, x with
  | some _, .map none => pushH h (.iter none 0 #[] 0) fun h' => some (.pointer (some ⟨h.size, 0, none⟩), h')
  | some _, .map (some m) => (match h.get m with
    | some (.map _ ck) => pushH h (.iter (some m) ck #[] ck) fun h' => some (.pointer (some ⟨h.size, 0, none⟩), h')
    | _ => none)
  | _, _ => none
theorem mem_range {P : Program} {o : Oper} {a : Act} {h h' : IHeap} {t : TypeId} {x : Operand} {v : Value} (ho : o.op = .range t x) (hv : irange P h t (a.eval x) = some (v, h')) : MOp P o a h v h' := by
  intro ρ ar w hm hfr hrel
  have gx := hrel x (by simp [ho, Op.operands])
  have fin : ∀ (it : IObj) (ob : Obj), it ≠ .dead → h' = h.push it → v = .pointer (some ⟨h.size, 0, none⟩) → (∀ R : Ren, R.off = 0 → ORel (ρ.upd h.size R) R it ob) → ρ h.size = none → (Instr.range t (ar.eval x)).run P w = .ok (.pointer (some ⟨w.heap.size, 0, none⟩)) { w with heap := w.heap.push ob } →
      ∃ nx w' ρ' v', (execOp ar.eval o).run P w = .ok nx w' ∧ (nx = .value v' ∨ (nx = .skip ∧ v' = undef)) ∧ Step ρ h w ρ' h' w' ∧ Models ρ' h' w' ∧ VRel ρ' v v' := by
    intro it ob hd hh hv' hor hf hrun
    subst hh hv'
    obtain ⟨s, m⟩ := hm.push (w' := { w with heap := w.heap.push ob }) (R := ⟨w.heap.size, 0, 0, 0⟩) hf rfl rfl rfl rfl rfl (hor _ rfl) hd
    refine ⟨_, _, _, .pointer (some ⟨w.heap.size, 0, none⟩), ?_, .inl rfl, s, m, ?_⟩
    · simp only [execOp, ho, Sem.run_bind, hrun, Result.andThen_ok]; rfl
    · have hu := upd_same ρ h.size ⟨w.heap.size, 0, 0, 0⟩
      have := VRel.ptr (o := 0) hu
      simpa using this
  unfold irange at hv
  split at hv
  · rename_i ke hmo hx
    rw [pushH_eq] at hv
    cases hv
    obtain ⟨kt, et⟩ := ke
    have hu := mapOf_inv hmo
    have ex := scal_eq (by rw [hx]; rfl) gx
    rw [hx] at ex
    refine fin _ (.mapIter none 0 #[] 0) (by simp) rfl rfl (fun R hR => .iterN hR) (hfr h.size (Nat.le_refl _) (by simp)) ?_
    rw [ex]
    simp only [Instr.range, Sem.run_bind, run_under hu, Result.andThen_ok]
    rfl
  · rename_i ke m hmo hx
    split at hv
    · rename_i es ck hg
      rw [pushH_eq] at hv
      cases hv
      obtain ⟨kt, et⟩ := ke
      have hu := mapOf_inv hmo
      rw [hx] at gx
      obtain ⟨S, hS, ex⟩ := gx.map_inv
      obtain ⟨ob, hb, hor⟩ := hm.obj m S _ hg hS
      have hfr0 := hfr h.size (Nat.le_refl _) (by simp)
      cases hor with
      | @map _ es' _ hs hh =>
        refine fin _ (.mapIter (some S.block) ck #[] ck) (by simp) rfl rfl (fun R hR => .iter hR (upd_le hfr0 _ _ hS)) hfr0 ?_
        rw [ex]
        simp only [Instr.range, Sem.run_bind, run_under hu, Result.andThen_ok, run_getMap hb]
        rfl
    · cases hv
  · cases hv
/-- 'next'. -/
def inext (h : IHeap) (x : Value) : Option (Value × IHeap) :=
  match x with
  | .pointer (some ⟨i, 0, none⟩) => (match h.get i with
    | some (.iter none _ _ _) => some (.tuple #[.bool false], h)
    | some (.iter (some m) since seen last) => (match h.get m with
      | some (.map es ck) => if (!seen.toList.isEmpty && !es.isEmpty && es.all (fun e => decide (e.born ≥ last))) then none else
        (match es.filter (fun e => !seen.toList.elem e.born) with
        | [] => some (.tuple #[.bool false], h)
        | [e] => if e.born < since then setH h i (.iter (some m) since (seen.push e.born) ck) fun h' => some (.tuple #[.bool true, e.key, e.val], h') else none
        | _ => none)
      | _ => none)
    | _ => none)
  | _ => none
theorem tup3 {ρ : Rho} {b : Bool} {k k' u u' : Value} (hk : VRel ρ k k') (hu : VRel ρ u u') : VRel ρ (.tuple #[.bool b, k, u]) (.tuple #[.bool b, k', u']) := by
  refine .tup rfl (fun i hi => ?_)
  have hi' : i < 3 := hi
  match i, hi' with
  | 0, _ => exact .base rfl
  | 1, _ => exact hk
  | 2, _ => exact hu
theorem tup2' {ρ : Rho} {k k' u u' : Value} (hk : VRel ρ k k') (hu : VRel ρ u u') : VRel ρ (.tuple #[k, u]) (.tuple #[k', u']) := by
  refine .tup rfl (fun i hi => ?_)
  have hi' : i < 2 := hi
  match i, hi' with
  | 0, _ => exact hk
  | 1, _ => exact hu
theorem tup1 {ρ : Rho} {b : Bool} : VRel ρ (.tuple #[.bool b]) (.tuple #[.bool b]) := by
  refine .tup rfl (fun i hi => ?_)
  have hi' : i < 1 := hi
  match i, hi' with
  | 0, _ => exact .base rfl
theorem mem_next {P : Program} {o : Oper} {a : Act} {h h' : IHeap} {x : Operand} {v : Value} (ho : o.op = .next x false) (hv : inext h (a.eval x) = some (v, h')) : MOp P o a h v h' := by
  intro ρ ar w hm hfr hrel
  have gx := hrel x (by simp [ho, Op.operands])
  have hexec : ∀ v' w', (Instr.next (ar.eval x) false o.type).run P w = .ok v' w' → (execOp ar.eval o).run P w = .ok (.value v') w' := by
    intro v' w' hr
    simp only [execOp, ho, Sem.run_bind, hr, Result.andThen_ok]; rfl
  unfold inext at hv
  split at hv
  · rename_i i hx
    rw [hx] at gx
    obtain ⟨R, hR, ex⟩ := gx.ptr_inv
    split at hv
    · rename_i since seen last hg
      cases hv
      obtain ⟨ob, hb, hor⟩ := hm.obj i R _ hg hR
      cases hor with
      | iterN h0 =>
        rw [h0] at ex
        exact ⟨_, w, ρ, _, hexec _ _ (by rw [ex]; exact run_next_nil hb), .inl rfl, Step.refl _ _ _, hm, tup1⟩
    · rename_i m since seen last hg
      obtain ⟨ob, hb, hor⟩ := hm.obj i R _ hg hR
      cases hor with
      | @iter _ _ _ _ S h0 hS =>
        rw [h0] at ex
        split at hv
        · rename_i es ck hgm
          obtain ⟨ob2, hb2, hor2⟩ := hm.obj m S _ hgm hS
          cases hor2 with
          | @map _ es' _ hs hh =>
            have hE : Ents ρ es es'.toList := ⟨by rw [hs, Array.length_toList], fun i e he => by rw [show es'.toList[i]? = es'[i]? from Array.getElem?_toList]; exact hh i e he⟩
            split at hv
            · cases hv
            · rename_i hcond
              have hcond' : (!seen.isEmpty && !es'.isEmpty && es'.all (fun e => decide (e.born ≥ last))) = false := by
                have e1 : seen.isEmpty = seen.toList.isEmpty := by simp
                have e2 : es'.isEmpty = es.isEmpty := by
                  show decide (es'.size = 0) = _
                  rw [← hs]
                  cases es <;> rfl
                have e3 : es'.all (fun e => decide (e.born ≥ last)) = es.all (fun e => decide (e.born ≥ last)) := by
                  rw [← Array.all_toList]
                  exact hE.all (fun n => decide (n ≥ last))
                rw [e1, e2, e3]
                simpa using hcond
              have hF : Ents ρ (es.filter fun e => !seen.toList.elem e.born) (es'.filter fun e => !seen.contains e.born).toList := by
                rw [Array.toList_filter]
                have := hE.filter (fun n => !seen.toList.elem n)
                have e4 : (fun e : MapEntry => !seen.contains e.born) = fun e => !seen.toList.elem e.born := by
                  funext e
                  simp [Array.contains_eq_mem, List.elem_eq_contains, List.contains_eq_mem]
                rw [e4]
                exact this
              split at hv
              · rename_i hl
                cases hv
                rw [hl] at hF
                have hn : (es'.filter fun e => !seen.contains e.born) = #[] := Array.ext' (by rw [hF.nil_inv])
                exact ⟨_, w, ρ, _, hexec _ _ (by rw [ex]; exact run_next_over hb hb2 hcond' hn), .inl rfl, Step.refl _ _ _, hm, tup1⟩
              · rename_i e hl
                split at hv
                · rename_i hborn
                  rw [setH_eq] at hv
                  cases hv
                  rw [hl] at hF
                  obtain ⟨e', l, hl', he, hrest⟩ := hF.cons_inv
                  rw [hrest.nil_inv] at hl'
                  have hn : (es'.filter fun e => !seen.contains e.born) = #[e'] := Array.ext' hl'
                  have hlt := hm.lt i R hR
                  obtain ⟨s, mm⟩ := hm.write (o' := .iter (some m) since (seen.push e.born) ck) (w' := { w with heap := w.heap.setIfInBounds R.block (.mapIter (some S.block) since (seen.push e'.born) ck) }) hg rfl (by simp) hR (by simp) rfl rfl rfl
                    (ob := .mapIter (some S.block) since (seen.push e'.born) ck) (by simp [Array.getElem?_setIfInBounds, hlt]) (by rw [he.born]; exact .iter h0 hS) (fun b' hb' => by
                      show (w.heap.setIfInBounds R.block _)[b']? = _
                      rw [Array.getElem?_setIfInBounds, if_neg (fun e => hb' e.symm)])
                  exact ⟨_, _, ρ, _, hexec _ _ (by rw [ex]; exact run_next_one hb hb2 hcond' hn (by rw [← he.born]; exact hborn)), .inl rfl, s, mm, tup3 he.key he.val⟩
                · cases hv
              · cases hv
        · cases hv
    · cases hv
  · cases hv
/-- 'entry'. -/
def ientry (h : IHeap) (x : Value) : Option Value :=
  match x with
  | .pointer (some ⟨i, 0, none⟩) => (match h.get i with
    | some (.iter (some m) _ seen stepped) => (match h.get m, seen.toList.getLast? with
      | some (.map es ck), some stamp => if Nat.beq ck stepped then (es.find? fun e => Nat.beq e.born stamp).map fun e => .tuple #[e.key, e.val] else none
      | _, _ => none)
    | _ => none)
  | _ => none
theorem mem_entry {P : Program} {o : Oper} {a : Act} {h : IHeap} {x : Operand} {v : Value} (ho : o.op = .entry x) (hv : ientry h (a.eval x) = some v) : MOp P o a h v h := by
  intro ρ ar w hm hfr hrel
  have gx := hrel x (by simp [ho, Op.operands])
  unfold ientry at hv
  split at hv
  · rename_i i hx
    rw [hx] at gx
    obtain ⟨R, hR, ex⟩ := gx.ptr_inv
    split at hv
    · rename_i m since seen stepped hg
      obtain ⟨ob, hb, hor⟩ := hm.obj i R _ hg hR
      cases hor with
      | @iter _ _ _ _ S h0 hS =>
        rw [h0] at ex
        split at hv
        · rename_i es ck stamp hgm hst
          split at hv
          · rename_i hck
            have hck : ck = stepped := Nat.eq_of_beq_eq_true hck
            subst hck
            obtain ⟨e, hf, he⟩ := Option.map_eq_some_iff.mp hv
            subst he
            obtain ⟨ob2, hb2, hor2⟩ := hm.obj m S _ hgm hS
            cases hor2 with
            | @map _ es' _ hs hh =>
              have hE : Ents ρ es es'.toList := ⟨by rw [hs, Array.length_toList], fun i e he => by rw [show es'.toList[i]? = es'[i]? from Array.getElem?_toList]; exact hh i e he⟩
              obtain ⟨e', hf', he'⟩ := hE.find (fun n => Nat.beq n stamp) hf
              have hf2 : es'.find? (fun e => e.born == stamp) = some e' := by
                rw [← Array.find?_toList]
                have : (fun e : MapEntry => e.born == stamp) = fun e => Nat.beq e.born stamp := by funext e; rw [Bool.eq_iff_iff]; simp
                rw [this]
                exact hf'
              refine ⟨_, w, ρ, .tuple #[e'.key, e'.val], ?_, .inl rfl, Step.refl _ _ _, hm, tup2' he'.key he'.val⟩
              simp only [execOp, ho, Sem.run_bind]
              rw [ex]
              have := run_entry (P := P) (w := w) hb hb2 (by rw [← Array.getLast?_toList]; exact hst) hf2
              simp only [Nat.add_zero] at this ⊢
              rw [this]
              rfl
          · cases hv
        · cases hv
    · cases hv
  · cases hv
end Go.Proofs.Ytmobpbhbllhdcaa.Ideal
end
noncomputable section
namespace Go.Proofs.Ytmobpbhbllhdcaa.Ideal
set_option linter.unusedVariables false
set_option linter.unusedSimpArgs false
set_option linter.unnecessarySimpa false

def isU8 (P : Program) (e : TypeId) : Bool := match P.underlying e with | some (.int .u8) => true | _ => false
theorem isU8_inv {P : Program} {e : TypeId} (h : isU8 P e = true) : P.underlying e = some (.int .u8) := by
  unfold isU8 at h
  split at h
  · assumption
  · cases h
/-- A string's bytes as cells. -/
def bytesL (s : ByteArray) : List Value := s.data.toList.map fun b => .int .u8 (b.toNat : Int)
/-- Cells that are bytes. -/
def intsOf : List Value → Option (List Int)
  | [] => some []
  | .int .u8 n :: l => (match intsOf l with | some m => some (n :: m) | none => none)
  | _ :: _ => none
theorem intsOf_inv : ∀ {l : List Value} {m : List Int}, intsOf l = some m → l = m.map (Value.int .u8)
  | [], m, h => by cases h; rfl
  | v :: l, m, h => by
    unfold intsOf at h
    split at h
    · rename_i heq; cases heq
    · rename_i n l' heq
      cases heq
      split at h
      · rename_i m' hm
        cases h
        rw [intsOf_inv hm]; rfl
      · cases h
    · cases h
def strOf (m : List Int) : ByteArray := ⟨(m.map fun n => UInt8.ofNat n.toNat).toArray⟩
theorem foldl_strOf : ∀ (m : List Int) (r : ByteArray), m.foldl (fun r n => r.push (UInt8.ofNat n.toNat)) r = ⟨r.data ++ (m.map fun n => UInt8.ofNat n.toNat).toArray⟩
  | [], r => by simp
  | n :: m, r => by
    simp only [List.foldl_cons]
    rw [foldl_strOf m]
    simp [ByteArray.push]
theorem strOf_eq (m : List Int) : m.foldl (fun r n => r.push (UInt8.ofNat n.toNat)) ByteArray.empty = strOf m := by
  rw [foldl_strOf]
  simp [strOf, ByteArray.empty, ByteArray.emptyWithCapacity]
  rfl

theorem alloc_bytes {P : Program} {o : Oper} {a : Act} {id : Nat} {src dst e : TypeId} {x : Operand} {s : ByteArray} (ho : o.op = .convert src dst x) (hx : a.eval x = .string s) (hs : P.underlying src = some .string) (hd : P.underlying dst = some (.slice e)) (he : isU8 P e = true) :
    AOp P o a id (.slice (some ⟨id, 0, none⟩) s.size s.size) (.row false 1 (bytesL s)) := by
  intro ρ ar w hfr hrel
  have gx := hrel x (by simp [ho, Op.operands])
  have ex := scal_eq (by rw [hx]; rfl) gx
  rw [hx] at ex
  have hrun := run_bytes_of_string w src dst e s hs hd (isU8_inv he)
  have hcap := grownCap_ge w s.size 0 e
  generalize grownCap w s.size 0 e = cap at hrun hcap
  have hsize : (bytesRow s cap).size = cap := by
    unfold bytesRow
    rw [Array.size_append, Array.size_map, Array.size_replicate]
    show s.size + (cap - s.size) = cap
    omega
  refine ⟨.slice (some ⟨w.heap.size, 0, none⟩) s.size cap, .cells (bytesRow s cap) e ((bytesRow s cap).size, (bytesRow s cap).size + 1), ⟨w.heap.size, 0, (bytesRow s cap).size, 1⟩, w.drew.alloc (.cells (bytesRow s cap) e ((bytesRow s cap).size, (bytesRow s cap).size + 1)), ?_, rfl, rfl, rfl, rfl, rfl, ?_, ?_⟩
  · simp only [execOp, ho, ex, Sem.run_bind, hrun, Result.andThen_ok]; rfl
  · refine .row (fun _ => ⟨fun h0 => by simp at h0, fun k hk => ?_⟩) rfl rfl ?_ (fun i v hv => ?_)
    · simp; omega
    · simp [bytesL, bytesRow]
    · refine ⟨v, ?_, ?_⟩
      · have hi : i < (bytesL s).length := (List.getElem?_eq_some_iff.1 hv).1
        have hi' : i < s.data.size := by simpa [bytesL] using hi
        unfold bytesRow
        rw [Nat.zero_add, Array.getElem?_append_left (by simpa using hi')]
        rw [← hv, bytesL, List.getElem?_map, Array.getElem?_map, Array.getElem?_toList]
      · unfold bytesL at hv
        rw [List.getElem?_map] at hv
        obtain ⟨b, _, rfl⟩ := Option.map_eq_some_iff.mp hv
        exact .base rfl
  · have := VRel.slc (o := 0) (n := s.size) (c := s.size) (c' := cap) (upd_same ρ id ⟨w.heap.size, 0, (bytesRow s cap).size, 1⟩) (.inr ⟨hcap, Nat.one_pos, by show 0 + 0 + cap * 1 ≤ (bytesRow s cap).size; omega⟩)
    simpa using this

theorem pure_string0 {P : Program} {o : Oper} {a : Act} {src dst e : TypeId} {x : Operand} {A : Option Addr} {c : Nat} (ho : o.op = .convert src dst x) (hx : a.eval x = .slice A 0 c) (hA : A = none → c = 0) (hs : P.underlying src = some (.slice e)) (hd : P.underlying dst = some .string) (he : isU8 P e = true) :
    PureOp P o a (.string ByteArray.empty) := by
  intro ρ ar w hrel
  have gx := hrel x (by simp [ho, Op.operands])
  rw [hx] at gx
  have ex : ∃ A' c', ar.eval x = .slice A' 0 c' := by
    cases A with
    | none => rw [hA rfl] at gx; exact ⟨_, _, scal_eq rfl gx⟩
    | some q => obtain ⟨q', c', e⟩ := gx.someslc; exact ⟨_, _, e⟩
  obtain ⟨A', c', ex⟩ := ex
  refine ⟨.string ByteArray.empty, ?_, .base rfl⟩
  have h1 := run_convert_bytes_string (P := P) w src dst e A' 0 c' hs (isU8_inv he) hd
  have h2 : (Conv.bytesToString (.slice A' 0 c')).run P w = .ok (.string ByteArray.empty) w := by
    cases A' with
    | none => rfl
    | some q =>
      have := run_bytesToString (P := P) w q 0 c' [] (by simp [loadCells, loadCellsFrom])
      simpa using this
  simp only [execOp, ho, ex, Sem.run_bind, h1, h2, Result.andThen_ok]; rfl
theorem read_string {P : Program} {o : Oper} {a : Act} {h : IHeap} {src dst e : TypeId} {x : Operand} {i q n c esz : Nat} {ro : Bool} {cs vs : List Value} {m : List Int} (ho : o.op = .convert src dst x) (hx : a.eval x = .slice (some ⟨i, q, none⟩) n c) (hn : n ≠ 0) (hs : P.underlying src = some (.slice e)) (hd : P.underlying dst = some .string) (he : isU8 P e = true)
    (hg : h.get i = some (.row ro esz cs)) (hv : slots cs q n = some vs) (hm : intsOf vs = some m) : ROp P o a h (.string (strOf m)) [i] := by
  intro ρ ar w hmod hrel
  have gx := hrel x (by simp [ho, Op.operands])
  rw [hx] at gx
  rcases gx.slc_inv with ⟨R, c', hR, hc, ex⟩ | ⟨h0, _⟩
  · obtain ⟨ob, hb, hor⟩ := hmod i (by simp) R _ hg hR
    obtain ⟨vs', k1, k2, k3⟩ := slots_run (P := P) hb hor hv
    have hvs : vs' = m.map (Value.int .u8) := by
      have h1 := intsOf_inv hm
      apply List.ext_getElem?
      intro j
      by_cases hj : j < vs.length
      · obtain ⟨v', a1, a2⟩ := k2.2 j vs[j] (by simp [hj])
        rw [a1, ← h1]
        have hsc : scal vs[j] = true := by
          have : vs[j] ∈ m.map (Value.int .u8) := by rw [← h1]; exact List.getElem_mem hj
          obtain ⟨n, _, hn⟩ := List.mem_map.1 this
          rw [← hn]; rfl
        rw [scal_eq hsc a2]
        simp [hj]
      · rw [List.getElem?_eq_none (by rw [← k2.1]; omega), List.getElem?_eq_none (by rw [← h1]; omega)]
    refine ⟨.string (strOf m), ?_, .base rfl⟩
    have h1 := run_convert_bytes_string (P := P) w src dst e (some ⟨R.block, R.off + q, none⟩) n c' hs (isU8_inv he) hd
    have h2 := run_bytesToString (P := P) w ⟨R.block, R.off + q, none⟩ n c' m (by rw [k1, hvs])
    rw [strOf_eq] at h2
    simp only [execOp, ho, ex, Sem.run_bind, h1, h2, Result.andThen_ok]; rfl
  · exact absurd h0 hn

/-- A conversion between strings and bytes. -/
def icvt (P : Program) (h : IHeap) (src dst : TypeId) (x : Value) : Option (Value × IHeap × Option (Option Nat)) :=
  match x, P.underlying src, P.underlying dst with
  | .string s, some .string, some (.slice e) => if isU8 P e then pushH h (.row false 1 (bytesL s)) fun h' => some (.slice (some ⟨h.size, 0, none⟩) s.size s.size, h', none) else none
  | .slice none 0 0, some (.slice e), some .string => if isU8 P e then some (.string ByteArray.empty, h, some none) else none
  | .slice (some ⟨i, q, none⟩) n _, some (.slice e), some .string => if isU8 P e then
      (if n = 0 then some (.string ByteArray.empty, h, some none) else
        (match h.get i with
        | some (.row _ _ cs) => (match slots cs q n with
          | some vs => (match intsOf vs with
            | some m => some (.string (strOf m), h, some (some i))
            | none => none)
          | none => none)
        | _ => none)) else none
  | .slice (some ⟨_, _, some _⟩) 0 0, some (.slice e), some .string => if isU8 P e then some (.string ByteArray.empty, h, some none) else none
  | _, _, _ => none
theorem icvt_ok {P : Program} {o : Oper} {a : Act} {h h' : IHeap} {src dst : TypeId} {x : Operand} {v : Value} {r : Option (Option Nat)} (ho : o.op = .convert src dst x) (hv : icvt P h src dst (a.eval x) = some (v, h', r)) :
    match r with
    | none => ∃ n, (n ≠ .dead ∧ n.isRo = false) ∧ (∀ L, n ≠ .loop L) ∧ h' = h.push n ∧ AOp P o a h.size v n
    | some none => h' = h ∧ PureOp P o a v
    | some (some i) => h' = h ∧ ROp P o a h v [i] := by
  unfold icvt at hv
  split at hv
  · rename_i s e hx hs hd
    split at hv
    · rename_i he
      rw [pushH_eq] at hv
      cases hv
      exact ⟨_, ⟨by simp, rfl⟩, by simp, rfl, alloc_bytes ho hx hs hd he⟩
    · cases hv
  · rename_i e hx hs hd
    split at hv
    · rename_i he
      cases hv
      exact ⟨rfl, pure_string0 ho hx (fun _ => rfl) hs hd he⟩
    · cases hv
  · rename_i i q n c e hx hs hd
    split at hv
    · rename_i he
      split at hv
      · rename_i hn
        cases hv
        subst hn
        exact ⟨rfl, pure_string0 ho hx (fun h => by cases h) hs hd he⟩
      · rename_i hn
        split at hv
        · rename_i ro esz cs hg
          split at hv
          · rename_i vs hsl
            split at hv
            · rename_i m hm
              cases hv
              exact ⟨rfl, read_string ho hx hn hs hd he hg hsl hm⟩
            · cases hv
          · cases hv
        · cases hv
    · cases hv
  · rename_i e hx hs hd
    split at hv
    · rename_i he
      cases hv
      exact ⟨rfl, pure_string0 ho hx (fun h => by cases h) hs hd he⟩
    · cases hv
  · cases hv
end Go.Proofs.Ytmobpbhbllhdcaa.Ideal
end
noncomputable section
namespace Go.Proofs.Ytmobpbhbllhdcaa.Ideal
set_option linter.unusedVariables false
set_option linter.unusedSimpArgs false
set_option linter.unnecessarySimpa false

/-- Two whole numbers, two strings. -/
def ibin (op : BinOp) (x y : Value) : Option Value :=
  match op, x, y with
  | .shl, .int k a, .int _ b => if b < 0 then none else some (.int k (k.wrap (a * 2 ^ min b.toNat k.bits)))
  | .shr, .int k a, .int _ b => if b < 0 then none else some (.int k (a.fdiv (2 ^ min b.toNat k.bits)))
  | .add, .int k a, .int k' b => if k = k' then some (.int k (k.wrap (a + b))) else none
  | .sub, .int k a, .int k' b => if k = k' then some (.int k (k.wrap (a - b))) else none
  | .mul, .int k a, .int k' b => if k = k' then some (.int k (k.wrap (a * b))) else none
  | .quo, .int k a, .int k' b => if k = k' ∧ b ≠ 0 then some (.int k (k.wrap (a.tdiv b))) else none
  | .rem, .int k a, .int k' b => if k = k' ∧ b ≠ 0 then some (.int k (a.tmod b)) else none
  | .eql, .int k a, .int k' b => if k = k' then some (.bool (a == b)) else none
  | .neq, .int k a, .int k' b => if k = k' then some (.bool (a != b)) else none
  | .lss, .int k a, .int k' b => if k = k' then some (.bool (decide (a < b))) else none
  | .leq, .int k a, .int k' b => if k = k' then some (.bool (decide (a ≤ b))) else none
  | .gtr, .int k a, .int k' b => if k = k' then some (.bool (decide (a > b))) else none
  | .geq, .int k a, .int k' b => if k = k' then some (.bool (decide (a ≥ b))) else none
  | .and, .int k a, .int k' b => if k = k' then some (.int k (k.wrap (BitVec.ofInt k.bits a &&& BitVec.ofInt k.bits b).toNat)) else none
  | .or, .int k a, .int k' b => if k = k' then some (.int k (k.wrap (BitVec.ofInt k.bits a ||| BitVec.ofInt k.bits b).toNat)) else none
  | .xor, .int k a, .int k' b => if k = k' then some (.int k (k.wrap (BitVec.ofInt k.bits a ^^^ BitVec.ofInt k.bits b).toNat)) else none
  | .andNot, .int k a, .int k' b => if k = k' then some (.int k (k.wrap (BitVec.ofInt k.bits a &&& ~~~BitVec.ofInt k.bits b).toNat)) else none
  | _, _, _ => none
theorem ibin_run {P : Program} {op : BinOp} {x y v : Value} (h : ibin op x y = some v) (t : TypeId) (c1 c2 : Operand) (w : World) :
    (do eqGuard op t c1 c2 x y; binOp op t x y : Sem Value).run P w = .ok v w ∧ scal x = true ∧ scal y = true ∧ scal v = true := by
  unfold ibin at h
  split at h <;> first
    | (split at h <;> first | (cases h; done) | skip)
    | (cases h; done)
  all_goals
    cases h
    refine ⟨?_, rfl, rfl, rfl⟩
    first
      | (rename_i hk; obtain ⟨rfl, hb⟩ := hk; simp [Sem.run_bind, eqGuard, binOp, Op.intDiv, hb]; done)
      | (rename_i hk; subst hk; simp [Sem.run_bind, eqGuard, binOp, Op.intArith, Op.intCmp, Op.intBits]; done)
      | (rename_i hk; simp [Sem.run_bind, eqGuard, binOp, Op.shift, hk]; done)
theorem pure_bin {P : Program} {o : Oper} {a : Act} {op : BinOp} {t ty : TypeId} {x y : Operand} {v : Value} (ho : o.op = .binOp op t x y ty) (h : ibin op (a.eval x) (a.eval y) = some v) : PureOp P o a v := by
  intro ρ ar w hrel
  have hx := hrel x (by simp [ho, Op.operands])
  have hy := hrel y (by simp [ho, Op.operands])
  obtain ⟨h1, h2, h3, h4⟩ := ibin_run (P := P) h t x y w
  rw [← scal_eq h2 hx, ← scal_eq h3 hy] at h1
  refine ⟨v, ?_, .base h4⟩
  simp only [execOp, ho, Sem.run_bind] at h1 ⊢
  rw [h1]
  rfl

/-- The model's own text, where all operands are plain. -/
def iplain (P : Program) (ev : Operand → Value) (o : Oper) : Option Value :=
  match o.op with
  | .select _ _ => none
  | .panic _ => none
  | _ => if o.op.operands.all (fun x => plainV (ev x)) then (match pureVal P (execOp ev o) with
    | some (.value v) => if plainV v then some v else none
    | _ => none) else none
theorem iplain_ok {P : Program} {a : Act} {o : Oper} {v : Value} (h : iplain P a.eval o = some v) : PureOp P o a v := by
  unfold iplain at h
  split at h
  · cases h
  · cases h
  · rename_i hns _
    split at h
    · rename_i hp
      split at h
      · rename_i u hv
        split at h
        · rename_i hr
          cases h
          exact pureOp_plain (fun cs b e => hns cs b e) hp hv hr
        · cases h
      · cases h
    · cases h

/-- An operation that touches no memory. -/
def ipure (P : Program) (ev : Operand → Value) (o : Oper) : Option Value :=
  match o.op with
  | .move x => some (ev x)
  | .assign x => some (ev x)
  | .pick c x y => (match ev c with | .bool b => some (if b then ev x else ev y) | _ => none)
  | .nilCheck x => (match ev x with
    | .pointer (some ⟨i, q, none⟩) => some (.pointer (some ⟨i, q, none⟩))
    | .func (.func g) fs cs => some (.func (.func g) fs cs)
    | .func (.yield l) fs cs => if fs = #[] ∧ cs = #[] then some (.func (.yield l) #[] #[]) else none
    | _ => none)
  | .fieldAddr s x f => (match ev x with
    | .pointer (some ⟨i, q, none⟩) => (fieldOff P s f).map fun k => .pointer (some ⟨i, q + k, none⟩)
    | _ => none)
  | .indexAddr t x ix => (match ev x, ev ix with
    | .slice (some ⟨i, q, none⟩) n _, .int _ j => (match slcOf P t with
      | some (_, s) => if 0 ≤ j ∧ j < n then some (.pointer (some ⟨i, q + j.toNat * s, none⟩)) else none
      | none => none)
    | .pointer (some ⟨i, q, none⟩), .int _ j => (match arrOf P t with
      | some (n, s) => if 0 ≤ j ∧ j < n then some (.pointer (some ⟨i, q + j.toNat * s, none⟩)) else none
      | none => none)
    | _, _ => none)
  | .field t x f => (match ev x, P.underlying t with
    | .agg cs, some (.struct fs) => (match fs[f]? with | some fl => partOf P fl.type cs fl.offset | none => none)
    | _, _ => none)
  | .index t x ix => (match ev x, ev ix, P.underlying t with
    | .agg cs, .int _ j, some (.array n e) => (match tsize P e with | some s => if 0 ≤ j ∧ j < n then partOf P e cs (j.toNat * s) else none | none => none)
    | _, _, _ => iplain P ev o)
  | .extract x f => (match ev x with | .tuple cs => cs[f]? | _ => none)
  | .build t ps => buildOf P t (ps.map fun (i, x) => (i, ev x)).toList
  | .makeFunc (.func g) fs cs => some (.func (.func g) (fs.map ev) (cs.map ev))
  | .makeInterface t x => (match P.underlying t with | some (.interface _) => none | some _ => some (.iface t (ev x)) | none => none)
  | .binOp op t x y _ => (match ibin op (ev x) (ev y) with
    | some v => some v
    | none => (match op, P.underlying t with
      | .eql, some d => (match nilEq d (ev x) (ev y) with | some b => some (.bool b) | none => iplain P ev o)
      | .neq, some d => (match nilEq d (ev x) (ev y) with | some b => some (.bool (!b)) | none => iplain P ev o)
      | _, _ => iplain P ev o))
  | .slice t x lo hi mx => (match ev x with
    | .pointer (some ⟨i, q, none⟩) => (match arrOf P t with
      | some (N, s) => (match bounds N N (lo.map ev) (hi.map ev) (mx.map ev) with
        | some (l, h, m) => some (.slice (some (cutAddr i q l s h m true)) (h - l) (m - l))
        | none => none)
      | none => none)
    | .slice (some ⟨i, q, some u⟩) 0 0 => (match slcOf P t, bounds 0 0 (lo.map ev) (hi.map ev) (mx.map ev) with
      | some _, some _ => some (.slice (some ⟨i, q, some u⟩) 0 0)
      | _, _ => none)
    | _ => iplain P ev o)
  | .call c => (match c.callee, c.args.toList, (c.argTypes[0]?).bind P.underlying with
    | .builtin .len, [x], some (.slice _) => (match ev x with
      | .slice _ n _ => some (.int .i64 n)
      | _ => none)
    | .builtin .len, [x], some (.map _ _) => (match ev x with
      | .map none => some (.int .i64 0)
      | _ => none)
    | .builtin _, _, _ => iplain P ev o
    | _, _, _ => none)
  | .sliceToArrayPointer t x => (match ev x, P.underlying t with
    | .slice (some ⟨i, q, none⟩) n _, some (.array N _) => if N ≤ n ∧ 0 < N then some (.pointer (some ⟨i, q, none⟩)) else none
    | _, _ => none)
  | _ => iplain P ev o

theorem ipure_ok {P : Program} {a : Act} {o : Oper} {v : Value} (h : ipure P a.eval o = some v) : PureOp P o a v := by
  unfold ipure at h
  split at h
  case h_1 x ho => cases h; exact pure_move (.inl ho)
  case h_2 x ho => cases h; exact pure_move (.inr ho)
  case h_3 c x y ho =>
    split at h
    · rename_i b hb
      cases h
      exact pure_pick ho hb
    · cases h
  case h_4 x ho =>
    split at h
    · rename_i i q hx; cases h; rw [← hx]; exact pure_nilCheck ho hx
    · rename_i g fs cs hx; cases h; rw [← hx]; exact pure_nilCheckF ho hx
    · rename_i l fs cs hx
      split at h
      · rename_i hc
        obtain ⟨rfl, rfl⟩ := hc
        cases h; rw [← hx]; exact pure_nilCheckY ho hx
      · cases h
    · cases h
  case h_5 s x f ho =>
    split at h
    · rename_i i q hx
      obtain ⟨k, hk, rfl⟩ := Option.map_eq_some_iff.mp h
      exact pure_fieldAddr ho hx hk
    · cases h
  case h_6 t x ix ho =>
    split at h
    · rename_i i q n c k j hx hi
      split at h
      · rename_i e s hs
        split at h
        · rename_i hb
          cases h
          exact pure_indexAddrS ho hx hi hs hb.1 hb.2
        · cases h
      · cases h
    · rename_i i q k j hx hi
      split at h
      · rename_i n s hs
        split at h
        · rename_i hb
          cases h
          exact pure_indexAddrA ho hx hi hs hb.1 hb.2
        · cases h
      · cases h
    · cases h
  case h_7 t x f ho =>
    split at h
    · rename_i cs fs hx hu
      split at h
      · rename_i fl hf
        exact pure_field ho hx hu hf h
      · cases h
    · cases h
  case h_8 t x ix ho =>
    split at h
    · rename_i cs k j n e hx hi hu
      split at h
      · rename_i s hs
        split at h
        · rename_i hb
          exact pure_indexA ho hx hi hu hs hb.1 hb.2 h
        · cases h
      · cases h
    · exact iplain_ok h
  case h_9 x f ho =>
    split at h
    · rename_i cs hx
      exact pure_extract ho hx h
    · cases h
  case h_10 t ps ho => exact pure_build ho h
  case h_11 g fs cs ho => cases h; exact pure_makeFunc ho
  case h_12 t x ho =>
    split at h
    · cases h
    · rename_i d hn hu
      cases h
      exact pure_makeInterface ho hu (by cases d <;> first | rfl | (exact absurd rfl (hn _)))
    · cases h
  case h_13 op t x y ty ho =>
    split at h
    · rename_i u hb
      cases h
      exact pure_bin ho hb
    · split at h
      · split at h
        · rename_i b hb
          cases h
          refine pure_eqNil ho ?_ hb
          assumption
        · exact iplain_ok h
      · split at h
        · rename_i b hb
          cases h
          refine pure_neNil ho ?_ hb
          assumption
        · exact iplain_ok h
      · exact iplain_ok h
  case h_14 t x lo hi mx ho =>
    split at h
    · rename_i i q hx
      split at h
      · rename_i N s hs
        split at h
        · rename_i l hh m hb
          cases h
          exact pure_sliceA ho hx hs hb
        · cases h
      · cases h
    · rename_i i q u hx
      split at h
      · rename_i es r hs hb
        cases h
        obtain ⟨e, s⟩ := es
        obtain ⟨l, hh, m⟩ := r
        exact pure_sliceE ho hx hs hb
      · cases h
    · exact iplain_ok h
  case h_15 c ho =>
    split at h
    · rename_i x e hc ha hu
      split at h
      · rename_i q n k hx
        cases h
        obtain ⟨t, ht, hu'⟩ := Option.bind_eq_some_iff.mp hu
        exact pure_lenS (ts := #[]) ho hc (by rw [← Array.toArray_toList (xs := c.args), ha]) ht hx hu'
      · cases h
    · rename_i x kt et hc ha hu
      split at h
      · rename_i hx
        cases h
        obtain ⟨t, ht, hu'⟩ := Option.bind_eq_some_iff.mp hu
        exact pure_lenMnil ho hc (by rw [← Array.toArray_toList (xs := c.args), ha]) ht hx hu'
      · cases h
    · exact iplain_ok h
    · cases h
  case h_16 t x ho =>
    split at h
    · rename_i i q n k N e hx hu
      split at h
      · rename_i hN
        cases h
        exact pure_toArray ho hx hu hN.1 hN.2
      · cases h
    · cases h
  case h_17 => exact iplain_ok h

theorem ipure_panic {P : Program} {ev : Operand → Value} {o : Oper} {x : Operand} (ho : o.op = .panic x) : ipure P ev o = none := by
  simp only [ipure, ho, iplain]

/-- What an operation does to memory: nothing; it reads one block; it makes one; whatever it says. -/
inductive Cls where
  | pure
  | read (i : Nat)
  | alloc
  | heavy
  deriving DecidableEq, Inhabited

/-! For the kernel's sake: what has come up is laid out. -/
def forceV {β : Type} (v : Value) (k : Value → β) : β :=
  match v with
  | .int q n => k (.int q n)
  | .bool b => k (.bool b)
  | .pointer none => k (.pointer none)
  | .pointer (some ⟨i, o, s⟩) => k (.pointer (some ⟨i, o, s⟩))
  | .slice none n c => k (.slice none n c)
  | .slice (some ⟨i, o, s⟩) n c => k (.slice (some ⟨i, o, s⟩) n c)
  | .map (some i) => k (.map (some i))
  | v => k v
theorem forceV_eq {β : Type} (v : Value) (k : Value → β) : forceV v k = k v := by
  unfold forceV
  split <;> rfl
/-- A list's values, laid out. -/
def forceL {β : Type} : List Value → (List Value → β) → β
  | [], k => k []
  | v :: l, k => forceV v fun v' => forceL l fun l' => k (v' :: l')
theorem forceL_eq {β : Type} : ∀ (l : List Value) (k : List Value → β), forceL l k = k l
  | [], _ => rfl
  | v :: l, k => by unfold forceL; rw [forceV_eq, forceL_eq l]
def iload (P : Program) (h : IHeap) (t : TypeId) (x : Value) : Option (Value × IHeap × Cls) :=
  match x with
  | .pointer (some ⟨i, q, none⟩) => (match h.get i with
    | some (.row _ _ cs) => (loadOf P t cs q).map fun v => (v, h, .read i)
    | _ => none)
  | _ => none
def istore (P : Program) (h : IHeap) (t : TypeId) (x y : Value) : Option (Value × IHeap × Cls) :=
  match x with
  | .pointer (some ⟨i, q, none⟩) => (match h.get i, tsize P t with
    | some (.row false esz cs), some n => if y.cells.size = n ∧ q + n ≤ cs.length ∧ y.cells.toList.all (·.oneCell') = true then forceL (splice cs q y.cells.toList) fun cs' => setH h i (.row false esz cs') fun h' => some (undef, h', .heavy) else none
    | _, _ => none)
  | _ => none
def ialloc (P : Program) (h : IHeap) (t : TypeId) : Option (Value × IHeap × Cls) :=
  match zeroOf P t with
  | some z => pushH h (.row false 0 z.toList) fun h' => some (.pointer (some ⟨h.size, 0, none⟩), h', .alloc)
  | none => none
def ibuildSlice (P : Program) (h : IHeap) (t : TypeId) (n : Nat) (ps : List (Nat × Value)) : Option (Value × IHeap × Cls) :=
  match slcOf P t with
  | some (e, s) => (match zeroOf P e with
    | some z => if z.size = s ∧ n * s ≤ 16777216 then (Instr.fill (fun i => some (i * s, s)) (zeros z n).toArray ps).bind fun out => pushH h (.row false s out.toList) fun h' => some (.slice (some ⟨h.size, 0, none⟩) n n, h', .alloc) else none
    | none => none)
  | none => none
def imakeSlice (P : Program) (h : IHeap) (t : TypeId) (x y : Value) : Option (Value × IHeap × Cls) :=
  match slcOf P t, x, y with
  | some (e, s), .int _ n, .int _ c => (match zeroOf P e, (P.info? e).map (fun i => (i.bytes : Nat)) with
    | some z, some bytes => if z.size = s ∧ 0 ≤ n ∧ n ≤ c ∧ c < 9223372036854775808 ∧ ((bytes : Nat) : Int) * c ≤ 140737488355328 then
        pushH h (.row false s (zeros z c.toNat)) fun h' => some (.slice (some ⟨h.size, 0, none⟩) n.toNat c.toNat, h', .alloc) else none
    | _, _ => none)
  | _, _, _ => none
def islice (P : Program) (h : IHeap) (t : TypeId) (x : Value) (lo hi mx : Option Value) : Option (Value × IHeap × Cls) :=
  match x with
  | .slice (some ⟨i, q, none⟩) n c => (match slcOf P t, bounds n c lo hi mx, h.get i with
    | some (_, s), some (l, hh, m), some (.row _ esz _) => if esz = 0 ∨ esz = s then some (.slice (some (cutAddr i q l s hh m mx.isSome)) (hh - l) (m - l), h, .read i) else none
    | _, _, _ => none)
  | _ => none
/-- A call of the language's own functions. -/
def icall (P : Program) (ev : Operand → Value) (o : Oper) (c : Call) (h : IHeap) : Option (Value × IHeap × Cls) :=
  match c.callee, c.args.toList, c.argTypes.toList with
  | .builtin .append, [s, x], [t, t2] => (iappend P h t t2 (ev s) (ev x)).map fun (v, h') => (v, h', .heavy)
  | .builtin .copy, [d, x], [t, _] => (icopy P h t (ev d) (ev x)).map fun (v, h') => (v, h', .heavy)
  | .builtin .delete, [x, k], [t, _] => (idelete P h t (ev x) (ev k)).map fun h' => (undef, h', .heavy)
  | .builtin .len, [x], [t] => (match ev x, mapOf P t with
    | .map (some i), some _ => (match h.get i with
      | some (.map es _) => some (.int .i64 es.length, h, .read i)
      | _ => none)
    | _, _ => (ipure P ev o).map fun v => (v, h, .pure))
  | _, _, _ => (ipure P ev o).map fun v => (v, h, .pure)
/-- An operation. -/
def iop (P : Program) (ev : Operand → Value) (o : Oper) (h : IHeap) : Option (Value × IHeap × Cls) :=
  match o.op with
  | .load t x => iload P h t (ev x)
  | .store t x y => istore P h t (ev x) (ev y)
  | .box _ x => pushH h (.row false 0 (ev x).cells.toList) fun h' => some (.pointer (some ⟨h.size, 0, none⟩), h', .alloc)
  | .alloc t => ialloc P h t
  | .buildSlice t n ps => ibuildSlice P h t n (ps.map fun (i, x) => (i, ev x)).toList
  | .makeSlice t x y => imakeSlice P h t (ev x) (ev y)
  | .makeMap _ none => pushH h (.map [] 0) fun h' => some (.map (some h.size), h', .alloc)
  | .slice t x lo hi mx => (match islice P h t (ev x) (lo.map ev) (hi.map ev) (mx.map ev) with
    | some r => some r
    | none => (ipure P ev o).map fun v => (v, h, .pure))
  | .call c => icall P ev o c h
  | .lookup t x k ok => (ilookup P h t (ev x) (ev k) ok).map fun r => (r.1, h, match r.2 with | some i => .read i | none => .pure)
  | .mapUpdate t x k u => (iupdate P h t (ev x) (ev k) (ev u)).map fun h' => (undef, h', .heavy)
  | .insert t x k u => (iupdate P h t (ev x) (ev k) (ev u)).map fun h' => (undef, h', .heavy)
  | .convert src dst x => (match icvt P h src dst (ev x) with
    | some (v, h', none) => some (v, h', .alloc)
    | some (v, h', some none) => some (v, h', .pure)
    | some (v, h', some (some i)) => some (v, h', .read i)
    | none => (ipure P ev o).map fun v => (v, h, .pure))
  | .range t x => (irange P h t (ev x)).map fun (v, h') => (v, h', .heavy)
  | .next x false => (inext h (ev x)).map fun (v, h') => (v, h', .heavy)
  | .entry x => (ientry h (ev x)).map fun v => (v, h, .heavy)
  | _ => (ipure P ev o).map fun v => (v, h, .pure)

theorem iop_panic {P : Program} {ev : Operand → Value} {o : Oper} {x : Operand} {h : IHeap} (ho : o.op = .panic x) : iop P ev o h = none := by
  simp only [iop, ho, ipure_panic ho, Option.map_none]

/-- What the class says is so. -/
def ClsOk (P : Program) (o : Oper) (a : Act) (h : IHeap) (v : Value) (h' : IHeap) : Cls → Prop
  | .pure => h' = h ∧ PureOp P o a v
  | .read i => h' = h ∧ ROp P o a h v [i]
  | .alloc => ∃ n, (n ≠ .dead ∧ n.isRo = false) ∧ h' = h.push n ∧ AOp P o a h.size v n
  | .heavy => MOp P o a h v h'

theorem iop_ok {P : Program} {a : Act} {o : Oper} {h h' : IHeap} {v : Value} {c : Cls} (hi : iop P a.eval o h = some (v, h', c)) : ClsOk P o a h v h' c := by
  have pure_case : ∀ {r}, (ipure P a.eval o).map (fun v => (v, h, Cls.pure)) = some r → r = (v, h', c) → ClsOk P o a h v h' c := by
    intro r hr e
    obtain ⟨u, hu, rfl⟩ := Option.map_eq_some_iff.mp hr
    cases e
    exact ⟨rfl, ipure_ok hu⟩
  unfold iop at hi
  split at hi
  · rename_i t x ho
    unfold iload at hi
    split at hi
    · rename_i i q hx
      split at hi
      · rename_i ro esz cs hg
        obtain ⟨u, hu, e⟩ := Option.map_eq_some_iff.mp hi
        cases e
        exact ⟨rfl, read_load ho hx hg hu⟩
      · cases hi
    · cases hi
  · rename_i t x y ho
    unfold istore at hi
    split at hi
    · rename_i i q hx
      split at hi
      · rename_i esz cs n hg hs
        split at hi
        · rename_i hc
          rw [forceL_eq, setH_eq] at hi
          cases hi
          exact mem_store ho hx hg hs hc.1 hc.2.1 hc.2.2
        · cases hi
      · cases hi
    · cases hi
  · rename_i t x ho
    rw [pushH_eq] at hi
    cases hi
    exact ⟨_, ⟨by simp, rfl⟩, rfl, alloc_box ho⟩
  · rename_i t ho
    unfold ialloc at hi
    split at hi
    · rename_i z hz
      rw [pushH_eq] at hi
      cases hi
      exact ⟨_, ⟨by simp, rfl⟩, rfl, alloc_alloc ho hz⟩
    · cases hi
  · rename_i t n ps ho
    unfold ibuildSlice at hi
    split at hi
    · rename_i e s hs
      split at hi
      · rename_i z hz
        split at hi
        · rename_i hc
          obtain ⟨out, hf, e⟩ := Option.bind_eq_some_iff.mp hi
          rw [pushH_eq] at e
          cases e
          exact ⟨_, ⟨by simp, rfl⟩, rfl, alloc_buildSlice ho hs hz hc.1 hc.2 hf⟩
        · cases hi
      · cases hi
    · cases hi
  · rename_i t x y ho
    unfold imakeSlice at hi
    split at hi
    · rename_i e s k n k' c' hs hx hy
      split at hi
      · rename_i z bytes hz hb
        split at hi
        · rename_i hc
          rw [pushH_eq] at hi
          cases hi
          exact ⟨_, ⟨by simp, rfl⟩, rfl, alloc_makeSlice ho hs hz hc.1 hb hx hy hc.2.1 hc.2.2.1 hc.2.2.2.1 hc.2.2.2.2⟩
        · cases hi
      · cases hi
    · cases hi
  · rename_i t ho
    rw [pushH_eq] at hi
    cases hi
    exact ⟨_, ⟨by simp, rfl⟩, rfl, alloc_makeMap ho⟩
  · rename_i t x lo hi' mx ho
    split at hi
    · rename_i r hr
      cases hi
      unfold islice at hr
      split at hr
      · rename_i i q n cc hx
        split at hr
        · rename_i e s l hh m ro esz cs hs hb hg
          split at hr
          · rename_i hc
            cases hr
            have := read_sliceS ho hx hs hb hg hc
            simp only [Option.isSome_map] at this ⊢
            exact ⟨rfl, this⟩
          · cases hr
        · cases hr
      · cases hr
    · exact pure_case hi rfl
  · rename_i cl ho
    unfold icall at hi
    split at hi
    · rename_i s x t t2 hc ha ht
      obtain ⟨⟨u, hu'⟩, hu, e⟩ := Option.map_eq_some_iff.mp hi
      cases e
      exact mem_append ho hc (by rw [← Array.toArray_toList (xs := cl.args), ha]) (by rw [← Array.toArray_toList (xs := cl.argTypes), ht]) hu
    · rename_i s x t t2 hc ha ht
      obtain ⟨⟨u, hu'⟩, hu, e⟩ := Option.map_eq_some_iff.mp hi
      cases e
      exact mem_copy ho hc (by rw [← Array.toArray_toList (xs := cl.args), ha]) (by rw [← Array.toArray_toList (xs := cl.argTypes), ht]) hu
    · rename_i s x t t2 hc ha ht
      obtain ⟨u, hu, e⟩ := Option.map_eq_some_iff.mp hi
      cases e
      exact mem_delete ho hc (by rw [← Array.toArray_toList (xs := cl.args), ha]) (by rw [← Array.toArray_toList (xs := cl.argTypes), ht]) hu
    · rename_i x t hc ha ht
      split at hi
      · rename_i i p hx hmp
        split at hi
        · rename_i es ck hg
          cases hi
          obtain ⟨kt, et⟩ := p
          exact ⟨rfl, read_lenM ho hc (by rw [← Array.toArray_toList (xs := cl.args), ha]) (by rw [← Array.toArray_toList (xs := cl.argTypes), ht]; rfl) hx (mapOf_inv hmp) hg⟩
        · cases hi
      · exact pure_case hi rfl
    · exact pure_case hi rfl
  · rename_i t x k ok ho
    obtain ⟨⟨u, r⟩, hu, e⟩ := Option.map_eq_some_iff.mp hi
    cases e
    have := read_lookup ho hu
    cases r with
    | none => exact ⟨rfl, fun ρ ar w hrel => this ρ ar w (fun i hi => by simp at hi) hrel⟩
    | some i => exact ⟨rfl, this⟩
  · rename_i t x k y ho
    obtain ⟨u, hu, e⟩ := Option.map_eq_some_iff.mp hi
    cases e
    exact mem_update (.inl ho) hu
  · rename_i t x k y ho
    obtain ⟨u, hu, e⟩ := Option.map_eq_some_iff.mp hi
    cases e
    exact mem_update (.inr ho) hu
  · rename_i src dst x ho
    split at hi
    · rename_i hc
      cases hi
      have := icvt_ok ho hc
      dsimp only at this
      obtain ⟨n, a1, a2, a3, a4⟩ := this
      exact ⟨n, a1, a3, a4⟩
    · rename_i hc
      cases hi
      have := icvt_ok ho hc
      exact this
    · rename_i hc
      cases hi
      have := icvt_ok ho hc
      exact this
    · exact pure_case hi rfl
  · rename_i t x ho
    obtain ⟨⟨u, hu'⟩, hu, e⟩ := Option.map_eq_some_iff.mp hi
    cases e
    exact mem_range ho hu
  · rename_i x ho
    obtain ⟨⟨u, hu'⟩, hu, e⟩ := Option.map_eq_some_iff.mp hi
    cases e
    exact mem_next ho hu
  · rename_i x ho
    obtain ⟨u, hu, e⟩ := Option.map_eq_some_iff.mp hi
    cases e
    exact mem_entry ho hu
  · exact pure_case hi rfl
end Go.Proofs.Ytmobpbhbllhdcaa.Ideal
end
