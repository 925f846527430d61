/- The ideal heap: I7, I8, I8b. Appends and copies. -/
import Derived.Test.YtmobpbhbllhdcaaI6
import Derived.Laws.AppendOwn
noncomputable section
namespace Go.Proofs.Ytmobpbhbllhdcaa.Ideal
set_option linter.unusedVariables false
set_option linter.unusedSimpArgs false
set_option linter.unnecessarySimpa false

/-- What is appended or copied: how many elements, their cells. -/
def srcOf (h : IHeap) (size : Nat) (x : Value) : Option (Nat × List Value) :=
  match x with
  | .slice none 0 0 => some (0, [])
  | .slice (some ⟨j, q, sp⟩) m _ => if m = 0 then some (0, []) else (match sp with
    | none => (match h.get j with
      | some (.row _ _ cs) => (slots cs q (m * size)).map fun vs => (m, vs)
      | _ => none)
    | some _ => none)
  | .string s => if size = 1 then some (s.size, s.data.toList.map fun b => .int .u8 (b.toNat : Int)) else none
  | _ => none
theorem src_run {P : Program} {ρ : Rho} {h : IHeap} {w : World} {size m : Nat} {x x' : Value} {vs : List Value} (hs : srcOf h size x = some (m, vs)) (hm : Models ρ h w) (hx : VRel ρ x x') :
    ∃ vs', (Builtin.lenOf x').run P w = .ok m w ∧ LRel ρ vs vs' ∧ vs.length = m * size ∧ ∀ k, k ≤ m → ∀ w1, w1.heap = w.heap → (Builtin.firstCells size k x').run P w1 = .ok (vs'.take (k * size)).toArray w1 := by
  unfold srcOf at hs
  split at hs
  · cases hs
    rw [scal_eq rfl hx]
    refine ⟨[], rfl, ⟨rfl, fun i v hv => by simp at hv⟩, by simp, fun k hk w1 _ => by simp [Builtin.firstCells]⟩
  · rename_i j q sp n c
    split at hs
    · rename_i h0
      cases hs
      subst h0
      obtain ⟨a', c', e⟩ := hx.someslc
      subst e
      refine ⟨[], rfl, ⟨rfl, fun i v hv => by simp at hv⟩, by simp, fun k hk w1 _ => ?_⟩
      have : k = 0 := by omega
      subst this
      simp [Builtin.firstCells, loadCells, loadCellsFrom]
    · split at hs
      · split at hs
        · rename_i hne _ ro esz cs hg
          obtain ⟨vs0, hsl, he⟩ := Option.map_eq_some_iff.mp hs
          cases he
          rcases hx.slc_inv with ⟨R, c', hR, hc, e0⟩ | ⟨h0, _⟩
          · subst e0
            obtain ⟨ob, hb, hor⟩ := hm.obj j R _ hg hR
            obtain ⟨vs', k1, k2, k3⟩ := slots_run (P := P) hb hor hsl
            refine ⟨vs', rfl, k2, k3, fun k hk w1 hw1 => ?_⟩
            have hks : k * size ≤ m * size := Nat.mul_le_mul_right _ hk
            have hsl' : slots cs q (k * size) = some (vs.take (k * size)) := by
              unfold slots at hsl ⊢
              split at hsl
              · obtain rfl := Option.some.inj hsl
                rw [if_pos (by omega), List.take_take, Nat.min_eq_left hks]
              · cases hsl
            have hb1 : w1.heap[R.block]? = some ob := by rw [hw1]; exact hb
            obtain ⟨c2, e2, fr2, rfl, _, _, hroom, hz, hcl⟩ := hor.cells
            have hlen' : vs'.length = m * size := by rw [← k2.1]; exact k3
            have hg' : ∀ (i : Nat) (v : Value), (vs'.take (k * size))[i]? = some v → w1.cell? ((⟨R.block, R.off + q, none⟩ : Addr).add i) = some v := by
              intro i v hv
              have hlt : i < k * size := by
                have := (List.getElem?_eq_some_iff.1 hv).1
                rw [List.length_take] at this; omega
              rw [List.getElem?_take, if_pos hlt] at hv
              rw [add_none, cell_of hb1]
              -- the cells that the first load gave
              have h1 := run_loadCells_list (P := P) w ⟨R.block, R.off + q, none⟩ ((c2.toList.drop (R.off + q)).take (m * size)) (fun i v hv => by
                rw [add_none, cell_of hb]
                rw [List.getElem?_take] at hv
                split at hv
                · rw [List.getElem?_drop, Array.getElem?_toList] at hv; exact hv
                · cases hv)
              have hl2 : ((c2.toList.drop (R.off + q)).take (m * size)).length = m * size := by
                have hq : q + m * size ≤ cs.length := by
                  unfold slots at hsl
                  split at hsl
                  · assumption
                  · cases hsl
                simp; omega
              rw [hl2, k1] at h1
              simp only [Result.ok.injEq, and_true] at h1
              have h2 : vs' = (c2.toList.drop (R.off + q)).take (m * size) := by simpa using h1
              rw [h2, List.getElem?_take, if_pos (by omega), List.getElem?_drop, Array.getElem?_toList] at hv
              exact hv
            have hfin := run_loadCells_list (P := P) w1 ⟨R.block, R.off + q, none⟩ (vs'.take (k * size)) hg'
            rw [List.length_take, hlen', Nat.min_eq_left hks] at hfin
            exact hfin
          · exact absurd h0 (by assumption)
        · cases hs
      · cases hs
  · rename_i s
    split at hs
    · rename_i h1
      cases hs
      subst h1
      rw [scal_eq rfl hx]
      refine ⟨s.data.toList.map fun b => .int .u8 (b.toNat : Int), rfl, ⟨rfl, fun i v hv => ⟨v, hv, ?_⟩⟩, by simp, fun k hk w1 _ => ?_⟩
      · rw [List.getElem?_map] at hv
        obtain ⟨b, _, rfl⟩ := Option.map_eq_some_iff.mp hv
        exact .base rfl
      · simp [Builtin.firstCells, List.map_take]
        apply Array.ext'
        simp [Array.toList_extract, List.extract_eq_take_drop]
    · cases hs
  · cases hs

def isIntD (d : TypeDesc) : Bool := match d with | .int _ => true | _ => false
/-- A type that is no whole number's. -/
def notInt (P : Program) (t : TypeId) : Bool := match P.underlying t with | some (.int _) => false | some _ => true | none => false
theorem notInt_inv {P : Program} {t : TypeId} (h : notInt P t = true) : ∃ d, P.underlying t = some d ∧ isIntD d = false := by
  unfold notInt at h
  cases hu : P.underlying t with
  | none => rw [hu] at h; simp at h
  | some d => rw [hu] at h; cases d <;> first | exact ⟨_, rfl, rfl⟩ | simp at h

section run
variable {P : Program} {w : World} {t t2 ty e : TypeId} {d2 : TypeDesc} {i : TypeInfo} {z : Value}
theorem app_room (ht : P.underlying t = some (.slice e)) (ht2 : P.underlying t2 = some d2) (hd : isIntD d2 = false) (hi : P.info? e = some i) {base : Option Addr} {n c m : Nat} {x : Value} {news : Array Value}
    (hl : (Builtin.lenOf x).run P w = .ok m w) (hf : (Builtin.firstCells i.size m x).run P w = .ok news w) (hle : n + m ≤ c) {w' : World} (hst : ∀ b, base = some b → (storeCells (b.add (n * i.size)) news.toList).run P w = .ok () w') (hb : base = none → w' = w) :
    (Builtin.append_ #[t, t2] ty #[.slice base n c, x]).run P w = .ok (.slice base (n + m) c) w' := by
  have hsz : (sizeOf e).run P w = .ok i.size w := run_size (by simp [tsize, hi]) w
  have g0 : (#[t, t2] : Array TypeId)[0]? = some t := rfl
  have g1 : (#[t, t2] : Array TypeId)[1]? = some t2 := rfl
  have g2 : (#[.slice base n c, x] : Array Value)[0]? = some (.slice base n c) := rfl
  have g3 : (#[.slice base n c, x] : Array Value)[1]? = some x := rfl
  cases d2 <;> first | (simp [isIntD] at hd; done) | skip
  all_goals
    simp only [Builtin.append_, g0, g1, g2, g3, Sem.run_bind, Sem.run_pure, run_under ht, run_under ht2, Result.andThen_ok, hsz, if_false, Bool.false_eq_true, hl, if_pos hle, Bool.not_false, if_true, hf]
    cases base with
    | none => rw [hb rfl]; rfl
    | some b => simp only [hst b rfl, Sem.run_bind, Result.andThen_ok]; rfl
theorem app_grow (ht : P.underlying t = some (.slice e)) (ht2 : P.underlying t2 = some d2) (hd : isIntD d2 = false) (hi : P.info? e = some i) (hzero : ∀ w, (zeroValue e).run P w = .ok z w) {base : Option Addr} {n c m : Nat} {x : Value} {olds news : Array Value}
    (hl : (Builtin.lenOf x).run P w = .ok m w) (hf : (Builtin.firstCells i.size m x).run P w.drew = .ok news w.drew) (ho : (Builtin.firstCells i.size n (.slice base n c)).run P w.drew = .ok olds w.drew) (hle : c < n + m) (h63 : n + m ≤ 4611686018427387904) (hfit : (n + m) * i.bytes ≤ 140737488355328) :
    (Builtin.append_ #[t, t2] ty #[.slice base n c, x]).run P w = .ok (.slice (some ⟨w.heap.size, 0, none⟩) (n + m) (grownCap w (n + m) c e)) (w.drew.alloc (.cells (olds ++ news ++ Builtin.zeroCells z.cells (grownCap w (n + m) c e - (n + m))) e)) := by
  have hsz : (sizeOf e).run P w = .ok i.size w := run_size (by simp [tsize, hi]) w
  have hti : ∀ w, (typeInfo e).run P w = .ok i w := fun w => by simp [typeInfo, program, Sem.run_bind, Sem.run, hi]
  have g0 : (#[t, t2] : Array TypeId)[0]? = some t := rfl
  have g1 : (#[t, t2] : Array TypeId)[1]? = some t2 := rfl
  have g2 : (#[.slice base n c, x] : Array Value)[0]? = some (.slice base n c) := rfl
  have g3 : (#[.slice base n c, x] : Array Value)[1]? = some x := rfl
  have hle' : ¬ (n + m ≤ c) := by omega
  have hfits := growslice_fits hle hfit
  have hfits' : ¬ (Builtin.nextslicecap (n + m) c * i.bytes > 2 ^ 48) := by omega
  have h63' : ¬ (((n + m : Nat) : Int) > IntKind.i64.max) := by
    have : IntKind.i64.max = 9223372036854775807 := by decide
    omega
  have h63'' : ¬ (((n + m : Nat) : Int) > IntKind.i64.max ∧ (False ∨ i.bytes = 0)) := fun h => h63' h.1
  have hch : (choose (.appendCap (n + m) c e)).run P w = .ok (grownCap w (n + m) c e) w.drew := by
    simp [choose, Sem.run, Question.forced, grownCap]
  have hroom : ∀ b, (askRoom b).run P w.drew = .ok () w.drew := fun b => by
    unfold askRoom
    split <;> rfl
  cases d2 <;> first | (simp [isIntD] at hd; done) | skip
  all_goals
    simp only [Builtin.append_, g0, g1, g2, g3, Sem.run_bind, Sem.run_pure, run_under ht, run_under ht2, Result.andThen_ok, hsz, if_false, Bool.false_eq_true, hl, if_neg hle', hti, if_neg h63'', if_neg hfits', hch, hroom, ho, Bool.not_false, if_true, hf, hzero, newRow, newObj]
    rfl
theorem appended_zeros (hzero : ∀ w, (zeroValue e).run P w = .ok z w) (hzs : z.cells.size = i.size) (n : Nat) (w : World) :
    (if n * i.size = 0 then (pure #[] : Sem (Array Value)) else do pure (Builtin.zeroCells (← zeroValue e).cells n)).run P w = .ok (Builtin.zeroCells z.cells n) w := by
  by_cases h : n * i.size = 0
  · rw [if_pos h]
    have : Builtin.zeroCells z.cells n = #[] := by
      unfold Builtin.zeroCells
      rw [hzs, h]; simp
    rw [this]; rfl
  · rw [if_neg h]
    simp only [Sem.run_bind, hzero, Result.andThen_ok]
    rfl
theorem app_roomZ {kk : IntKind} (ht : P.underlying t = some (.slice e)) (ht2 : P.underlying t2 = some (.int kk)) (hi : P.info? e = some i) (hzero : ∀ w, (zeroValue e).run P w = .ok z w) (hzs : z.cells.size = i.size) {base : Option Addr} {n c : Nat} {k : IntKind} {l : Int}
    (hl0 : 0 ≤ l) (hl1 : l < 9223372036854775808) (hlb : l * i.bytes ≤ 281474976710656) (hle : n + l.toNat ≤ c) {w' : World} (hst : ∀ b, base = some b → (storeCells (b.add (n * i.size)) (Builtin.zeroCells z.cells l.toNat).toList).run P w = .ok () w') (hb : base = none → w' = w) :
    (Builtin.append_ #[t, t2] ty #[.slice base n c, .int k l]).run P w = .ok (.slice base (n + l.toNat) c) w' := by
  have hsz : (sizeOf e).run P w = .ok i.size w := run_size (by simp [tsize, hi]) w
  have hti : ∀ w, (typeInfo e).run P w = .ok i w := fun w => by simp [typeInfo, program, Sem.run_bind, Sem.run, hi]
  have g0 : (#[t, t2] : Array TypeId)[0]? = some t := rfl
  have g1 : (#[t, t2] : Array TypeId)[1]? = some t2 := rfl
  have g2 : (#[.slice base n c, .int k l] : Array Value)[0]? = some (.slice base n c) := rfl
  have g3 : (#[.slice base n c, .int k l] : Array Value)[1]? = some (.int k l) := rfl
  have hw := wrap_in l hl0 hl1
  have e1 : ¬ (l < 0) := by omega
  have e2 : ¬ (l * (i.bytes : Int) > 2 ^ 48) := by
    have : (2 : Int) ^ 48 = 281474976710656 := by decide
    omega
  simp only [Builtin.append_, g0, g1, g2, g3, Sem.run_bind, Sem.run_pure, run_under ht, run_under ht2, Result.andThen_ok, hsz, if_true, asInt, asIntOf, hw, e1, e2, hti, if_false, if_pos hle, Bool.not_true, Bool.false_eq_true]
  rw [appended_zeros hzero hzs]
  simp only [Result.andThen_ok]
  cases base with
  | none => rw [hb rfl]; rfl
  | some b => simp only [hst b rfl, Sem.run_bind, Result.andThen_ok]; rfl
theorem app_growZ {kk : IntKind} (ht : P.underlying t = some (.slice e)) (ht2 : P.underlying t2 = some (.int kk)) (hi : P.info? e = some i) (hzero : ∀ w, (zeroValue e).run P w = .ok z w) (hzs : z.cells.size = i.size) {base : Option Addr} {n c : Nat} {k : IntKind} {l : Int} {olds : Array Value}
    (hl0 : 0 ≤ l) (hl1 : l < 9223372036854775808) (hlb : l * i.bytes ≤ 281474976710656) (ho : (Builtin.firstCells i.size n (.slice base n c)).run P w.drew = .ok olds w.drew) (hle : c < n + l.toNat) (h63 : n + l.toNat ≤ 4611686018427387904) (hfit : (n + l.toNat) * i.bytes ≤ 140737488355328) :
    (Builtin.append_ #[t, t2] ty #[.slice base n c, .int k l]).run P w = .ok (.slice (some ⟨w.heap.size, 0, none⟩) (n + l.toNat) (grownCap w (n + l.toNat) c e)) (w.drew.alloc (.cells (olds ++ Builtin.zeroCells z.cells l.toNat ++ Builtin.zeroCells z.cells (grownCap w (n + l.toNat) c e - (n + l.toNat))) e)) := by
  have hsz : (sizeOf e).run P w = .ok i.size w := run_size (by simp [tsize, hi]) w
  have hti : ∀ w, (typeInfo e).run P w = .ok i w := fun w => by simp [typeInfo, program, Sem.run_bind, Sem.run, hi]
  have g0 : (#[t, t2] : Array TypeId)[0]? = some t := rfl
  have g1 : (#[t, t2] : Array TypeId)[1]? = some t2 := rfl
  have g2 : (#[.slice base n c, .int k l] : Array Value)[0]? = some (.slice base n c) := rfl
  have g3 : (#[.slice base n c, .int k l] : Array Value)[1]? = some (.int k l) := rfl
  have hw := wrap_in l hl0 hl1
  have e1 : ¬ (l < 0) := by omega
  have e2 : ¬ (l * (i.bytes : Int) > 2 ^ 48) := by
    have : (2 : Int) ^ 48 = 281474976710656 := by decide
    omega
  have hle' : ¬ (n + l.toNat ≤ c) := by omega
  have hfits := growslice_fits hle hfit
  have hfits' : ¬ (Builtin.nextslicecap (n + l.toNat) c * i.bytes > 2 ^ 48) := by omega
  have h63' : ¬ (((n + l.toNat : Nat) : Int) > IntKind.i64.max) := by
    have : IntKind.i64.max = 9223372036854775807 := by decide
    omega
  have h63'' : ¬ (((n + l.toNat : Nat) : Int) > IntKind.i64.max ∧ (True ∨ i.bytes = 0)) := fun h => h63' h.1
  have hch : (choose (.appendCap (n + l.toNat) c e)).run P w = .ok (grownCap w (n + l.toNat) c e) w.drew := by
    simp [choose, Sem.run, Question.forced, grownCap]
  have hroom : ∀ b, (askRoom b).run P w.drew = .ok () w.drew := fun b => by
    unfold askRoom
    split <;> rfl
  simp only [Builtin.append_, g0, g1, g2, g3, Sem.run_bind, Sem.run_pure, run_under ht, run_under ht2, Result.andThen_ok, hsz, if_true, asInt, asIntOf, hw, e1, e2, hti, if_false, if_neg hle', Bool.not_true, Bool.false_eq_true, if_neg h63'', if_neg hfits', hch, hroom, ho]
  rw [appended_zeros hzero hzs]
  simp only [Result.andThen_ok, hzero, newRow, newObj]
  rfl
end run
end Go.Proofs.Ytmobpbhbllhdcaa.Ideal
end
noncomputable section
namespace Go.Proofs.Ytmobpbhbllhdcaa.Ideal
set_option linter.unusedVariables false
set_option linter.unusedSimpArgs false
set_option linter.unnecessarySimpa false

/-- A row is dead; a new number takes its place in the world (or a part of it). -/
theorem Models.regrow {ρ : Rho} {h : IHeap} {w w' : World} {i : Nat} {R R' : Ren} {o n : IObj} {ob : Obj} (hm : Models ρ h w) (hg : h.get i = some o) (hro : o.isRo = false) (hd : o ≠ .dead) (hi : ρ i = some R) (hf : ρ h.size = none)
    (hz : w'.heap.size = w.heap.size) (hos : w'.os = w.os) (ht : w'.tape = w.tape) (hou : w'.output = w.output) (hb : w'.heap[R.block]? = some ob) (hother : ∀ b, b ≠ R.block → w'.heap[b]? = w.heap[b]?)
    (hR : R'.block = R.block) (ho : ORel (ρ.upd h.size R') R' n ob) : Step ρ h w (ρ.upd h.size R') ((h.set i .dead).push n) w' ∧ Models (ρ.upd h.size R') ((h.set i .dead).push n) w' := by
  have hlt := IHeap.get_lt hg
  obtain ⟨s1, m1⟩ := hm.write (o' := .dead) hg hro hd hi hz hos ht hou hb .dead hother
  have hup : ∀ j S, ρ.upd h.size R' j = some S → (j = h.size ∧ S = R') ∨ (j ≠ h.size ∧ ρ j = some S) := by
    intro j S hj
    unfold Rho.upd at hj
    split at hj
    · exact .inl ⟨by assumption, (Option.some.inj hj).symm⟩
    · exact .inr ⟨by assumption, hj⟩
  have hgp : ∀ j, ((h.set i .dead).push n).get j = if j = h.size then some n else (h.set i .dead).get j := fun j => by rw [IHeap.get_push]; rfl
  -- no other live block shares the world's block
  have alone : ∀ j S, j ≠ h.size → ρ j = some S → S.block = R.block → (h.set i .dead).get j ≠ some .dead → False := by
    intro j S hne hj hbk hdj
    rw [IHeap.get_set _ _ _ _ hlt] at hdj
    by_cases e : i = j
    · subst e; simp at hdj
    · rw [if_neg e] at hdj
      exact e ((hm.inj i j R S hi hj hbk.symm (by rw [hg]; simpa using hd) hdj).resolve_right (fun x => RoO.not hro (hg ▸ x.1)))
  refine ⟨⟨s1.grow.trans (Grow.push _ _), by rw [hz]; exact Nat.le_refl _, hos, ht, hou, ?_, ?_, s1.keep⟩, ⟨?_, ?_, ?_⟩⟩
  · intro j hj
    simp only [IHeap.size_push, IHeap.size_set] at hj
    unfold Rho.upd
    rw [if_neg (by omega)]
  · intro j S h1 h2 hj
    rcases hup j S hj with ⟨_, rfl⟩ | ⟨h3, _⟩
    · exact .inr ⟨i, R, o, hg, hro, hd, hi, hR.symm⟩
    · simp only [IHeap.size_push, IHeap.size_set] at h2; omega
  · intro j S o1 h1 h2
    rw [hgp] at h1
    rcases hup j S h2 with ⟨rfl, rfl⟩ | ⟨h3, h4⟩
    · rw [if_pos rfl] at h1
      cases h1
      exact ⟨ob, by rw [hR]; exact hb, ho⟩
    · rw [if_neg h3] at h1
      obtain ⟨b, h5, h6⟩ := m1.obj j S o1 h1 h4
      exact ⟨b, h5, h6.mono (upd_le hf)⟩
  · intro j k S1 S2 h1 h2 he hd1 hd2
    rw [hgp] at hd1 hd2
    rcases hup j S1 h1 with ⟨rfl, rfl⟩ | ⟨h3, h4⟩ <;> rcases hup k S2 h2 with ⟨rfl, rfl⟩ | ⟨h5, h6⟩
    · exact .inl rfl
    · rw [if_neg h5] at hd2
      exact (alone k S2 h5 h6 (he.symm.trans hR) hd2).elim
    · rw [if_neg h3] at hd1
      exact (alone j S1 h3 h4 (he.trans hR) hd1).elim
    · rw [if_neg h3] at hd1
      rw [if_neg h5] at hd2
      exact (m1.inj j k S1 S2 h4 h6 he hd1 hd2).imp id (fun x => ⟨x.1.grow (Grow.push _ _), x.2.grow (Grow.push _ _)⟩)
  · intro j S h1
    rcases hup j S h1 with ⟨rfl, rfl⟩ | ⟨h3, h4⟩
    · rw [hR, hz]; exact hm.lt i R hi
    · exact m1.lt j S h4

/-- A row of ours dies. -/
theorem Models.kill {ρ : Rho} {h : IHeap} {w : World} {i : Nat} {o : IObj} (hm : Models ρ h w) (hg : h.get i = some o) (hro : o.isRo = false) (hd : o ≠ .dead) : Step ρ h w ρ (h.set i .dead) w ∧ Models ρ (h.set i .dead) w := by
  have hlt := IHeap.get_lt hg
  cases hi : ρ i with
  | some R =>
    obtain ⟨ob, hb, _⟩ := hm.obj i R o hg hi
    exact hm.write (o' := .dead) hg hro hd hi rfl rfl rfl rfl hb .dead (fun _ _ => rfl)
  | none =>
    refine ⟨⟨Grow.set hg hro hd, Nat.le_refl _, rfl, rfl, rfl, fun _ _ => rfl, fun j R a b => by simp only [IHeap.size_set] at b; omega, fun _ _ _ => rfl⟩, ⟨?_, ?_, hm.lt⟩⟩
    · intro j R o1 h1 h2
      rw [IHeap.get_set _ _ _ _ hlt] at h1
      by_cases e : i = j
      · subst e; rw [hi] at h2; cases h2
      · rw [if_neg e] at h1
        exact hm.obj j R o1 h1 h2
    · intro j k R1 R2 h1 h2 he hd1 hd2
      have nd : ∀ x, (h.set i .dead).get x ≠ some .dead → h.get x ≠ some .dead := by
        intro x hx
        rw [IHeap.get_set _ _ _ _ hlt] at hx
        by_cases e : i = x
        · subst e; rw [hg]; simpa using hd
        · rw [if_neg e] at hx; exact hx
      exact (hm.inj j k R1 R2 h1 h2 he (nd j hd1) (nd k hd2)).imp id (fun x => ⟨x.1.grow (Grow.set hg hro hd), x.2.grow (Grow.set hg hro hd)⟩)
/-- What is appended: a slice's elements, or so many zeros. -/
def asrcOf (P : Program) (h : IHeap) (t2 : TypeId) (z : Array Value) (bytes size : Nat) (x : Value) : Option (Nat × List Value) :=
  if notInt P t2 then srcOf h size x else
    match x, P.underlying t2 with
    | .int _ l, some (.int _) => if 0 ≤ l ∧ l * bytes ≤ 281474976710656 ∧ l < 9223372036854775808 then some (l.toNat, zeros z l.toNat) else none
    | _, _ => none
theorem asrc_run {P : Program} {ρ : Rho} {h : IHeap} {w : World} {t t2 ty e : TypeId} {size m : Nat} {x x' : Value} {news : List Value} {i0 : TypeInfo} {z0 : Value} (hs : asrcOf P h t2 z0.cells i0.bytes size x = some (m, news)) (hm : Models ρ h w) (hx : VRel ρ x x')
    (hu : P.underlying t = some (.slice e)) (hi0 : P.info? e = some i0) (hisz : i0.size = size) (hzs : z0.cells.size = size) (hsc : z0.cells.all scal = true) (hzr : ∀ w, (zeroValue e).run P w = .ok z0 w) :
    ∃ vs', LRel ρ news vs' ∧ news.length = m * size ∧
      (∀ {base : Option Addr} {n c : Nat} {w' : World}, n + m ≤ c → (∀ b, base = some b → (storeCells (b.add (n * i0.size)) vs').run P w = .ok () w') → (base = none → w' = w) → (Builtin.append_ #[t, t2] ty #[.slice base n c, x']).run P w = .ok (.slice base (n + m) c) w') ∧
      (∀ {base : Option Addr} {n c : Nat} {olds : Array Value}, (Builtin.firstCells i0.size n (.slice base n c)).run P w.drew = .ok olds w.drew → c < n + m → n + m ≤ 4611686018427387904 → (n + m) * i0.bytes ≤ 140737488355328 →
        (Builtin.append_ #[t, t2] ty #[.slice base n c, x']).run P w = .ok (.slice (some ⟨w.heap.size, 0, none⟩) (n + m) (grownCap w (n + m) c e)) (w.drew.alloc (.cells (olds ++ vs'.toArray ++ Builtin.zeroCells z0.cells (grownCap w (n + m) c e - (n + m))) e))) := by
  unfold asrcOf at hs
  split at hs
  · rename_i hni
    obtain ⟨d2, hu2, hd2⟩ := notInt_inv hni
    obtain ⟨vs', k1, k2, k3, k4⟩ := src_run (P := P) hs hm hx
    have k5 := k4 m (Nat.le_refl _)
    have hvl : vs'.length = m * size := by rw [← k2.1]; exact k3
    rw [List.take_of_length_le (by omega)] at k5
    refine ⟨vs', k2, k3, fun hle hst hb => ?_, fun ho hle h63 hfit => ?_⟩
    · exact app_room (P := P) hu hu2 hd2 hi0 (news := vs'.toArray) k1 (by rw [hisz]; exact k5 w rfl) hle hst hb
    · exact app_grow (P := P) hu hu2 hd2 hi0 hzr (news := vs'.toArray) k1 (by rw [hisz]; exact k5 w.drew rfl) ho hle h63 hfit
  · split at hs
    · rename_i k l kk hu2
      split at hs
      · rename_i hb
        cases hs
        have hzc : Builtin.zeroCells z0.cells l.toNat = (zeros z0.cells l.toNat).toArray := zeros_cells z0.cells l.toNat
        have hpl := ARel.plain (ρ := ρ) (zeros_plain hsc l.toNat)
        rw [hx.int_inv]
        refine ⟨zeros z0.cells l.toNat, ⟨rfl, fun i v hv => ?_⟩, ?_, fun hle hst hb' => ?_, fun ho hle h63 hfit => ?_⟩
        · obtain ⟨v', h1, h2⟩ := hpl.get (i := i) (v := v) (by simpa using hv)
          exact ⟨v', by simpa using h1, h2⟩
        · have := congrArg Array.size hzc
          rw [size_zeroCells, hzs] at this
          simpa using this.symm
        · exact app_roomZ (P := P) hu hu2 hi0 hzr (by rw [hzs, hisz]) hb.1 hb.2.2 hb.2.1 hle (by rw [hzc]; exact hst) hb'
        · rw [← hzc]
          exact app_growZ (P := P) hu hu2 hi0 hzr (by rw [hzs, hisz]) hb.1 hb.2.2 hb.2.1 ho hle h63 hfit
      · cases hs
    · cases hs
/-- An append. -/
def iappend (P : Program) (h : IHeap) (t t2 : TypeId) (s x : Value) : Option (Value × IHeap) :=
  match slcOf P t with
  | none => none
  | some (e, size) =>
  match zeroOf P e, (P.info? e).map (·.bytes) with
  | some z, some bytes =>
    match asrcOf P h t2 z bytes size x with
    | none => none
    | some (m, news) =>
    if z.size == size && size != 0 && news.all (·.oneCell') then
      match s with
      | .slice none 0 0 => if m = 0 then some (s, h) else if m * bytes ≤ 140737488355328 ∧ m ≤ 4611686018427387904 then some (.slice (some ⟨h.size, 0, none⟩) m m, h.push (.row false size news)) else none
      | .slice (some ⟨_, _, some _⟩) 0 0 => if m = 0 then some (s, h) else if m * bytes ≤ 140737488355328 ∧ m ≤ 4611686018427387904 then some (.slice (some ⟨h.size, 0, none⟩) m m, h.push (.row false size news)) else none
      | .slice (some ⟨i, q, none⟩) n c =>
        if n + m ≤ c then
          (if m = 0 then some (s, h) else match h.get i with
            | some (.row false esz cs) => if q + n * size + news.length ≤ cs.length then some (.slice (some ⟨i, q, none⟩) (n + m) c, h.set i (.row false esz (splice cs (q + n * size) news))) else none
            | _ => none)
        else if (n + m) * bytes ≤ 140737488355328 ∧ n + m ≤ 4611686018427387904 then
          (match h.get i with
            | some (.row false esz cs) => if esz = 0 ∨ esz = size then (slots cs q (n * size)).map fun olds => (.slice (some ⟨h.size, 0, none⟩) (n + m) (n + m), (h.set i .dead).push (.row false size (olds ++ news))) else none
            | _ => none)
        else none
      | _ => none
    else none
  | _, _ => none

theorem LRel.append {ρ : Rho} {a a' b b' : List Value} (h : LRel ρ a a') (k : LRel ρ b b') : LRel ρ (a ++ b) (a' ++ b') := by
  refine ⟨by simp [h.1, k.1], fun i v hv => ?_⟩
  by_cases hi : i < a.length
  · rw [List.getElem?_append_left hi] at hv
    rw [List.getElem?_append_left (by rw [← h.1]; exact hi)]
    exact h.2 i v hv
  · rw [List.getElem?_append_right (by omega)] at hv
    rw [List.getElem?_append_right (by rw [← h.1]; omega), ← h.1]
    exact k.2 _ v hv
theorem LRel.nil (ρ : Rho) : LRel ρ [] [] := ⟨rfl, fun i v hv => by simp at hv⟩

/-- The new row of an append that grows. -/
theorem grown_row {ρ : Rho} {id b size cap : Nat} {xs xs' : List Value} {zs : Array Value} {e : TypeId} {cells : Array Value} (hf : ρ id = none) (h : LRel ρ xs xs') (hc : cells = xs'.toArray ++ zs) :
    ORel (ρ.upd id ⟨b, 0, cells.size, size⟩) ⟨b, 0, cells.size, size⟩ (.row false size xs) (.cells cells e (0, 0)) := by
  subst hc
  refine .row (fun _ => ⟨fun _ => rfl, fun k _ => by simp⟩) rfl rfl (by simp [h.1]) (fun i v hv => ?_)
  obtain ⟨v', h1, h2⟩ := h.2 i v hv
  refine ⟨v', ?_, h2.mono (upd_le hf)⟩
  have hi : i < xs'.length := (List.getElem?_eq_some_iff.1 h1).1
  rw [Nat.zero_add, Array.getElem?_append_left (by simpa using hi)]
  simpa using h1
theorem size_grown {z : Array Value} {size need cap : Nat} {xs : List Value} (hz : z.size = size) (hl : xs.length = need * size) (hc : need ≤ cap) : (xs.toArray ++ Builtin.zeroCells z (cap - need)).size = cap * size := by
  rw [Array.size_append, size_zeroCells, hz]
  simp only [List.size_toArray, hl]
  rw [← Nat.add_mul]; congr 1; omega
theorem drew_heap (w : World) : w.drew.heap = w.heap := rfl
theorem mem_append {P : Program} {o : Oper} {a : Act} {h h' : IHeap} {c : Call} {t t2 : TypeId} {s x : Operand} {v : Value} (ho : o.op = .call c) (hc : c.callee = .builtin .append) (ha : c.args = #[s, x]) (hat : c.argTypes = #[t, t2])
    (hv : iappend P h t t2 (a.eval s) (a.eval x) = some (v, h')) : MOp P o a h v h' := by
  intro ρ ar w hm hfr hrel
  have gs := hrel s (by simp [ho, Op.operands, Call.operands, hc, ha])
  have gx := hrel x (by simp [ho, Op.operands, Call.operands, hc, ha])
  have hexec : ∀ (v' : Value) (w' : World), (Builtin.append_ #[t, t2] o.type #[ar.eval s, ar.eval x]).run P w = .ok v' w' → (execOp ar.eval o).run P w = .ok (.value v') w' := by
    intro v' w' hr
    simp only [execOp, ho, resolve, hc, ha, hat, Sem.run_bind, Sem.run_pure, Result.andThen_ok, invoke, builtin, List.map_toArray, List.map_cons, List.map_nil, hr]
  unfold iappend at hv
  split at hv
  · cases hv
  rename_i e size hslc
  obtain ⟨hu, hsz⟩ := slcOf_inv hslc
  split at hv
  case h_2 => cases hv
  rename_i z bytes hz hby
  split at hv
  case h_1 => cases hv
  rename_i m news hsrc
  split at hv
  case isFalse => cases hv
  rename_i hcond
  simp only [Bool.and_eq_true, bne_iff_ne, ne_eq, beq_iff_eq] at hcond
  obtain ⟨⟨hzs, hs0⟩, hone⟩ := hcond
  obtain ⟨i0, hi0, hbb⟩ := Option.map_eq_some_iff.mp hby
  have hisz : i0.size = size := by
    have : tsize P e = some i0.size := by simp [tsize, hi0]
    rw [hsz] at this
    exact (Option.some.inj this).symm
  obtain ⟨z0, rfl, hsc, hzr⟩ := zeroOf_inv hz
  rw [← hbb] at hsrc
  obtain ⟨vs', k2, k3, RM, GR⟩ := asrc_run (P := P) (t := t) (ty := o.type) hsrc hm gx hu hi0 hisz hzs hsc hzr
  have hvl : vs'.length = m * size := by rw [← k2.1]; exact k3
  have grow : ∀ (base : Option Addr) (n c' : Nat) (olds olds' : List Value), ar.eval s = .slice base n c' → (∀ w1, w1.heap = w.heap → (Builtin.firstCells size n (.slice base n c')).run P w1 = .ok olds'.toArray w1) → olds.length = n * size → LRel ρ olds olds' → c' < n + m → (n + m) * bytes ≤ 140737488355328 → n + m ≤ 4611686018427387904 →
      ρ h.size = none → ∀ (h1 : IHeap), h1.size = h.size → Step ρ h w ρ h1 w → Models ρ h1 w →
      ∃ nx w' ρ' v', (execOp ar.eval o).run P w = .ok nx w' ∧ (nx = .value v' ∨ (nx = .skip ∧ v' = undef)) ∧ Step ρ h w ρ' (h1.push (.row false size (olds ++ news))) w' ∧ Models ρ' (h1.push (.row false size (olds ++ news))) w' ∧ VRel ρ' (.slice (some ⟨h.size, 0, none⟩) (n + m) (n + m)) v' := by
    intro base n c' olds olds' es ho1 hol hro hlt hby2 h62 hf h1 hsz1 s1 m1
    have hrun := GR (base := base) (n := n) (c := c') (olds := olds'.toArray) (by rw [hisz]; exact ho1 w.drew rfl) hlt h62 (by rw [hbb]; exact hby2)
    rw [← es] at hrun
    have hcap := grownCap_ge w (n + m) c' e
    generalize grownCap w (n + m) c' e = cap at hrun hcap
    have hrel2 := hro.append k2
    have hsize := size_grown (z := z0.cells) (size := size) (need := n + m) (cap := cap) (xs := olds' ++ vs') hzs (by rw [List.length_append, ← hro.1, hol, hvl, Nat.add_mul]) hcap
    have hcells : olds'.toArray ++ vs'.toArray ++ Builtin.zeroCells z0.cells (cap - (n + m)) = (olds' ++ vs').toArray ++ Builtin.zeroCells z0.cells (cap - (n + m)) := Array.ext' (by simp)
    rw [hcells] at hrun
    generalize hC : (olds' ++ vs').toArray ++ Builtin.zeroCells z0.cells (cap - (n + m)) = C at hrun hsize
    have hor := grown_row (ρ := ρ) (id := h1.size) (b := w.heap.size) (size := size) (cap := cap) (e := e) (by rw [hsz1]; exact hf) hrel2 hC.symm
    obtain ⟨s2, m2⟩ := m1.push (w' := w.drew.alloc (.cells C e)) (by rw [hsz1]; exact hf) rfl rfl rfl rfl rfl hor
    refine ⟨_, _, _, _, hexec _ _ hrun, .inl rfl, s1.trans s2, m2, ?_⟩
    rw [← hsz1]
    have hu := upd_same ρ h1.size ⟨w.heap.size, 0, C.size, size⟩
    have := VRel.slc (o := 0) (n := n + m) (c := n + m) (c' := cap) hu (.inr ⟨hcap, by show 0 < size; omega, by show 0 + 0 + cap * size ≤ C.size; omega⟩)
    simpa using this
  have room : ∀ (i q n c c' esz : Nat) (R : Ren) (cs : List Value) (ob : Obj), ar.eval s = .slice (some ⟨R.block, R.off + q, none⟩) n c' → w.heap[R.block]? = some ob → ORel ρ R (.row false esz cs) ob → n + m ≤ c' → q + n * size + news.length ≤ cs.length →
      ∃ w' ob', (execOp ar.eval o).run P w = .ok (.value (.slice (some ⟨R.block, R.off + q, none⟩) (n + m) c')) w' ∧ w'.heap.size = w.heap.size ∧ w'.os = w.os ∧ w'.tape = w.tape ∧ w'.output = w.output ∧ w'.heap[R.block]? = some ob' ∧ ORel ρ R (.row false esz (splice cs (q + n * size) news)) ob' ∧ ∀ b, b ≠ R.block → w'.heap[b]? = w.heap[b]? := by
    intro i q n c c' esz R cs ob es hb hor hle hfit
    obtain ⟨w', ob', g1, g2, g3, g4, g5, g6, g7, g8⟩ := storeCells_run (P := P) (q := q + n * size) hb hor k2 hfit hone
    refine ⟨w', ob', hexec _ _ ?_, g2, g3, g4, g5, g6, g7, g8⟩
    rw [es]
    exact RM hle (fun b hb => by cases hb; rw [add_none, hisz, Nat.add_assoc]; exact g1) (fun hb => by cases hb)
  split at hv
  · -- nil
    rename_i hsv
    have es := scal_eq (by rw [hsv]; rfl) gs
    rw [hsv] at es
    split at hv
    · rename_i hm0
      cases hv
      subst hm0
      refine ⟨_, w, ρ, .slice none 0 0, hexec _ _ (by rw [es]; exact RM (Nat.le_refl _) (fun b hb => by cases hb) (fun _ => rfl)), .inl rfl, Step.refl _ _ _, hm, by rw [hsv]; exact .base rfl⟩
    · rename_i hm0
      split at hv
      · rename_i hbd
        cases hv
        have hf := hfr h.size (Nat.le_refl _) (by simp)
        have := grow none 0 0 [] [] es (fun w1 _ => by simp [Builtin.firstCells]) (by simp) (LRel.nil ρ) (by omega) (by simpa using hbd.1) (by simpa using hbd.2) hf h rfl (Step.refl _ _ _) hm
        simpa using this
      · cases hv
  · -- an empty one of which nothing is left
    rename_i i q u hsv
    have es : ∃ a', ar.eval s = .slice (some a') 0 0 := by
      rw [hsv] at gs
      generalize ar.eval s = y at gs
      cases gs with
      | base h => simp [scal] at h
      | slcE => exact ⟨_, rfl⟩
    obtain ⟨a', es⟩ := es
    split at hv
    · rename_i hm0
      cases hv
      subst hm0
      have hn0 : vs' = [] := List.eq_nil_of_length_eq_zero (by omega)
      refine ⟨_, w, ρ, .slice (some a') 0 0, hexec _ _ (by rw [es]; exact RM (Nat.le_refl _) (fun b hb => by rw [hn0]; rfl) (fun hb => by cases hb)), .inl rfl, Step.refl _ _ _, hm, by rw [hsv]; exact .slcE⟩
    · rename_i hm0
      split at hv
      · rename_i hbd
        cases hv
        have hf := hfr h.size (Nat.le_refl _) (by simp)
        have := grow (some a') 0 0 [] [] es (fun w1 _ => by simp [Builtin.firstCells, loadCells, loadCellsFrom]) (by simp) (LRel.nil ρ) (by omega) (by simpa using hbd.1) (by simpa using hbd.2) hf h rfl (Step.refl _ _ _) hm
        simpa using this
      · cases hv
  · rename_i i q n c hsv
    rw [hsv] at gs
    split at hv
    · rename_i hle
      split at hv
      · -- nothing is appended
        rename_i hm0
        cases hv
        subst hm0
        have hn0 : vs' = [] := List.eq_nil_of_length_eq_zero (by omega)
        obtain ⟨a', c', es⟩ := gs.someslc
        have hle' : n + 0 ≤ c' := by
          rcases gs.slc_inv with ⟨R, c2, _, hc2, e2⟩ | ⟨h0, _, a2, e2⟩
          · rw [es] at e2; cases e2; omega
          · rw [es] at e2; cases e2; omega
        refine ⟨_, w, ρ, .slice (some a') n c', hexec _ _ (by rw [es]; exact RM hle' (fun b hb => by rw [hn0]; rfl) (fun hb => by cases hb)), .inl rfl, Step.refl _ _ _, hm, by rw [hsv, ← es]; exact gs⟩
      · rename_i hm0
        split at hv
        · rename_i esz cs hg
          split at hv
          · rename_i hfit
            cases hv
            rcases gs.slc_inv with ⟨R, c', hR, hc, es⟩ | ⟨h0, hc0, _⟩
            · obtain ⟨ob, hb, hor⟩ := hm.obj i R _ hg hR
              obtain ⟨w', ob', g1, g2, g3, g4, g5, g6, g7, g8⟩ := room i q n c c' esz R cs ob es hb hor (by omega) hfit
              obtain ⟨s1, m1⟩ := hm.write hg rfl (by simp) hR g2 g3 g4 g5 g6 g7 g8
              exact ⟨_, w', ρ, _, g1, .inl rfl, s1, m1, .slc hR hc⟩
            · omega
          · cases hv
        · cases hv
    · rename_i hle
      split at hv
      · rename_i hbd
        split at hv
        · rename_i esz cs hg
          split at hv
          · rename_i hez
            obtain ⟨olds, hsl, he⟩ := Option.map_eq_some_iff.mp hv
            cases he
            have hf := hfr h.size (Nat.le_refl _) (by simp)
            rcases gs.slc_inv with ⟨R, c', hR, hc, es⟩ | ⟨h0, hc0, a', es⟩
            · obtain ⟨ob, hb, hor⟩ := hm.obj i R _ hg hR
              obtain ⟨olds', j1, j2, j3⟩ := slots_run (P := P) hb hor hsl
              by_cases hin : n + m ≤ c'
              · -- in place
                obtain ⟨c2, e2, fr, rfl, hfrz, hesz, hroom, hz, hcl⟩ := hor.cells
                rcases hc with rfl | ⟨hc1, hc2, hc3⟩
                · omega
                have hes : R.esz = size := by omega
                rw [hes] at hc3
                have hmul : (n + m) * size ≤ c' * size := Nat.mul_le_mul_right _ hin
                rw [Nat.add_mul] at hmul
                obtain ⟨cur', g1, g2, g3, g4, g5, g6, g7, g8⟩ := setCells_heap R.block e2 fr vs' (R.off + q + n * size) w c2 hb (by omega)
                have hst := run_storeCells_cells (P := P) R.block (R.off + q + n * size) vs' 0 w (fun j hj => by
                  rw [Nat.add_zero, cell_of hb]
                  have : R.off + q + n * size + j < c2.size := by omega
                  simp [this]) (fun j hj => by
                  rw [Nat.add_zero, frozen_of hb]
                  exact (hfrz rfl).2 _ (by omega)) (fun v hv => by
                  obtain ⟨j, hj⟩ := List.getElem?_of_mem hv
                  have hj' : j < news.length := by
                    have := (List.getElem?_eq_some_iff.1 hj).1
                    omega
                  obtain ⟨v2, a1, a2⟩ := k2.2 j news[j] (by simp [hj'])
                  rw [hj] at a1; cases a1
                  rw [a2.one]
                  exact List.all_eq_true.1 hone _ (List.getElem_mem hj'))
                rw [Nat.add_zero] at hst
                have holdg : ∀ (k : Nat) (v : Value), olds[k]? = some v → k < n * size ∧ ∃ v', c2[R.off + q + k]? = some v' ∧ VRel ρ v v' := by
                  intro k v hk
                  have hk' : k < n * size := by
                    have := (List.getElem?_eq_some_iff.1 hk).1
                    omega
                  refine ⟨hk', ?_⟩
                  unfold slots at hsl
                  split at hsl
                  · cases hsl
                    rw [List.getElem?_take, if_pos hk', List.getElem?_drop] at hk
                    rw [Nat.add_assoc]
                    exact hcl _ _ hk
                  · cases hsl
                have hor2 : ORel (ρ.upd h.size ⟨R.block, R.off + q, R.room, size⟩) ⟨R.block, R.off + q, R.room, size⟩ (.row false size (olds ++ news)) (.cells cur' e2 fr) := by
                  refine .row (fun _ => ⟨fun h0 => absurd h0 hs0, fun k hk => (hfrz rfl).2 k (by omega)⟩) rfl (by rw [g2]; exact hroom) (by rw [List.length_append, j3, k3, g2]; show R.off + q + _ ≤ _; omega) (fun k v hk => ?_)
                  show ∃ v', cur'[R.off + q + k]? = some v' ∧ _
                  rw [g3]
                  by_cases hkn : k < olds.length
                  · rw [List.getElem?_append_left hkn] at hk
                    obtain ⟨b1, v', b2, b3⟩ := holdg k v hk
                    exact ⟨v', by rw [if_neg (by omega)]; exact b2, b3.mono (upd_le hf)⟩
                  · rw [List.getElem?_append_right (by omega)] at hk
                    obtain ⟨v', b2, b3⟩ := k2.2 _ _ hk
                    have hlt : k - olds.length < vs'.length := (List.getElem?_eq_some_iff.1 b2).1
                    refine ⟨v', ?_, b3.mono (upd_le hf)⟩
                    rw [if_pos (by omega), show R.off + q + k - (R.off + q + n * size) = k - olds.length by omega]
                    exact b2
                obtain ⟨s2, m2⟩ := hm.regrow (R' := ⟨R.block, R.off + q, R.room, size⟩) (w' := w.setCells R.block (R.off + q + n * size) vs') hg rfl (by simp) hR hf g4 g6 g7 g8 g1 g5 rfl hor2
                have hrun := RM (base := some ⟨R.block, R.off + q, none⟩) (n := n) (c := c') hin (fun b hb => by cases hb; rw [add_none, hisz]; exact hst) (fun hb => by cases hb)
                rw [← es] at hrun
                refine ⟨_, _, _, _, hexec _ _ hrun, .inl rfl, s2, m2, ?_⟩
                have hup := upd_same ρ h.size ⟨R.block, R.off + q, R.room, size⟩
                have := VRel.slc (o := 0) (n := n + m) (c := n + m) (c' := c') hup (.inr ⟨hin, by show 0 < size; omega, by show R.off + q + 0 + c' * size ≤ R.room; omega⟩)
                simpa using this
              · obtain ⟨s1, m1⟩ := hm.write (o' := .dead) hg rfl (by simp) hR rfl rfl rfl rfl hb .dead (fun _ _ => rfl)
                have hold := src_run (P := P) (ρ := ρ) (h := h) (w := w) (size := size) (m := n) (x := .slice (some ⟨i, q, none⟩) n c) (x' := ar.eval s) (vs := olds) (by
                  unfold srcOf
                  by_cases hn0 : n = 0
                  · subst hn0
                    have : olds = [] := List.eq_nil_of_length_eq_zero (by omega)
                    simp [this]
                  · simp [hn0, hg, hsl]) hm gs
                obtain ⟨olds2, _, l2, l3, l4⟩ := hold
                have l5 : ∀ w1, w1.heap = w.heap → (Builtin.firstCells size n (ar.eval s)).run P w1 = .ok olds2.toArray w1 := fun w1 hw1 => by
                  have := l4 n (Nat.le_refl _) w1 hw1
                  rwa [List.take_of_length_le (by rw [← l2.1, l3]; exact Nat.le_refl _)] at this
                exact grow _ n c' olds olds2 es (by rw [← es]; exact l5) l3 l2 (by omega) hbd.1 hbd.2 hf _ rfl s1 m1
            · subst h0 hc0
              have holds : olds = [] := List.eq_nil_of_length_eq_zero (by
                unfold slots at hsl
                split at hsl
                · cases hsl; simp
                · cases hsl)
              subst holds
              obtain ⟨s1, m1⟩ := hm.kill hg rfl (by simp)
              exact grow (some a') 0 0 [] [] es (fun w1 _ => by simp [Builtin.firstCells, loadCells, loadCellsFrom]) (by simp) (LRel.nil ρ) (by omega) hbd.1 hbd.2 hf _ rfl s1 m1
          · cases hv
        · cases hv
      · cases hv
  · cases hv
end Go.Proofs.Ytmobpbhbllhdcaa.Ideal
end
noncomputable section
namespace Go.Proofs.Ytmobpbhbllhdcaa.Ideal
set_option linter.unusedVariables false
set_option linter.unusedSimpArgs false
set_option linter.unnecessarySimpa false

theorem LRel.take {ρ : Rho} {a a' : List Value} (h : LRel ρ a a') (n : Nat) : LRel ρ (a.take n) (a'.take n) := by
  refine ⟨by simp [h.1], fun i v hv => ?_⟩
  rw [List.getElem?_take] at hv ⊢
  split at hv
  · rename_i hi; rw [if_pos hi]; exact h.2 i v hv
  · cases hv
theorem all_take {l : List Value} {p : Value → Bool} (h : l.all p = true) (n : Nat) : (l.take n).all p = true := by
  rw [List.all_eq_true] at *
  exact fun x hx => h x (List.mem_of_mem_take hx)

/-- A copy. -/
def icopy (P : Program) (h : IHeap) (t : TypeId) (d x : Value) : Option (Value × IHeap) :=
  match slcOf P t with
  | none => none
  | some (_, size) =>
  match srcOf h size x with
  | none => none
  | some (m, vs) =>
  match d with
  | .slice none 0 0 => some (.int .i64 0, h)
  | .slice (some ⟨i, q, none⟩) n _ =>
    if min m n = 0 then some (.int .i64 0, h) else
    (match h.get i with
    | some (.row false esz cs) => if q + (vs.take (min m n * size)).length ≤ cs.length ∧ vs.all (·.oneCell') = true then some (.int .i64 (min m n : Nat), h.set i (.row false esz (splice cs q (vs.take (min m n * size))))) else none
    | _ => none)
  | .slice (some ⟨_, _, some _⟩) 0 0 => some (.int .i64 0, h)
  | _ => none
theorem mem_copy {P : Program} {o : Oper} {a : Act} {h h' : IHeap} {c : Call} {t t2 : TypeId} {d x : Operand} {v : Value} (ho : o.op = .call c) (hc : c.callee = .builtin .copy) (ha : c.args = #[d, x]) (hat : c.argTypes = #[t, t2])
    (hv : icopy P h t (a.eval d) (a.eval x) = some (v, h')) : MOp P o a h v h' := by
  intro ρ ar w hm hfr hrel
  have gd := hrel d (by simp [ho, Op.operands, Call.operands, hc, ha])
  have gx := hrel x (by simp [ho, Op.operands, Call.operands, hc, ha])
  have hexec : ∀ (v' : Value) (w' : World), (Builtin.copy_ #[t, t2] o.type #[ar.eval d, ar.eval x]).run P w = .ok v' w' → (execOp ar.eval o).run P w = .ok (.value v') w' := by
    intro v' w' hr
    simp only [execOp, ho, resolve, hc, ha, hat, Sem.run_bind, Sem.run_pure, Result.andThen_ok, invoke, builtin, List.map_toArray, List.map_cons, List.map_nil, hr]
  unfold icopy at hv
  split at hv
  · cases hv
  rename_i e size hslc
  obtain ⟨hu, hsz⟩ := slcOf_inv hslc
  split at hv
  · cases hv
  rename_i m vs hsrc
  obtain ⟨vs', k1, k2, k3, k4⟩ := src_run (P := P) hsrc hm gx
  have copy_run : ∀ (base : Option Addr) (n c : Nat) (w' : World), ar.eval d = .slice base n c → (∀ b, base = some b → (storeCells b (vs'.take (min m n * size))).run P w = .ok () w') → (base = none → w' = w) →
      (Builtin.copy_ #[t, t2] o.type #[ar.eval d, ar.eval x]).run P w = .ok (.int .i64 (min m n : Nat)) w' := by
    intro base n c w' ed hst hb
    have g0 : (#[t, t2] : Array TypeId)[0]? = some t := rfl
    rw [ed]
    have g2 : (#[.slice base n c, ar.eval x] : Array Value)[0]? = some (.slice base n c) := rfl
    have g3 : (#[.slice base n c, ar.eval x] : Array Value)[1]? = some (ar.eval x) := rfl
    have hmin : Nat.min m n = min m n := rfl
    have hf := k4 (min m n) (Nat.min_le_left _ _) w rfl
    simp only [Builtin.copy_, g0, g2, g3, Sem.run_bind, run_under hu, Result.andThen_ok, k1, run_size hsz, hmin, hf]
    cases base with
    | none => rw [hb rfl]; rfl
    | some b => simp only [hst b rfl, Sem.run_bind, Result.andThen_ok]; rfl
  split at hv
  · rename_i hd
    cases hv
    rw [hd] at gd
    have ed := gd.nilslice_inv
    refine ⟨_, w, ρ, _, hexec _ _ (copy_run none 0 0 w ed (fun b hb => by cases hb) (fun _ => rfl)), .inl rfl, Step.refl _ _ _, hm, ?_⟩
    rw [Nat.min_zero]; exact .base rfl
  · rename_i i q n c hd
    rw [hd] at gd
    split at hv
    · rename_i h0
      cases hv
      obtain ⟨a', c', ed⟩ := gd.someslc
      refine ⟨_, w, ρ, _, hexec _ _ (copy_run (some a') n c' w ed (fun b hb => by rw [h0]; simp [storeCells]) (fun hb => by cases hb)), .inl rfl, Step.refl _ _ _, hm, ?_⟩
      rw [h0]; exact .base rfl
    · rename_i h0
      split at hv
      · rename_i esz cs hg
        split at hv
        · rename_i hfit
          cases hv
          rcases gd.slc_inv with ⟨R, c', hR, _, ed⟩ | ⟨e0, _⟩
          · obtain ⟨ob, hb, hor⟩ := hm.obj i R _ hg hR
            obtain ⟨w', ob', g1, g2, g3, g4, g5, g6, g7, g8⟩ := storeCells_run (P := P) (q := q) hb hor (k2.take (min m n * size)) hfit.1 (all_take hfit.2 _)
            obtain ⟨s1, m1⟩ := hm.write hg rfl (by simp) hR g2 g3 g4 g5 g6 g7 g8
            exact ⟨_, w', ρ, _, hexec _ _ (copy_run _ n c' w' ed (fun b hb => by cases hb; exact g1) (fun hb => by cases hb)), .inl rfl, s1, m1, .base rfl⟩
          · exact absurd (by rw [e0, Nat.min_zero]) h0
        · cases hv
      · cases hv
  · rename_i i q u hd
    cases hv
    have ed : ∃ a', ar.eval d = .slice (some a') 0 0 := by
      rw [hd] at gd
      generalize ar.eval d = y at gd
      cases gd with
      | base h => simp [scal] at h
      | slcE => exact ⟨_, rfl⟩
    obtain ⟨a', ed⟩ := ed
    refine ⟨_, w, ρ, _, hexec _ _ (copy_run (some a') 0 0 w ed (fun b hb => by rw [Nat.min_zero, Nat.zero_mul]; simp [storeCells]) (fun hb => by cases hb)), .inl rfl, Step.refl _ _ _, hm, ?_⟩
    rw [Nat.min_zero]; exact .base rfl
  · cases hv

/-- A slice's array. -/
theorem pure_toArray {P : Program} {o : Oper} {a : Act} {t e : TypeId} {x : Operand} {i q n c N : Nat} (ho : o.op = .sliceToArrayPointer t x) (hx : a.eval x = .slice (some ⟨i, q, none⟩) n c) (hu : P.underlying t = some (.array N e)) (hn : N ≤ n) (hN : 0 < N) : PureOp P o a (.pointer (some ⟨i, q, none⟩)) := by
  intro ρ ar w hrel
  have g0 := hrel x (by simp [ho, Op.operands])
  rw [hx] at g0
  rcases g0.slc_inv with ⟨R, c', hR, _, e0⟩ | ⟨e0, _⟩
  · refine ⟨.pointer (some ⟨R.block, R.off + q, none⟩), ?_, .ptr hR⟩
    have : ¬ (n < N) := by omega
    simp [execOp, ho, e0, Sem.run_bind, Instr.arrayAt, run_under hu, this]
  · omega

/-! ### Maps -/
/-- An entry without its value. -/
def bareE (e : MapEntry) : MapEntry := { key := e.key, val := undef, born := 0 }
theorem find_bare_now (d : TypeDesc) (k : Value) : ∀ (es es' : List MapEntry) (n : Nat), es.map bareE = es'.map bareE → ∀ (r : Option (Option (Nat × Value))), Instr.findNow d k (es.map bareE) n = r → match r with
    | none => Instr.findNow d k es' n = none
    | some none => Instr.findNow d k es' n = some none
    | some (some (i, _)) => ∃ e, es'[i - n]? = some e ∧ n ≤ i ∧ Instr.findNow d k es' n = some (some (i, e.val))
  | [], es', n, he, r, hr => by
    cases es' with
    | nil => simp only [List.map_nil, Instr.findNow] at hr; subst hr; rfl
    | cons e es' => simp at he
  | e :: es, [], n, he, r, hr => by simp at he
  | e :: es, e' :: es', n, he, r, hr => by
    simp only [List.map_cons, List.cons.injEq] at he
    obtain ⟨h1, h2⟩ := he
    have hk : e.key = e'.key := by have := congrArg MapEntry.key h1; exact this
    simp only [List.map_cons, Instr.findNow] at hr ⊢
    have hk2 : (bareE e).key = e'.key := hk
    rw [hk2] at hr
    cases hs : Instr.sameNow d k e'.key with
    | none => rw [hs] at hr; subst hr; rfl
    | some b =>
      rw [hs] at hr
      cases b with
      | true =>
        simp only at hr
        subst hr
        exact ⟨e', by simp, Nat.le_refl _, rfl⟩
      | false =>
        simp only at hr
        have ih := find_bare_now d k es es' (n + 1) h2 r hr
        cases r with
        | none => exact ih
        | some r =>
          cases r with
          | none => exact ih
          | some p =>
            obtain ⟨i, u⟩ := p
            obtain ⟨e2, g1, g2, g3⟩ := ih
            refine ⟨e2, ?_, by omega, g3⟩
            rw [show i - n = (i - (n + 1)) + 1 by omega]
            simpa using g1
theorem pureVal_bind {α β : Type} {P : Program} (s : Sem α) (f : α → Sem β) : pureVal P (s >>= f) = (pureVal P s).bind fun a => pureVal P (f a) := by
  show pureVal P (Sem.bind s f) = _
  induction s with
  | pure a => rfl
  | program k ih => simp only [Sem.bind, pureVal]; exact ih P
  | mark m k ih => simp only [Sem.bind, pureVal]; exact ih
  | _ => rfl
theorem find_bare_ask {P : Program} (kt : TypeId) (k : Value) : ∀ (es es' : List MapEntry) (n : Nat), es.map bareE = es'.map bareE → ∀ (r : Option (Nat × Value)), pureVal P (Instr.findAsking kt k (es.map bareE) n) = some r → match r with
    | none => ∀ w, (Instr.findAsking kt k es' n).run P w = .ok none w
    | some (i, _) => ∃ e, es'[i - n]? = some e ∧ n ≤ i ∧ ∀ w, (Instr.findAsking kt k es' n).run P w = .ok (some (i, e.val)) w
  | [], es', n, he, r, hr => by
    cases es' with
    | nil => simp only [List.map_nil, Instr.findAsking] at hr; cases hr; exact fun w => rfl
    | cons e es' => simp at he
  | e :: es, [], n, he, r, hr => by simp at he
  | e :: es, e' :: es', n, he, r, hr => by
    simp only [List.map_cons, List.cons.injEq] at he
    obtain ⟨h1, h2⟩ := he
    have hk : e.key = e'.key := by have := congrArg MapEntry.key h1; exact this
    have hk2 : (bareE e).key = e'.key := hk
    simp only [List.map_cons, Instr.findAsking] at hr ⊢
    rw [pureVal_bind, hk2] at hr
    obtain ⟨b, hb, hr2⟩ := Option.bind_eq_some_iff.mp hr
    have hrun := fun w => run_pureVal hb w
    cases b with
    | true =>
      simp only [if_true] at hr2
      cases hr2
      exact ⟨e', by simp, Nat.le_refl _, fun w => by simp only [Sem.run_bind, hrun, Result.andThen_ok, if_true]; rfl⟩
    | false =>
      simp only [Bool.false_eq_true, if_false] at hr2
      have ih := find_bare_ask kt k es es' (n + 1) h2 r hr2
      cases r with
      | none => exact fun w => by simp only [Sem.run_bind, hrun, Result.andThen_ok, Bool.false_eq_true, if_false, ih w]
      | some p =>
        obtain ⟨i, u⟩ := p
        obtain ⟨e2, g1, g2, g3⟩ := ih
        refine ⟨e2, ?_, by omega, fun w => by simp only [Sem.run_bind, hrun, Result.andThen_ok, Bool.false_eq_true, if_false, g3 w]⟩
        rw [show i - n = (i - (n + 1)) + 1 by omega]
        simpa using g1
/-- Where a key is: none: it cannot be told; some none: nowhere. -/
def ifind (P : Program) (kt : TypeId) (k : Value) (es : List MapEntry) : Option (Option Nat) :=
  (pureVal P (Instr.findKey kt k (es.map bareE))).map fun r => r.map (·.1)
theorem ifind_run {P : Program} {kt : TypeId} {k : Value} {es es' : List MapEntry} {r : Option Nat} (he : es.map bareE = es'.map bareE) (hf : ifind P kt k es = some r) : match r with
    | none => ∀ w, (Instr.findKey kt k es').run P w = .ok none w
    | some i => ∃ e, es'[i]? = some e ∧ ∀ w, (Instr.findKey kt k es').run P w = .ok (some (i, e.val)) w := by
  unfold ifind at hf
  obtain ⟨r0, h0, rfl⟩ := Option.map_eq_some_iff.mp hf
  unfold Instr.findKey at h0
  rw [pureVal_bind] at h0
  obtain ⟨d, hd, h1⟩ := Option.bind_eq_some_iff.mp h0
  have hdr := fun w => run_pureVal hd w
  cases hn : Instr.findNow d k (es.map bareE) 0 with
  | some r1 =>
    rw [hn] at h1
    cases h1
    have := find_bare_now d k es es' 0 he _ hn
    cases r0 with
    | none =>
      simp only [Option.map_none]
      intro w
      unfold Instr.findKey
      simp only at this
      simp only [Sem.run_bind, hdr, Result.andThen_ok, this]
      rfl
    | some p =>
      obtain ⟨i, u⟩ := p
      obtain ⟨e, g1, g2, g3⟩ := this
      simp only [Option.map_some]
      refine ⟨e, by simpa using g1, fun w => ?_⟩
      unfold Instr.findKey
      simp only [Sem.run_bind, hdr, Result.andThen_ok, g3]
      rfl
  | none =>
    rw [hn] at h1
    simp only at h1
    have hnow := find_bare_now d k es es' 0 he _ hn
    simp only at hnow
    have := find_bare_ask (P := P) kt k es es' 0 he _ h1
    cases r0 with
    | none =>
      simp only [Option.map_none]
      intro w
      unfold Instr.findKey
      simp only [Sem.run_bind, hdr, Result.andThen_ok, hnow]
      exact this w
    | some p =>
      obtain ⟨i, u⟩ := p
      obtain ⟨e, g1, g2, g3⟩ := this
      simp only [Option.map_some]
      refine ⟨e, by simpa using g1, fun w => ?_⟩
      unfold Instr.findKey
      simp only [Sem.run_bind, hdr, Result.andThen_ok, hnow]
      exact g3 w

/-- All keys are plain. -/
def keysPlain (es : List MapEntry) : Bool := es.all fun e => plainV e.key
theorem map_real {ρ : Rho} {h : IHeap} {w : World} {i : Nat} {R : Ren} {es : List MapEntry} {ck : Nat} (hm : ∃ ob, w.heap[R.block]? = some ob ∧ ORel ρ R (.map es ck) ob) (hp : keysPlain es = true) :
    ∃ es' : Array MapEntry, w.heap[R.block]? = some (.map es' ck) ∧ es.length = es'.size ∧ (∀ (i : Nat) (e : MapEntry), es[i]? = some e → ∃ e', es'[i]? = some e' ∧ ERel ρ e e') ∧ es.map bareE = es'.toList.map bareE := by
  obtain ⟨ob, hb, hor⟩ := hm
  cases hor with
  | @map _ es' _ hs hh =>
    refine ⟨es', hb, hs, hh, ?_⟩
    apply List.ext_getElem?
    intro k
    rw [List.getElem?_map, List.getElem?_map, show es'.toList[k]? = es'[k]? from Array.getElem?_toList]
    cases hk : es[k]? with
    | none =>
      have h1 : es.length ≤ k := List.getElem?_eq_none_iff.1 hk
      have : es'[k]? = none := Array.getElem?_eq_none (by omega)
      rw [this]
    | some e =>
      obtain ⟨e', g1, g2⟩ := hh k e hk
      rw [g1]
      unfold keysPlain at hp
      rw [List.all_eq_true] at hp
      have := plain_eq (hp e (List.mem_of_getElem? hk)) g2.key
      simp only [Option.map_some, bareE, this]
theorem run_getMap {P : Program} {w : World} {b : Nat} {es : Array MapEntry} {ck : Nat} (hb : w.heap[b]? = some (.map es ck)) : (getObj b).run P w = .ok (.map es ck) w := by
  simp [getObj, Sem.run, hb]

/-- The zero value of a type, if it is plain. -/
def zeroV (P : Program) (t : TypeId) : Option Value := match (P.info? t).bind (·.zero) with
  | some z => if plainV z then some z else none
  | none => none
theorem zeroV_inv {P : Program} {t : TypeId} {z : Value} (h : zeroV P t = some z) : plainV z = true ∧ ∀ w, (zeroValue t).run P w = .ok z w := by
  unfold zeroV at h
  split at h
  · rename_i z0 hz
    split at h
    · rename_i hp
      cases h
      refine ⟨hp, fun w => ?_⟩
      obtain ⟨i, h1, h2⟩ := Option.bind_eq_some_iff.mp hz
      simp [zeroValue, typeInfo, program, Sem.run_bind, Sem.run, h1, h2]
    · cases h
  · cases h
def mapOf (P : Program) (t : TypeId) : Option (TypeId × TypeId) := match P.underlying t with | some (.map k e) => some (k, e) | _ => none
theorem mapOf_inv {P : Program} {t k e : TypeId} (h : mapOf P t = some (k, e)) : P.underlying t = some (.map k e) := by
  unfold mapOf at h
  split at h
  · rename_i k' e' hu; cases h; exact hu
  · cases h
def keyChecked (P : Program) (b : Bool) (kt : TypeId) (k : Value) : Bool := (pureVal P (Instr.checkKey b 10000 kt k)).isSome
theorem keyChecked_run {P : Program} {b : Bool} {kt : TypeId} {k : Value} (h : keyChecked P b kt k = true) (w : World) : (Instr.checkKey b 10000 kt k).run P w = .ok () w := by
  unfold keyChecked at h
  obtain ⟨u, hu⟩ := Option.isSome_iff_exists.1 h
  exact run_pureVal hu w

/-- A look-up. -/
def ilookup (P : Program) (h : IHeap) (t : TypeId) (x k : Value) (ok : Bool) : Option (Value × Option Nat) :=
  match mapOf P t with
  | none => none
  | some (kt, et) =>
  match x with
  | .map none => if plainV k && keyChecked P true kt k then (zeroV P et).map fun z => (if ok then .tuple #[z, .bool false] else z, none) else none
  | .map (some i) => (match h.get i with
    | some (.map es _) => if plainV k && keysPlain es && keyChecked P es.isEmpty kt k then
        (match ifind P kt k es with
        | some (some j) => (match es[j]? with | some e => some (if ok then .tuple #[e.val, .bool true] else e.val, some i) | none => none)
        | some none => (zeroV P et).map fun z => (if ok then .tuple #[z, .bool false] else z, some i)
        | none => none) else none
    | _ => none)
  | _ => none
theorem tup2 {ρ : Rho} {v v' : Value} (b : Bool) (h : VRel ρ v v') : VRel ρ (.tuple #[v, .bool b]) (.tuple #[v', .bool b]) := by
  refine .tup rfl (fun i hi => ?_)
  match i, hi with
  | 0, _ => exact h
  | 1, _ => exact .base rfl
theorem read_lookup {P : Program} {o : Oper} {a : Act} {h : IHeap} {t : TypeId} {x k : Operand} {ok : Bool} {v : Value} {r : Option Nat} (ho : o.op = .lookup t x k ok) (hv : ilookup P h t (a.eval x) (a.eval k) ok = some (v, r)) : ROp P o a h v r.toList := by
  intro ρ ar w hm hrel
  have gx := hrel x (by simp [ho, Op.operands])
  have gk := hrel k (by simp [ho, Op.operands])
  unfold ilookup at hv
  split at hv
  · cases hv
  rename_i kt et hmo
  have hu := mapOf_inv hmo
  split at hv
  · rename_i hx
    split at hv
    · rename_i hc
      simp only [Bool.and_eq_true] at hc
      obtain ⟨z, hz, e⟩ := Option.map_eq_some_iff.mp hv
      cases e
      obtain ⟨hp, hzr⟩ := zeroV_inv hz
      rw [hx] at gx
      have ex := scal_eq rfl gx
      have ek := plain_eq hc.1 gk
      refine ⟨if ok then .tuple #[z, .bool false] else z, ?_, ?_⟩
      · simp only [execOp, ho, ex, ek, Sem.run_bind, Instr.lookup, run_under hu, Sem.run_pure, Result.andThen_ok]
        have hck := keyChecked_run (w := w) hc.2
        have hfk : (Instr.findKey kt (a.eval k) []).run P w = .ok none w := by
          unfold Instr.findKey
          have hku : ∃ d, P.underlying kt = some d := by
            have := hc.2
            unfold keyChecked at this
            obtain ⟨u, hu⟩ := Option.isSome_iff_exists.1 this
            unfold Instr.checkKey at hu
            rw [pureVal_bind] at hu
            obtain ⟨d, hd, _⟩ := Option.bind_eq_some_iff.mp hu
            have h1 := run_pureVal hd w
            unfold underlying at h1
            cases hdd : P.underlying kt with
            | some d => exact ⟨d, rfl⟩
            | none => simp [program, Sem.run_bind, Sem.run, hdd, stuck] at h1
          obtain ⟨d, hd⟩ := hku
          simp only [Sem.run_bind, run_under hd, Result.andThen_ok, Instr.findNow]
          rfl
        simp only [show (#[] : Array MapEntry).isEmpty = true from rfl, hck, Result.andThen_ok, hfk, hzr, Sem.run_pure]
        simp only [Sem.run_bind, hzr, Result.andThen_ok, Sem.run_pure]
      · cases ok with
        | true => exact tup2 false (plain_rel hp)
        | false => exact plain_rel hp
    · cases hv
  · rename_i i hx
    rw [hx] at gx
    obtain ⟨R, hR, ex⟩ := gx.map_inv
    split at hv
    · rename_i es ck hg
      split at hv
      · rename_i hc
        simp only [Bool.and_eq_true] at hc
        obtain ⟨⟨hpk, hpl⟩, hck0⟩ := hc
        have ek := plain_eq hpk gk
        have fin : ∀ (v0 : Value), v0 = v → r = some i → ∃ v', (execOp ar.eval o).run P w = .ok (.value v') w ∧ VRel ρ v v' := by
          intro v0 e0 er
          obtain ⟨es', hb, hs, hh, hbare⟩ := map_real (h := h) (i := i) (hm i (by rw [er]; simp) R _ hg hR) hpl
          have hemp : es'.isEmpty = es.isEmpty := by
            show decide (es'.size = 0) = _
            rw [← hs]
            cases es <;> rfl
          have hck := keyChecked_run (w := w) hck0
          rw [← hemp] at hck
          split at hv
          · rename_i j hf
            have := ifind_run hbare hf
            obtain ⟨e', g1, g2⟩ := this
            split at hv
            · rename_i e he
              cases hv
              obtain ⟨e2, k1, k2⟩ := hh j e he
              rw [Array.getElem?_toList] at g1
              rw [k1] at g1
              cases g1
              refine ⟨if ok then .tuple #[e'.val, .bool true] else e'.val, ?_, ?_⟩
              · simp only [execOp, ho, ex, ek, Sem.run_bind, Instr.lookup, run_under hu, Sem.run_pure, Result.andThen_ok, run_getMap hb, hck, g2]
              · cases ok with
                | true => exact tup2 true k2.val
                | false => exact k2.val
            · cases hv
          · rename_i hf
            have := ifind_run hbare hf
            simp only at this
            obtain ⟨z, hz, e⟩ := Option.map_eq_some_iff.mp hv
            cases e
            obtain ⟨hp, hzr⟩ := zeroV_inv hz
            refine ⟨if ok then .tuple #[z, .bool false] else z, ?_, ?_⟩
            · simp only [execOp, ho, ex, ek, Sem.run_bind, Instr.lookup, run_under hu, Sem.run_pure, Result.andThen_ok, run_getMap hb, hck, this, hzr]
            · cases ok with
              | true => exact tup2 false (plain_rel hp)
              | false => exact plain_rel hp
          · cases hv
        refine fin v rfl ?_
        split at hv
        · split at hv
          · cases hv; rfl
          · cases hv
        · obtain ⟨z, hz, e⟩ := Option.map_eq_some_iff.mp hv
          cases e; rfl
        · cases hv
      · cases hv
    · cases hv
  · cases hv

/-- A store into a map. -/
def iupdate (P : Program) (h : IHeap) (t : TypeId) (x k u : Value) : Option IHeap :=
  match mapOf P t, x with
  | some (kt, _), .map (some i) => (match h.get i with
    | some (.map es ck) => if plainV k && keysPlain es && keyChecked P false kt k then
        (match ifind P kt k es with
        | some (some j) => (match es[j]? with
          | some e => if Instr.sameBits 10000 e.key k then some (h.set i (.map (es.set j { e with key := k, val := u }) ck)) else none
          | none => none)
        | some none => some (h.set i (.map (es ++ [{ key := k, val := u, born := ck }]) (ck + 1)))
        | none => none) else none
    | _ => none)
  | _, _ => none
theorem map_write {ρ : Rho} {h : IHeap} {w : World} {i : Nat} {R : Ren} {es fs : List MapEntry} {ck ck' : Nat} {es' fs' : Array MapEntry} (hm : Models ρ h w) (hg : h.get i = some (.map es ck)) (hR : ρ i = some R) (hb : w.heap[R.block]? = some (.map es' ck))
    (hs : fs.length = fs'.size) (hh : ∀ (j : Nat) (e : MapEntry), fs[j]? = some e → ∃ e', fs'[j]? = some e' ∧ ERel ρ e e') : Step ρ h w ρ (h.set i (.map fs ck')) { w with heap := w.heap.setIfInBounds R.block (.map fs' ck') } ∧ Models ρ (h.set i (.map fs ck')) { w with heap := w.heap.setIfInBounds R.block (.map fs' ck') } := by
  have hlt := hm.lt i R hR
  refine hm.write (w' := { w with heap := w.heap.setIfInBounds R.block (.map fs' ck') }) hg rfl (by simp) hR (by simp) rfl rfl rfl (ob := .map fs' ck') (by simp [Array.getElem?_setIfInBounds, hlt]) (.map hs hh) (fun b' hb' => ?_)
  show (w.heap.setIfInBounds R.block (.map fs' ck'))[b']? = _
  rw [Array.getElem?_setIfInBounds, if_neg (fun e => hb' e.symm)]
theorem run_setMap {P : Program} {w : World} {b : Nat} {es fs : Array MapEntry} {ck ck' : Nat} (hb : w.heap[b]? = some (.map es ck)) : (setObj b (.map fs ck')).run P w = .ok () { w with heap := w.heap.setIfInBounds b (.map fs ck') } := by
  simp [setObj, Sem.run, hb]
theorem mem_update {P : Program} {o : Oper} {a : Act} {h h' : IHeap} {t : TypeId} {x k u : Operand} (ho : o.op = .mapUpdate t x k u ∨ o.op = .insert t x k u) (hv : iupdate P h t (a.eval x) (a.eval k) (a.eval u) = some h') : MOp P o a h undef h' := by
  intro ρ ar w hm _ hrel
  have gx := hrel x (by rcases ho with h | h <;> simp [h, Op.operands])
  have gk := hrel k (by rcases ho with h | h <;> simp [h, Op.operands])
  have gu := hrel u (by rcases ho with h | h <;> simp [h, Op.operands])
  have hexec : ∀ w', (Instr.mapUpdate t (ar.eval x) (ar.eval k) (ar.eval u)).run P w = .ok () w' → (execOp ar.eval o).run P w = .ok .skip w' := by
    intro w' hr
    rcases ho with h | h <;> simp only [execOp, h, Sem.run_bind, hr, Result.andThen_ok] <;> rfl
  unfold iupdate at hv
  split at hv
  · rename_i kt et i hmo hx
    have hu := mapOf_inv hmo
    rw [hx] at gx
    obtain ⟨R, hR, ex⟩ := gx.map_inv
    split at hv
    · rename_i es ck hg
      split at hv
      · rename_i hc
        simp only [Bool.and_eq_true] at hc
        obtain ⟨⟨hpk, hpl⟩, hck0⟩ := hc
        have ek := plain_eq hpk gk
        obtain ⟨es', hb, hs, hh, hbare⟩ := map_real (h := h) (i := i) (hm.obj i R _ hg hR) hpl
        have hck := keyChecked_run (w := w) hck0
        split at hv
        · rename_i j hf
          obtain ⟨e', g1, g2⟩ := ifind_run hbare hf
          rw [show es'.toList[j]? = es'[j]? from Array.getElem?_toList] at g1
          split at hv
          · rename_i e he
            split at hv
            · rename_i hsb
              cases hv
              obtain ⟨e2, k1, k2⟩ := hh j e he
              rw [k1] at g1
              cases g1
              have hkey : e'.key = e.key := by
                unfold keysPlain at hpl
                rw [List.all_eq_true] at hpl
                exact plain_eq (hpl e (List.mem_of_getElem? he)) k2.key
              have hj : j < es'.size := (Array.getElem?_eq_some_iff.1 k1).1
              have hfs : ∀ (n : Nat) (e0 : MapEntry), (es.set j { e with key := a.eval k, val := a.eval u })[n]? = some e0 → ∃ e1, (es'.modify j fun e => { e with key := a.eval k, val := ar.eval u })[n]? = some e1 ∧ ERel ρ e0 e1 := by
                intro n e0 hn
                rw [List.getElem?_set] at hn
                rw [Array.getElem?_modify]
                by_cases hjn : j = n
                · subst hjn
                  rw [if_pos rfl] at hn ⊢
                  rw [k1]
                  split at hn
                  · cases hn
                    exact ⟨_, rfl, ⟨plain_rel hpk, gu, k2.born⟩⟩
                  · cases hn
                · rw [if_neg hjn] at hn ⊢
                  exact hh n e0 hn
              obtain ⟨s, m⟩ := map_write (ck' := ck) hm hg hR hb (fs' := es'.modify j fun e => { e with key := a.eval k, val := ar.eval u }) (by simpa using hs) hfs
              refine ⟨.skip, _, ρ, undef, hexec _ ?_, .inr ⟨rfl, rfl⟩, s, m, VRel.undef_rel⟩
              have hst : (Instr.keyThatStays (((es'[j]?).map (·.key)).getD (a.eval k)) (a.eval k)).run P w = .ok (a.eval k) w := by
                rw [k1]
                simp only [Option.map_some, Option.getD_some, hkey, Instr.keyThatStays, hsb, if_true]
                rfl
              simp only [ex, ek, Instr.mapUpdate, Sem.run_bind, run_under hu, Result.andThen_ok, run_getMap hb, hck, g2, hst, run_setMap hb]
            · cases hv
          · cases hv
        · rename_i hf
          cases hv
          have hnone := ifind_run hbare hf
          simp only at hnone
          have hfs : ∀ (n : Nat) (e0 : MapEntry), (es ++ [{ key := a.eval k, val := a.eval u, born := ck }])[n]? = some e0 → ∃ e1, (es'.push { key := a.eval k, val := ar.eval u, born := ck })[n]? = some e1 ∧ ERel ρ e0 e1 := by
            intro n e0 hn
            rw [Array.getElem?_push]
            by_cases hlt : n < es.length
            · rw [List.getElem?_append_left hlt] at hn
              rw [if_neg (by omega)]
              exact hh n e0 hn
            · rw [List.getElem?_append_right (by omega)] at hn
              have hn0 : n = es'.size := by
                have := (List.getElem?_eq_some_iff.1 hn).1
                simp at this; omega
              rw [if_pos hn0]
              have : n - es.length = 0 := by omega
              rw [this] at hn
              simp at hn
              subst hn
              exact ⟨_, rfl, ⟨plain_rel hpk, gu, rfl⟩⟩
          obtain ⟨s, m⟩ := map_write (ck' := ck + 1) hm hg hR hb (fs' := es'.push { key := a.eval k, val := ar.eval u, born := ck }) (by simp [hs]) hfs
          refine ⟨.skip, _, ρ, undef, hexec _ ?_, .inr ⟨rfl, rfl⟩, s, m, VRel.undef_rel⟩
          simp only [ex, ek, Instr.mapUpdate, Sem.run_bind, run_under hu, Result.andThen_ok, run_getMap hb, hck, hnone, run_setMap hb]
        · cases hv
      · cases hv
    · cases hv
  · cases hv

/-- 'delete'. -/
def idelete (P : Program) (h : IHeap) (t : TypeId) (x k : Value) : Option IHeap :=
  match mapOf P t, x with
  | some (kt, _), .map (some i) => (match h.get i with
    | some (.map es ck) => if plainV k && keysPlain es && keyChecked P es.isEmpty kt k then
        (match ifind P kt k es with
        | some (some j) => some (h.set i (.map (es.eraseIdx j) ck))
        | some none => some (h.set i (.map es ck))
        | none => none) else none
    | _ => none)
  | _, _ => none
theorem mem_delete {P : Program} {o : Oper} {a : Act} {h h' : IHeap} {c : Call} {t t2 : TypeId} {x k : Operand} (ho : o.op = .call c) (hc : c.callee = .builtin .delete) (ha : c.args = #[x, k]) (hat : c.argTypes = #[t, t2])
    (hv : idelete P h t (a.eval x) (a.eval k) = some h') : MOp P o a h undef h' := by
  intro ρ ar w hm hfr hrel
  have gx := hrel x (by simp [ho, Op.operands, Call.operands, hc, ha])
  have gk := hrel k (by simp [ho, Op.operands, Call.operands, hc, ha])
  have hexec : ∀ (v' : Value) (w' : World), (Builtin.delete_ #[t, t2] o.type #[ar.eval x, ar.eval k]).run P w = .ok v' w' → (execOp ar.eval o).run P w = .ok (.value v') w' := by
    intro v' w' hr
    simp only [execOp, ho, resolve, hc, ha, hat, Sem.run_bind, Sem.run_pure, Result.andThen_ok, invoke, builtin, List.map_toArray, List.map_cons, List.map_nil, hr]
  unfold idelete at hv
  split at hv
  · rename_i kt et i hmo hx
    have hu := mapOf_inv hmo
    rw [hx] at gx
    obtain ⟨R, hR, ex⟩ := gx.map_inv
    split at hv
    · rename_i es ck hg
      split at hv
      · rename_i hcc
        simp only [Bool.and_eq_true] at hcc
        obtain ⟨⟨hpk, hpl⟩, hck0⟩ := hcc
        have ek := plain_eq hpk gk
        obtain ⟨es', hb, hs, hh, hbare⟩ := map_real (h := h) (i := i) (hm.obj i R _ hg hR) hpl
        have hemp : es'.isEmpty = es.isEmpty := by
          show decide (es'.size = 0) = _
          rw [← hs]
          cases es <;> rfl
        have hck := keyChecked_run (w := w) hck0
        rw [← hemp] at hck
        have g0 : (#[t, t2] : Array TypeId)[0]? = some t := rfl
        have g2 : (#[.map (some R.block), a.eval k] : Array Value)[0]? = some (.map (some R.block)) := rfl
        have g3 : (#[.map (some R.block), a.eval k] : Array Value)[1]? = some (a.eval k) := rfl
        split at hv
        · rename_i j hf
          cases hv
          obtain ⟨e', g1, g4⟩ := ifind_run hbare hf
          have hfs : ∀ (n : Nat) (e0 : MapEntry), (es.eraseIdx j)[n]? = some e0 → ∃ e1, (es'.eraseIdxIfInBounds j)[n]? = some e1 ∧ ERel ρ e0 e1 := by
            intro n e0 hn
            rw [List.getElem?_eraseIdx] at hn
            rw [← Array.getElem?_toList, Array.toList_eraseIdxIfInBounds, List.getElem?_eraseIdx]
            split at hn
            · rename_i hlt; rw [if_pos hlt, Array.getElem?_toList]; exact hh _ _ hn
            · rename_i hlt; rw [if_neg hlt, Array.getElem?_toList]; exact hh _ _ hn
          have hsz : (es.eraseIdx j).length = (es'.eraseIdxIfInBounds j).size := by
            have h1 : (es'.eraseIdxIfInBounds j).size = (es'.toList.eraseIdx j).length := by rw [← Array.toList_eraseIdxIfInBounds, Array.length_toList]
            have hl : es.length = es'.toList.length := hs.trans Array.length_toList.symm
            rw [h1, List.length_eraseIdx, List.length_eraseIdx, hl]
          obtain ⟨s, m⟩ := map_write (ck' := ck) hm hg hR hb (fs' := es'.eraseIdxIfInBounds j) hsz hfs
          refine ⟨_, _, ρ, _, hexec (.tuple #[]) _ ?_, .inl rfl, s, m, VRel.undef_rel⟩
          rw [ex, ek]
          simp only [Builtin.delete_, g0, g2, g3, Sem.run_bind, run_under hu, Result.andThen_ok, run_getMap hb, hck, g4, run_setMap hb]
          rfl
        · rename_i hf
          cases hv
          have hnone := ifind_run hbare hf
          simp only at hnone
          obtain ⟨s, m⟩ := map_write (ck' := ck) hm hg hR hb (fs' := es') hs hh
          refine ⟨_, _, ρ, _, hexec (.tuple #[]) _ ?_, .inl rfl, s, m, VRel.undef_rel⟩
          rw [ex, ek]
          simp only [Builtin.delete_, g0, g2, g3, Sem.run_bind, run_under hu, Result.andThen_ok, run_getMap hb, hck, hnone, run_setMap hb]
          rfl
        · cases hv
      · cases hv
    · cases hv
  · cases hv

/-- 'len' of a map. -/
theorem read_lenM {P : Program} {o : Oper} {a : Act} {h : IHeap} {x : Operand} {t : TypeId} {c : Call} {i : Nat} {es : List MapEntry} {ck : Nat} {kt et : TypeId} (ho : o.op = .call c) (hc : c.callee = .builtin .len) (ha : c.args = #[x]) (ht : c.argTypes[0]? = some t)
    (hx : a.eval x = .map (some i)) (hu : P.underlying t = some (.map kt et)) (hg : h.get i = some (.map es ck)) : ROp P o a h (.int .i64 es.length) [i] := by
  intro ρ ar w hm hrel
  have gx := hrel x (by simp [ho, Op.operands, Call.operands, ha])
  rw [hx] at gx
  obtain ⟨R, hR, ex⟩ := gx.map_inv
  obtain ⟨ob, hb, hor⟩ := hm i (by simp) R _ hg hR
  cases hor with
  | @map _ es' _ hs hh =>
    refine ⟨.int .i64 es'.size, ?_, by rw [hs]; exact .base rfl⟩
    simp [execOp, ho, Sem.run_bind, resolve, hc, ha, invoke, builtin, Builtin.len_, ht, ex, run_under hu, goInt, run_getMap hb]
theorem pure_lenMnil {P : Program} {o : Oper} {a : Act} {x : Operand} {t : TypeId} {c : Call} {kt et : TypeId} (ho : o.op = .call c) (hc : c.callee = .builtin .len) (ha : c.args = #[x]) (ht : c.argTypes[0]? = some t)
    (hx : a.eval x = .map none) (hu : P.underlying t = some (.map kt et)) : PureOp P o a (.int .i64 0) := by
  intro ρ ar w hrel
  have gx := hrel x (by simp [ho, Op.operands, Call.operands, ha])
  rw [hx] at gx
  have ex := scal_eq rfl gx
  refine ⟨.int .i64 0, ?_, .base rfl⟩
  simp [execOp, ho, Sem.run_bind, resolve, hc, ha, invoke, builtin, Builtin.len_, ht, ex, run_under hu, goInt]
end Go.Proofs.Ytmobpbhbllhdcaa.Ideal
end
