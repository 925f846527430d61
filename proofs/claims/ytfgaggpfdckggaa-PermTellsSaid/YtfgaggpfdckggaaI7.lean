/- Appends and copies. -/
import Derived.Test.YtfgaggpfdckggaaI6
import Derived.Laws.AppendOwn
noncomputable section
namespace Go.Proofs.Ytfgaggpfdckggaa.Ideal
set_option linter.unusedVariables false
set_option linter.unusedSimpArgs false
set_option linter.unnecessarySimpa false

/-- What is appended or copied: how many elements, their cells. -/
def srcOf (h : IHeap) (size : Nat) (x : Value) : Option (Nat × List Value) :=
  match x with
  | .slice none 0 0 => some (0, [])
  | .slice (some ⟨j, q, sp⟩) m _ => if m = 0 then some (0, []) else (match sp with
    | none => (match h.get j with
      | some (.row _ _ cs) => (slots cs q (m * size)).map fun vs => (m, vs)
      | _ => none)
    | some _ => none)
  | .string s => if size = 1 then some (s.size, s.data.toList.map fun b => .int .u8 (b.toNat : Int)) else none
  | _ => none
theorem src_run {P : Program} {ρ : Rho} {h : IHeap} {w : World} {size m : Nat} {x x' : Value} {vs : List Value} (hs : srcOf h size x = some (m, vs)) (hm : Models ρ h w) (hx : VRel ρ x x') :
    ∃ vs', (Builtin.lenOf x').run P w = .ok m w ∧ LRel ρ vs vs' ∧ vs.length = m * size ∧ ∀ k, k ≤ m → ∀ w1, w1.heap = w.heap → (Builtin.firstCells size k x').run P w1 = .ok (vs'.take (k * size)).toArray w1 := by
  unfold srcOf at hs
  split at hs
  · cases hs
    rw [scal_eq rfl hx]
    refine ⟨[], rfl, ⟨rfl, fun i v hv => by simp at hv⟩, by simp, fun k hk w1 _ => by simp [Builtin.firstCells]⟩
  · rename_i j q sp n c
    split at hs
    · rename_i h0
      cases hs
      subst h0
      obtain ⟨a', c', e⟩ := hx.someslc
      subst e
      refine ⟨[], rfl, ⟨rfl, fun i v hv => by simp at hv⟩, by simp, fun k hk w1 _ => ?_⟩
      have : k = 0 := by omega
      subst this
      simp [Builtin.firstCells, loadCells, loadCellsFrom]
    · split at hs
      · split at hs
        · rename_i hne _ ro esz cs hg
          obtain ⟨vs0, hsl, he⟩ := Option.map_eq_some_iff.mp hs
          cases he
          rcases hx.slc_inv with ⟨R, c', hR, hc, e0⟩ | ⟨h0, _⟩
          · subst e0
            obtain ⟨ob, hb, hor⟩ := hm.obj j R _ hg hR
            obtain ⟨vs', k1, k2, k3⟩ := slots_run (P := P) hb hor hsl
            refine ⟨vs', rfl, k2, k3, fun k hk w1 hw1 => ?_⟩
            have hks : k * size ≤ m * size := Nat.mul_le_mul_right _ hk
            have hsl' : slots cs q (k * size) = some (vs.take (k * size)) := by
              unfold slots at hsl ⊢
              split at hsl
              · obtain rfl := Option.some.inj hsl
                rw [if_pos (by omega), List.take_take, Nat.min_eq_left hks]
              · cases hsl
            have hb1 : w1.heap[R.block]? = some ob := by rw [hw1]; exact hb
            obtain ⟨c2, e2, fr2, rfl, _, _, hroom, hz, hcl⟩ := hor.cells
            have hlen' : vs'.length = m * size := by rw [← k2.1]; exact k3
            have hg' : ∀ (i : Nat) (v : Value), (vs'.take (k * size))[i]? = some v → w1.cell? ((⟨R.block, R.off + q, none⟩ : Addr).add i) = some v := by
              intro i v hv
              have hlt : i < k * size := by
                have := (List.getElem?_eq_some_iff.1 hv).1
                rw [List.length_take] at this; omega
              rw [List.getElem?_take, if_pos hlt] at hv
              rw [add_none, cell_of hb1]
              -- the cells that the first load gave
              have h1 := run_loadCells_list (P := P) w ⟨R.block, R.off + q, none⟩ ((c2.toList.drop (R.off + q)).take (m * size)) (fun i v hv => by
                rw [add_none, cell_of hb]
                rw [List.getElem?_take] at hv
                split at hv
                · rw [List.getElem?_drop, Array.getElem?_toList] at hv; exact hv
                · cases hv)
              have hl2 : ((c2.toList.drop (R.off + q)).take (m * size)).length = m * size := by
                have hq : q + m * size ≤ cs.length := by
                  unfold slots at hsl
                  split at hsl
                  · assumption
                  · cases hsl
                simp; omega
              rw [hl2, k1] at h1
              simp only [Result.ok.injEq, and_true] at h1
              have h2 : vs' = (c2.toList.drop (R.off + q)).take (m * size) := by simpa using h1
              rw [h2, List.getElem?_take, if_pos (by omega), List.getElem?_drop, Array.getElem?_toList] at hv
              exact hv
            have hfin := run_loadCells_list (P := P) w1 ⟨R.block, R.off + q, none⟩ (vs'.take (k * size)) hg'
            rw [List.length_take, hlen', Nat.min_eq_left hks] at hfin
            exact hfin
          · exact absurd h0 (by assumption)
        · cases hs
      · cases hs
  · rename_i s
    split at hs
    · rename_i h1
      cases hs
      subst h1
      rw [scal_eq rfl hx]
      refine ⟨s.data.toList.map fun b => .int .u8 (b.toNat : Int), rfl, ⟨rfl, fun i v hv => ⟨v, hv, ?_⟩⟩, by simp, fun k hk w1 _ => ?_⟩
      · rw [List.getElem?_map] at hv
        obtain ⟨b, _, rfl⟩ := Option.map_eq_some_iff.mp hv
        exact .base rfl
      · simp [Builtin.firstCells, List.map_take]
        apply Array.ext'
        simp [Array.toList_extract, List.extract_eq_take_drop]
    · cases hs
  · cases hs

def isIntD (d : TypeDesc) : Bool := match d with | .int _ => true | _ => false
/-- A type that is no whole number's. -/
def notInt (P : Program) (t : TypeId) : Bool := match P.underlying t with | some (.int _) => false | some _ => true | none => false
theorem notInt_inv {P : Program} {t : TypeId} (h : notInt P t = true) : ∃ d, P.underlying t = some d ∧ isIntD d = false := by
  unfold notInt at h
  cases hu : P.underlying t with
  | none => rw [hu] at h; simp at h
  | some d => rw [hu] at h; cases d <;> first | exact ⟨_, rfl, rfl⟩ | simp at h

section run
variable {P : Program} {w : World} {t t2 ty e : TypeId} {d2 : TypeDesc} {i : TypeInfo} {z : Value}
theorem app_room (ht : P.underlying t = some (.slice e)) (ht2 : P.underlying t2 = some d2) (hd : isIntD d2 = false) (hi : P.info? e = some i) {base : Option Addr} {n c m : Nat} {x : Value} {news : Array Value}
    (hl : (Builtin.lenOf x).run P w = .ok m w) (hf : (Builtin.firstCells i.size m x).run P w = .ok news w) (hle : n + m ≤ c) {w' : World} (hst : ∀ b, base = some b → (storeCells (b.add (n * i.size)) news.toList).run P w = .ok () w') (hb : base = none → w' = w) :
    (Builtin.append_ #[t, t2] ty #[.slice base n c, x]).run P w = .ok (.slice base (n + m) c) w' := by
  have hsz : (sizeOf e).run P w = .ok i.size w := run_size (by simp [tsize, hi]) w
  have g0 : (#[t, t2] : Array TypeId)[0]? = some t := rfl
  have g1 : (#[t, t2] : Array TypeId)[1]? = some t2 := rfl
  have g2 : (#[.slice base n c, x] : Array Value)[0]? = some (.slice base n c) := rfl
  have g3 : (#[.slice base n c, x] : Array Value)[1]? = some x := rfl
  cases d2 <;> first | (simp [isIntD] at hd; done) | skip
  all_goals
    simp only [Builtin.append_, g0, g1, g2, g3, Sem.run_bind, Sem.run_pure, run_under ht, run_under ht2, Result.andThen_ok, hsz, if_false, Bool.false_eq_true, hl, if_pos hle, Bool.not_false, if_true, hf]
    cases base with
    | none => rw [hb rfl]; rfl
    | some b => simp only [hst b rfl, Sem.run_bind, Result.andThen_ok]; rfl
theorem app_grow (ht : P.underlying t = some (.slice e)) (ht2 : P.underlying t2 = some d2) (hd : isIntD d2 = false) (hi : P.info? e = some i) (hzero : ∀ w, (zeroValue e).run P w = .ok z w) {base : Option Addr} {n c m : Nat} {x : Value} {olds news : Array Value}
    (hl : (Builtin.lenOf x).run P w = .ok m w) (hf : (Builtin.firstCells i.size m x).run P w.drew = .ok news w.drew) (ho : (Builtin.firstCells i.size n (.slice base n c)).run P w.drew = .ok olds w.drew) (hle : c < n + m) (h63 : n + m ≤ 4611686018427387904) (hfit : (n + m) * i.bytes ≤ 140737488355328) :
    (Builtin.append_ #[t, t2] ty #[.slice base n c, x]).run P w = .ok (.slice (some ⟨w.heap.size, 0, none⟩) (n + m) (grownCap w (n + m) c e)) (w.drew.alloc (.cells (olds ++ news ++ Builtin.zeroCells z.cells (grownCap w (n + m) c e - (n + m))) e)) := by
  have hsz : (sizeOf e).run P w = .ok i.size w := run_size (by simp [tsize, hi]) w
  have hti : ∀ w, (typeInfo e).run P w = .ok i w := fun w => by simp [typeInfo, program, Sem.run_bind, Sem.run, hi]
  have g0 : (#[t, t2] : Array TypeId)[0]? = some t := rfl
  have g1 : (#[t, t2] : Array TypeId)[1]? = some t2 := rfl
  have g2 : (#[.slice base n c, x] : Array Value)[0]? = some (.slice base n c) := rfl
  have g3 : (#[.slice base n c, x] : Array Value)[1]? = some x := rfl
  have hle' : ¬ (n + m ≤ c) := by omega
  have hfits := growslice_fits hle hfit
  have hfits' : ¬ (Builtin.nextslicecap (n + m) c * i.bytes > 2 ^ 48) := by omega
  have h63' : ¬ (((n + m : Nat) : Int) > IntKind.i64.max) := by
    have : IntKind.i64.max = 9223372036854775807 := by decide
    omega
  have h63'' : ¬ (((n + m : Nat) : Int) > IntKind.i64.max ∧ (False ∨ i.bytes = 0)) := fun h => h63' h.1
  have hch : (choose (.appendCap (n + m) c e)).run P w = .ok (grownCap w (n + m) c e) w.drew := by
    simp [choose, Sem.run, Question.forced, grownCap]
  have hroom : ∀ b, (askRoom b).run P w.drew = .ok () w.drew := fun b => by
    unfold askRoom
    split <;> rfl
  cases d2 <;> first | (simp [isIntD] at hd; done) | skip
  all_goals
    simp only [Builtin.append_, g0, g1, g2, g3, Sem.run_bind, Sem.run_pure, run_under ht, run_under ht2, Result.andThen_ok, hsz, if_false, Bool.false_eq_true, hl, if_neg hle', hti, if_neg h63'', if_neg hfits', hch, hroom, ho, Bool.not_false, if_true, hf, hzero, newRow, newObj]
    rfl
theorem appended_zeros (hzero : ∀ w, (zeroValue e).run P w = .ok z w) (hzs : z.cells.size = i.size) (n : Nat) (w : World) :
    (if n * i.size = 0 then (pure #[] : Sem (Array Value)) else do pure (Builtin.zeroCells (← zeroValue e).cells n)).run P w = .ok (Builtin.zeroCells z.cells n) w := by
  by_cases h : n * i.size = 0
  · rw [if_pos h]
    have : Builtin.zeroCells z.cells n = #[] := by
      unfold Builtin.zeroCells
      rw [hzs, h]; simp
    rw [this]; rfl
  · rw [if_neg h]
    simp only [Sem.run_bind, hzero, Result.andThen_ok]
    rfl
theorem app_roomZ {kk : IntKind} (ht : P.underlying t = some (.slice e)) (ht2 : P.underlying t2 = some (.int kk)) (hi : P.info? e = some i) (hzero : ∀ w, (zeroValue e).run P w = .ok z w) (hzs : z.cells.size = i.size) {base : Option Addr} {n c : Nat} {k : IntKind} {l : Int}
    (hl0 : 0 ≤ l) (hl1 : l < 9223372036854775808) (hlb : l * i.bytes ≤ 281474976710656) (hle : n + l.toNat ≤ c) {w' : World} (hst : ∀ b, base = some b → (storeCells (b.add (n * i.size)) (Builtin.zeroCells z.cells l.toNat).toList).run P w = .ok () w') (hb : base = none → w' = w) :
    (Builtin.append_ #[t, t2] ty #[.slice base n c, .int k l]).run P w = .ok (.slice base (n + l.toNat) c) w' := by
  have hsz : (sizeOf e).run P w = .ok i.size w := run_size (by simp [tsize, hi]) w
  have hti : ∀ w, (typeInfo e).run P w = .ok i w := fun w => by simp [typeInfo, program, Sem.run_bind, Sem.run, hi]
  have g0 : (#[t, t2] : Array TypeId)[0]? = some t := rfl
  have g1 : (#[t, t2] : Array TypeId)[1]? = some t2 := rfl
  have g2 : (#[.slice base n c, .int k l] : Array Value)[0]? = some (.slice base n c) := rfl
  have g3 : (#[.slice base n c, .int k l] : Array Value)[1]? = some (.int k l) := rfl
  have hw := wrap_in l hl0 hl1
  have e1 : ¬ (l < 0) := by omega
  have e2 : ¬ (l * (i.bytes : Int) > 2 ^ 48) := by
    have : (2 : Int) ^ 48 = 281474976710656 := by decide
    omega
  simp only [Builtin.append_, g0, g1, g2, g3, Sem.run_bind, Sem.run_pure, run_under ht, run_under ht2, Result.andThen_ok, hsz, if_true, asInt, asIntOf, hw, e1, e2, hti, if_false, if_pos hle, Bool.not_true, Bool.false_eq_true]
  rw [appended_zeros hzero hzs]
  simp only [Result.andThen_ok]
  cases base with
  | none => rw [hb rfl]; rfl
  | some b => simp only [hst b rfl, Sem.run_bind, Result.andThen_ok]; rfl
theorem app_growZ {kk : IntKind} (ht : P.underlying t = some (.slice e)) (ht2 : P.underlying t2 = some (.int kk)) (hi : P.info? e = some i) (hzero : ∀ w, (zeroValue e).run P w = .ok z w) (hzs : z.cells.size = i.size) {base : Option Addr} {n c : Nat} {k : IntKind} {l : Int} {olds : Array Value}
    (hl0 : 0 ≤ l) (hl1 : l < 9223372036854775808) (hlb : l * i.bytes ≤ 281474976710656) (ho : (Builtin.firstCells i.size n (.slice base n c)).run P w.drew = .ok olds w.drew) (hle : c < n + l.toNat) (h63 : n + l.toNat ≤ 4611686018427387904) (hfit : (n + l.toNat) * i.bytes ≤ 140737488355328) :
    (Builtin.append_ #[t, t2] ty #[.slice base n c, .int k l]).run P w = .ok (.slice (some ⟨w.heap.size, 0, none⟩) (n + l.toNat) (grownCap w (n + l.toNat) c e)) (w.drew.alloc (.cells (olds ++ Builtin.zeroCells z.cells l.toNat ++ Builtin.zeroCells z.cells (grownCap w (n + l.toNat) c e - (n + l.toNat))) e)) := by
  have hsz : (sizeOf e).run P w = .ok i.size w := run_size (by simp [tsize, hi]) w
  have hti : ∀ w, (typeInfo e).run P w = .ok i w := fun w => by simp [typeInfo, program, Sem.run_bind, Sem.run, hi]
  have g0 : (#[t, t2] : Array TypeId)[0]? = some t := rfl
  have g1 : (#[t, t2] : Array TypeId)[1]? = some t2 := rfl
  have g2 : (#[.slice base n c, .int k l] : Array Value)[0]? = some (.slice base n c) := rfl
  have g3 : (#[.slice base n c, .int k l] : Array Value)[1]? = some (.int k l) := rfl
  have hw := wrap_in l hl0 hl1
  have e1 : ¬ (l < 0) := by omega
  have e2 : ¬ (l * (i.bytes : Int) > 2 ^ 48) := by
    have : (2 : Int) ^ 48 = 281474976710656 := by decide
    omega
  have hle' : ¬ (n + l.toNat ≤ c) := by omega
  have hfits := growslice_fits hle hfit
  have hfits' : ¬ (Builtin.nextslicecap (n + l.toNat) c * i.bytes > 2 ^ 48) := by omega
  have h63' : ¬ (((n + l.toNat : Nat) : Int) > IntKind.i64.max) := by
    have : IntKind.i64.max = 9223372036854775807 := by decide
    omega
  have h63'' : ¬ (((n + l.toNat : Nat) : Int) > IntKind.i64.max ∧ (True ∨ i.bytes = 0)) := fun h => h63' h.1
  have hch : (choose (.appendCap (n + l.toNat) c e)).run P w = .ok (grownCap w (n + l.toNat) c e) w.drew := by
    simp [choose, Sem.run, Question.forced, grownCap]
  have hroom : ∀ b, (askRoom b).run P w.drew = .ok () w.drew := fun b => by
    unfold askRoom
    split <;> rfl
  simp only [Builtin.append_, g0, g1, g2, g3, Sem.run_bind, Sem.run_pure, run_under ht, run_under ht2, Result.andThen_ok, hsz, if_true, asInt, asIntOf, hw, e1, e2, hti, if_false, if_neg hle', Bool.not_true, Bool.false_eq_true, if_neg h63'', if_neg hfits', hch, hroom, ho]
  rw [appended_zeros hzero hzs]
  simp only [Result.andThen_ok, hzero, newRow, newObj]
  rfl
end run
end Go.Proofs.Ytfgaggpfdckggaa.Ideal
