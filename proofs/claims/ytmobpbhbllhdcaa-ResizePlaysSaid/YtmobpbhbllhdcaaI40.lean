/- The ideal heap: I36, I37, I38, I39, I40. Equations for simp: a slice of a slice; appends in general. -/
import Derived.Test.YtmobpbhbllhdcaaI35
import Derived.Test.YtmobpbhbllhdcaaI29
import Derived.Test.YtmobpbhbllhdcaaI24
noncomputable section
namespace Go.Proofs.Ytmobpbhbllhdcaa.Ideal
open Go.RowKit
set_option linter.unusedVariables false
set_option linter.unusedSimpArgs false
set_option linter.unnecessarySimpa false
section
variable {P : Program} {rd : Option Nat} {draw : Bool} {all : Array Oper} {os : List Oper} {e : XEnv} {h : IHeap}
variable (d : Option Tmp) (ty : TypeId) (p : String) (af : Array Edge) (g : Option (Nat × Bool)) [Q : Hid (XEnv → IHeap → Prop)] [E : Hid (List Ent)]
/-- A slice of a slice, or of an array's address. -/
def cutV (P : Program) (h : IHeap) (t : TypeId) (x : Value) (lo hi : Option Value) : Option (Value × Kind) := match x with
  | .slice (some ⟨i, q, none⟩) n c => (islice P h t (.slice (some ⟨i, q, none⟩) n c) lo hi none).map fun r => (r.1, kindOf r.2.2)
  | .pointer (some ⟨i, q, none⟩) => (match lo, hi with
    | none, some y => arrCut P t (.pointer (some ⟨i, q, none⟩)) y
    | _, _ => none)
  | _ => none
theorem wdo_cutV (t : TypeId) (x : Operand) (lo hi : Option Operand) : wdo P draw all ⟨d, .slice t x lo hi none, ty, p, af, g⟩ os e h = jopt (cutV P h t (e.ev x) (lo.map e.ev) (hi.map e.ev)) (R := ⟨jgen P e ⟨d, .slice t x lo hi none, ty, p, af, g⟩ h (K := ⟨fun v h' k => wnx P draw all os e d h v h' k⟩)⟩) (K := ⟨fun v k => wnx P draw all os e d h v h k⟩) := by
  have e1 : wdo P draw all ⟨d, .slice t x lo hi none, ty, p, af, g⟩ os e h = jgen P e ⟨d, .slice t x lo hi none, ty, p, af, g⟩ h (K := ⟨fun v h' k => wnx P draw all os e d h v h' k⟩) := byEq rfl
  rw [e1]
  unfold jopt
  split
  · rename_i r hr
    unfold cutV at hr
    split at hr
    · rename_i i q n c hx
      obtain ⟨r2, h2, rfl⟩ := Option.map_eq_some_iff.mp hr
      have hh : r2.2.1 = h := by
        simp only [islice] at h2
        split at h2
        · split at h2
          · cases h2; rfl
          · cases h2
        · cases h2
      simp [jgen, iop, hx, h2, hh, Hid.ap_mk]
    · rename_i i q hx
      split at hr
      · rename_i y hlo hy
        obtain ⟨hi', rfl, rfl⟩ : ∃ z, hi = some z ∧ e.ev z = y := by
          cases hi with
          | none => simp at hy
          | some z => exact ⟨z, rfl, by simpa using hy⟩
        obtain rfl : lo = none := by
          cases lo with
          | none => rfl
          | some z => simp at hlo
        have := wdo_arrCut (P := P) (draw := draw) (all := all) (os := os) (e := e) (h := h) d ty p af g t x hi'
        rw [e1] at this
        rw [this, hx, hr]
        simp [jopt]
      · cases hr
    · cases hr
  · simp [Hid.ap_mk]
end
variable {P : Program}
/-- From a number on up to a number. -/
theorem islice_eq {h : IHeap} {t e : TypeId} {s i q n c l u : Nat} {lo hi : Option Value} {ro : Bool} {esz : Nat} {cs : List Value} (ht : slcOf P t = some (e, s)) (hg : h.get i = some (.row ro esz cs)) (he : esz = 0 ∨ esz = s) (hb : bounds n c lo hi none = some (l, u, c)) :
    islice P h t (.slice (some ⟨i, q, none⟩) n c) lo hi none = some (.slice (some ⟨i, q + l * s, none⟩) (u - l) (c - l), h, .read i) := by
  simp [islice, ht, hb, hg, he, cutAddr]
theorem bounds_hi {n c u : Nat} {k : IntKind} (h : u ≤ c) : bounds n c none (some (.int k u)) none = some (0, u, c) := by
  simp [bounds, bnd, h]
theorem bounds_lo {n c l : Nat} {k : IntKind} (h : l ≤ n) (h2 : n ≤ c) : bounds n c (some (.int k l)) none none = some (l, n, c) := by
  simp [bounds, bnd, h, h2]
theorem bounds_both {n c l u : Nat} {k k' : IntKind} (h : l ≤ u) (h2 : u ≤ c) : bounds n c (some (.int k l)) (some (.int k' u)) none = some (l, u, c) := by
  simp [bounds, bnd, h, h2]
/-- An append that grows. -/
theorem iapp_grow {h : IHeap} {t t2 e : TypeId} {s b i q n c m : Nat} {z : Array Value} {x : Value} {news olds cs : List Value} {esz : Nat} (hs : slcOf P t = some (e, s)) (hz : zeroOf P e = some z) (hb : (P.info? e).map (·.bytes) = some b) (hzs : z.size = s) (hs0 : s ≠ 0) (hni : notInt P t2 = true)
    (hx : srcOf h s x = some (m, news)) (hall : news.all (·.oneCell') = true) (hc : ¬ n + m ≤ c) (hsz : (n + m) * b ≤ 140737488355328 ∧ n + m ≤ 4611686018427387904) (hg : h.get i = some (.row false esz cs)) (he : esz = 0 ∨ esz = s) (ho : slots cs q (n * s) = some olds) :
    iappend P h t t2 (.slice (some ⟨i, q, none⟩) n c) x = some (.slice (some ⟨h.size, 0, none⟩) (n + m) (n + m), (h.set i .dead).push (.row false s (olds ++ news))) := by
  have h1 : (z.size == s && s != 0 && news.all (·.oneCell')) = true := by simp [hzs, hs0, hall]
  simp only [iappend, hs, hz, hb, asrcOf, hni, if_true, hx, h1, hc, if_false, hsz, and_self, hg, he, ho, Option.map_some]
/-- An append to nothing. -/
theorem iapp_nil {h : IHeap} {t t2 e : TypeId} {s b m : Nat} {z : Array Value} {x : Value} {news : List Value} (hs : slcOf P t = some (e, s)) (hz : zeroOf P e = some z) (hb : (P.info? e).map (·.bytes) = some b) (hzs : z.size = s) (hs0 : s ≠ 0) (hni : notInt P t2 = true)
    (hx : srcOf h s x = some (m, news)) (hall : news.all (·.oneCell') = true) (hm : m ≠ 0) (hsz : m * b ≤ 140737488355328 ∧ m ≤ 4611686018427387904) :
    iappend P h t t2 (.slice none 0 0) x = some (.slice (some ⟨h.size, 0, none⟩) m m, h.push (.row false s news)) := by
  have h1 : (z.size == s && s != 0 && news.all (·.oneCell')) = true := by simp [hzs, hs0, hall]
  simp only [iappend, hs, hz, hb, asrcOf, hni, if_true, hx, h1, hm, if_false, hsz, and_self]
/-- Nothing is appended. -/
theorem iapp_zero {h : IHeap} {t t2 e : TypeId} {s b i q n c : Nat} {z : Array Value} {x : Value} (hs : slcOf P t = some (e, s)) (hz : zeroOf P e = some z) (hb : (P.info? e).map (·.bytes) = some b) (hzs : z.size = s) (hs0 : s ≠ 0) (hni : notInt P t2 = true)
    (hx : srcOf h s x = some (0, [])) (hc : n ≤ c) :
    iappend P h t t2 (.slice (some ⟨i, q, none⟩) n c) x = some (.slice (some ⟨i, q, none⟩) n c, h) := by
  have h1 : (z.size == s && s != 0 && ([] : List Value).all (·.oneCell')) = true := by simp [hzs, hs0]
  simp only [iappend, hs, hz, hb, asrcOf, hni, if_true, hx, h1, Nat.add_zero, hc]
theorem src_row {h : IHeap} {s j q m c : Nat} {ro : Bool} {esz : Nat} {cs vs : List Value} (hg : h.get j = some (.row ro esz cs)) (hv : slots cs q (m * s) = some vs) (hm : m ≠ 0) : srcOf h s (.slice (some ⟨j, q, none⟩) m c) = some (m, vs) := by
  simp [srcOf, hm, hg, hv]
theorem src_none {h : IHeap} {s : Nat} : srcOf h s (.slice none 0 0) = some (0, []) := rfl
theorem src_zero {h : IHeap} {s : Nat} (a : Addr) (c : Nat) : srcOf h s (.slice (some a) 0 c) = some (0, []) := by
  obtain ⟨b, o, sp⟩ := a
  simp [srcOf]
theorem slots_take {cs : List Value} {n : Nat} (h : n ≤ cs.length) : slots cs 0 n = some (cs.take n) := by simp [slots, h]
theorem slots_full (cs : List Value) {n : Nat} (h : n = cs.length) : slots cs 0 n = some cs := by subst h; simp [slots]
end Go.Proofs.Ytmobpbhbllhdcaa.Ideal
end
noncomputable section
namespace Go.Proofs.Ytmobpbhbllhdcaa.Ideal
open Go.RowKit
set_option linter.unusedVariables false
set_option linter.unusedSimpArgs false
set_option linter.unnecessarySimpa false

theorem WP_assoc {P : Program} {rd : Option Nat} {a b c : Code} {e : XEnv} {h : IHeap} {Q : Hid XQ} : WP P rd (.seq a (.seq b c)) e h (Q := Q) = WP P rd (.seq (.seq a b) c) e h (Q := Q) := by
  rw [WP_seq (Q := Q) a (.seq b c), WP_seq (Q := Q) (.seq a b) c, WP_seq (Q := ⟨thenQ P rd c Q⟩) a b]
  have : thenQ P rd (.seq b c) Q = thenQ P rd b ⟨thenQ P rd c Q⟩ := by
    funext r e' h'
    cases r <;> first | rfl | (rw [thenQ_normal, thenQ_normal, WP_seq])
  rw [this]
/-- Behind two pieces of code that end as they do, R holds. -/
theorem WP.cut2 {P : Program} {rd : Option Nat} {a b c : Code} {e : XEnv} {h : IHeap} {Q : Hid XQ} (R : XEnv → IHeap → Prop) (x : WP P rd (.seq a b) e h (Q := ⟨fun r e' h' => r = .normal ∧ R e' h'⟩)) (k : ∀ e' h', R e' h' → WP P rd c e' h' (Q := Q)) : WP P rd (.seq a (.seq b c)) e h (Q := Q) := by
  rw [WP_assoc, WP_seq]
  exact WP.cut R x k
theorem WP.cut3 {P : Program} {rd : Option Nat} {a b c d : Code} {e : XEnv} {h : IHeap} {Q : Hid XQ} (R : XEnv → IHeap → Prop) (x : WP P rd (.seq a (.seq b c)) e h (Q := ⟨fun r e' h' => r = .normal ∧ R e' h'⟩)) (k : ∀ e' h', R e' h' → WP P rd d e' h' (Q := Q)) : WP P rd (.seq a (.seq b (.seq c d))) e h (Q := Q) := by
  have : WP P rd (.seq a (.seq b (.seq c d))) e h (Q := Q) = WP P rd (.seq (.seq a (.seq b c)) d) e h (Q := Q) := by
    rw [← WP_assoc (a := a) (b := .seq b c) (c := d), WP_seq (Q := Q) a, WP_seq (Q := Q) a]
    have : thenQ P rd (.seq b (.seq c d)) Q = thenQ P rd (.seq (.seq b c) d) Q := by
      funext r e' h'
      cases r <;> first | rfl | (rw [thenQ_normal, thenQ_normal, WP_assoc])
    rw [this]
  rw [this, WP_seq]
  exact WP.cut R x k
/-- .. behind one. -/
theorem WP.cut1 {P : Program} {rd : Option Nat} {a c : Code} {e : XEnv} {h : IHeap} {Q : Hid XQ} (R : XEnv → IHeap → Prop) (x : WP P rd a e h (Q := ⟨fun r e' h' => r = .normal ∧ R e' h'⟩)) (k : ∀ e' h', R e' h' → WP P rd c e' h' (Q := Q)) : WP P rd (.seq a c) e h (Q := Q) := by
  rw [WP_seq]
  exact WP.cut R x k

/-- Two rows of the caller's: their cells as they are. -/
def ro2 (cs ds : List Value) : IHeap := (ro1 cs).push (.row true 0 ds)
theorem ro2_get0 (cs ds : List Value) : (ro2 cs ds).get 0 = some (.row true 0 cs) := by
  unfold ro2
  rw [IHeap.get_push_ne _ (by show 0 ≠ 1; decide)]
  rfl
theorem ro2_get1 (cs ds : List Value) : (ro2 cs ds).get 1 = some (.row true 0 ds) := IHeap.get_pushed _ rfl
theorem ro2_size (cs ds : List Value) : (ro2 cs ds).size = 2 := by unfold ro2; rw [IHeap.size_push]; rfl
theorem ro2_get {cs ds : List Value} {i : Nat} {o : IObj} (h : (ro2 cs ds).get i = some o) : (i = 0 ∧ o = .row true 0 cs) ∨ (i = 1 ∧ o = .row true 0 ds) := by
  have hl := IHeap.get_lt h
  rw [ro2_size] at hl
  rcases (show i = 0 ∨ i = 1 by omega) with rfl | rfl
  · rw [ro2_get0] at h
    exact .inl ⟨rfl, (Option.some.inj h).symm⟩
  · rw [ro2_get1] at h
    exact .inr ⟨rfl, (Option.some.inj h).symm⟩
/-- Where a row of the caller's lies: in no place, or in a block, from q on, so many cells there. -/
structure RoPl where
  b : Nat
  q : Nat
  room : Nat
def rhoR2 (x y : Option RoPl) : Rho := fun i => if i = 0 then x.map (fun p => ⟨p.b, p.q, p.room, 0⟩) else if i = 1 then y.map (fun p => ⟨p.b, p.q, p.room, 0⟩) else none
/-- The place bears these cells. -/
def RoPl.Bears (W : World) (p : RoPl) (cs : List Value) : Prop := ∃ (c : Array Value) (e : TypeId) (fr : Nat × Nat), W.heap[p.b]? = some (.cells c e fr) ∧ p.room = c.size ∧ p.q + cs.length ≤ c.size ∧ ∀ (i : Nat) (v : Value), cs[i]? = some v → c[p.q + i]? = some v ∧ plainV v = true
theorem ro2_models {W : World} {x y : Option RoPl} {cs ds : List Value} (hx : ∀ p, x = some p → p.Bears W cs) (hy : ∀ p, y = some p → p.Bears W ds) : Models (rhoR2 x y) (ro2 cs ds) W := by
  refine ⟨fun i R o hg hr => ?_, fun i j R R' h1 h2 he d1 d2 => ?_, fun i R hr => ?_⟩
  · rcases ro2_get hg with ⟨rfl, rfl⟩ | ⟨rfl, rfl⟩
    · unfold rhoR2 at hr
      rw [if_pos rfl] at hr
      obtain ⟨p, hp, rfl⟩ := Option.map_eq_some_iff.1 hr
      obtain ⟨c, e, fr, hb, hz, hs, hc⟩ := hx p hp
      exact ⟨_, hb, .row (fun h => by cases h) rfl hz.symm hs (fun i v hv => ⟨v, (hc i v hv).1, plain_rel (hc i v hv).2⟩)⟩
    · unfold rhoR2 at hr
      rw [if_neg (by decide), if_pos rfl] at hr
      obtain ⟨p, hp, rfl⟩ := Option.map_eq_some_iff.1 hr
      obtain ⟨c, e, fr, hb, hz, hs, hc⟩ := hy p hp
      exact ⟨_, hb, .row (fun h => by cases h) rfl hz.symm hs (fun i v hv => ⟨v, (hc i v hv).1, plain_rel (hc i v hv).2⟩)⟩
  · have two : ∀ k R, rhoR2 x y k = some R → RoO ((ro2 cs ds).get k) := by
      intro k R hk
      unfold rhoR2 at hk
      split at hk
      · rename_i e; subst e; exact ⟨_, ro2_get0 _ _, rfl⟩
      · split at hk
        · rename_i e; subst e; exact ⟨_, ro2_get1 _ _, rfl⟩
        · cases hk
    exact .inr ⟨two i R h1, two j R' h2⟩
  · unfold rhoR2 at hr
    split at hr
    · obtain ⟨p, hp, rfl⟩ := Option.map_eq_some_iff.1 hr
      obtain ⟨c, e, fr, hb, _⟩ := hx p hp
      exact (Array.getElem?_eq_some_iff.1 hb).1
    · split at hr
      · obtain ⟨p, hp, rfl⟩ := Option.map_eq_some_iff.1 hr
        obtain ⟨c, e, fr, hb, _⟩ := hy p hp
        exact (Array.getElem?_eq_some_iff.1 hb).1
      · cases hr
theorem ro2_only {cs ds : List Value} : ∀ i o, (ro2 cs ds).get i = some o → o.isRo = true ∨ o = .dead := fun i o hg => by
  rcases ro2_get hg with ⟨_, rfl⟩ | ⟨_, rfl⟩ <;> exact .inl rfl
end Go.Proofs.Ytmobpbhbllhdcaa.Ideal
end
noncomputable section
namespace Go.Proofs.Ytmobpbhbllhdcaa.Ideal
open Go.RowKit
set_option linter.unusedVariables false
set_option linter.unusedSimpArgs false
set_option linter.unnecessarySimpa false
theorem jopt_none [R : Hid Prop] [K : Hid (Value → Kind → Prop)] : jopt none = R.ap := byEq rfl
theorem pureVal_val {P : Program} : ∀ {S : Sem Value} {v : Value}, pureVal P S = some v → pureVal P (S >>= fun v => pure (Next.value v)) = some (.value v)
  | .pure _, v, h => by simp [pureVal] at h; subst h; rfl
  | .program k, v, h => by
    simp [pureVal] at h
    exact pureVal_val (S := k P) h
  | .mark _ k, v, h => by
    simp [pureVal] at h
    exact pureVal_val (S := k) h
section
variable {P : Program} {rd : Option Nat} {draw : Bool} {all : Array Oper} {os : List Oper} {e : XEnv} {h : IHeap}
variable (d : Option Tmp) (ty : TypeId) (p : String) (af : Array Edge) (g : Option (Nat × Bool)) [Q : Hid (XEnv → IHeap → Prop)] [E : Hid (List Ent)]
/-- An array's element. -/
def idxV (P : Program) (t : TypeId) (x y : Value) : Option (Value × Kind) := match x, y, P.underlying t with
  | .agg cs, .int _ j, some (.array n e) => (match tsize P e with | some s => if 0 ≤ j ∧ j < n then (partOf P e cs (j.toNat * s)).map fun v => (v, .pure) else none | none => none)
  | _, _, _ => none
theorem wdo_index (t : TypeId) (x y : Operand) : wdo P draw all ⟨d, .index t x y, ty, p, af, g⟩ os e h = jopt (idxV P t (e.ev x) (e.ev y)) (R := ⟨jgen P e ⟨d, .index t x y, ty, p, af, g⟩ h (K := ⟨fun v h' k => wnx P draw all os e d h v h' k⟩)⟩) (K := ⟨fun v k => wnx P draw all os e d h v h k⟩) := by
  have e1 : wdo P draw all ⟨d, .index t x y, ty, p, af, g⟩ os e h = jgen P e ⟨d, .index t x y, ty, p, af, g⟩ h (K := ⟨fun v h' k => wnx P draw all os e d h v h' k⟩) := byEq rfl
  rw [e1]
  unfold jopt
  split
  · rename_i r hr
    unfold idxV at hr
    split at hr
    · rename_i cs k j n el hx hy hu
      split at hr
      · rename_i s hs
        split at hr
        · rename_i hc
          obtain ⟨v, hv, rfl⟩ := Option.map_eq_some_iff.mp hr
          simp [jgen, iop, ipure, hx, hy, hu, hs, hc, hv, kindOf, Hid.ap_mk]
        · cases hr
      · cases hr
    · cases hr
  · simp [Hid.ap_mk]
/-- A slice as an array's address. -/
def toArrV (P : Program) (t : TypeId) (x : Value) : Option (Value × Kind) := match x, P.underlying t with
  | .slice (some ⟨i, q, none⟩) n _, some (.array N _) => if N ≤ n ∧ 0 < N then some (.pointer (some ⟨i, q, none⟩), .pure) else none
  | _, _ => none
theorem wdo_toArr (t : TypeId) (x : Operand) : wdo P draw all ⟨d, .sliceToArrayPointer t x, ty, p, af, g⟩ os e h = jopt (toArrV P t (e.ev x)) (R := ⟨jgen P e ⟨d, .sliceToArrayPointer t x, ty, p, af, g⟩ h (K := ⟨fun v h' k => wnx P draw all os e d h v h' k⟩)⟩) (K := ⟨fun v k => wnx P draw all os e d h v h k⟩) := by
  have e1 : wdo P draw all ⟨d, .sliceToArrayPointer t x, ty, p, af, g⟩ os e h = jgen P e ⟨d, .sliceToArrayPointer t x, ty, p, af, g⟩ h (K := ⟨fun v h' k => wnx P draw all os e d h v h' k⟩) := byEq rfl
  rw [e1]
  unfold jopt
  split
  · rename_i r hr
    unfold toArrV at hr
    split at hr
    · rename_i i q n c N el hx hu
      split at hr
      · rename_i hc
        cases hr
        simp [jgen, iop, ipure, hx, hu, hc, kindOf, Hid.ap_mk]
      · cases hr
    · cases hr
  · simp [Hid.ap_mk]
/-- Nothing, or zero. -/
def isZ : Option Value → Bool
  | none => true
  | some (.int _ n) => n == 0
  | _ => false
/-- A slice of a slice, of one that is nil too. -/
def cutN (P : Program) (h : IHeap) (t : TypeId) (x : Value) (lo hi : Option Value) : Option (Value × Kind) := match x with
  | .slice none 0 0 => if isZ lo && isZ hi then some (.slice none 0 0, .pure) else none
  | x => cutV P h t x lo hi
theorem wdo_cutN (t : TypeId) (hz : ∀ lo hi : Option Value, isZ lo = true → isZ hi = true → pureVal P (Instr.sliceAt t (.slice none 0 0) lo hi none) = some (.slice none 0 0)) (x : Operand) (lo hi : Option Operand) : wdo P draw all ⟨d, .slice t x lo hi none, ty, p, af, g⟩ os e h = jopt (cutN P h t (e.ev x) (lo.map e.ev) (hi.map e.ev)) (R := ⟨jgen P e ⟨d, .slice t x lo hi none, ty, p, af, g⟩ h (K := ⟨fun v h' k => wnx P draw all os e d h v h' k⟩)⟩) (K := ⟨fun v k => wnx P draw all os e d h v h k⟩) := by
  have e1 : wdo P draw all ⟨d, .slice t x lo hi none, ty, p, af, g⟩ os e h = jgen P e ⟨d, .slice t x lo hi none, ty, p, af, g⟩ h (K := ⟨fun v h' k => wnx P draw all os e d h v h' k⟩) := byEq rfl
  unfold jopt
  split
  · rename_i r hr
    unfold cutN at hr
    split at hr
    · rename_i hx
      split at hr
      · rename_i hc
        simp only [Bool.and_eq_true] at hc
        cases hr
        rw [e1]
        have hp : plainV (.slice none 0 0) = true := rfl
        have hq : ∀ o : Option Operand, isZ (o.map e.ev) = true → ∀ y, o = some y → plainV (e.ev y) = true := by
          intro o ho y hy
          subst hy
          simp only [Option.map_some] at ho
          unfold isZ at ho
          split at ho <;> first | (cases ho; done) | (rename_i hv; simp at hv; done) | (rename_i hv; simp at hv; rw [hv]; rfl)
        have hpl : iplain P e.ev ⟨d, .slice t x lo hi none, ty, p, af, g⟩ = some (.slice none 0 0) := by
          have he : pureVal P (execOp e.ev ⟨d, .slice t x lo hi none, ty, p, af, g⟩) = some (.value (.slice none 0 0)) := by
            have h2 := hz _ _ hc.1 hc.2
            simp only [execOp, hx, Option.map_none]
            generalize Instr.sliceAt t (.slice none 0 0) (lo.map e.ev) (hi.map e.ev) none = S at h2
            exact pureVal_val h2
          unfold iplain
          dsimp only
          rw [he, if_pos]
          · rfl
          · cases lo <;> cases hi <;> simp [Op.operands, hx, plainV, scal] <;> first | exact hq _ hc.1 _ rfl | exact hq _ hc.2 _ rfl | exact ⟨hq _ hc.1 _ rfl, hq _ hc.2 _ rfl⟩
        simp [jgen, iop, islice, ipure, hx, hpl, kindOf, Hid.ap_mk]
      · cases hr
    · have := wdo_cutV (P := P) (draw := draw) (all := all) (os := os) (e := e) (h := h) d ty p af g t x lo hi
      rw [this, hr]
      simp [jopt]
  · simp [e1, Hid.ap_mk]
end
section
variable {P : Program} {e : XEnv} {h : IHeap}
variable (d : Option Tmp) (ty : TypeId) (p : String) (af : Array Edge) (g : Option (Nat × Bool))
/-- An operation by the model's own text. -/
theorem jgen_plain {o : Oper} {v : Value} {K : Hid VK} (h1 : iop P e.ev o h = (ipure P e.ev o).map fun v => (v, h, .pure)) (h2 : ipure P e.ev o = some v) : jgen P e o h (K := K) = K.ap v h .pure := by
  unfold jgen
  rw [h1, h2]
  rfl
theorem callV_nat {f : FuncId} {fs cs args : Array Value} {o : Oper} {v : Value} {K : Hid VK} (hb : fnB P f = false) (hi : iplain P e.ev o = some v) : callV P (.func (.func f) fs cs) args e o h (K := K) = K.ap v h .pure := by
  simp [callV, hb, hi]
/-- A call of a function without a body, of operands that are plain. -/
theorem iplain_call {f : FuncId} {xs : Array Operand} {ts : Array TypeId} {vs : Array Value} {v : Value} (hx : xs.map e.ev = vs) (hp : vs.all plainV = true) (hr : pureVal P (callFunc f vs) = some (.value v)) (hv : plainV v = true) : iplain P e.ev ⟨d, .call ⟨.value (.func f), xs, ts⟩, ty, p, af, g⟩ = some v := by
  have h1 : execOp e.ev ⟨d, .call ⟨.value (.func f), xs, ts⟩, ty, p, af, g⟩ = callFunc f vs := by
    simp [execOp, resolve, ev_func, Deferred.ofValue, invoke, hx]
  unfold iplain
  dsimp only
  rw [h1, hr, if_pos]
  · simp [hv]
  · subst hx
    rw [Array.all_map] at hp
    simp only [Op.operands, Call.operands, ← Array.all_toList] at hp ⊢
    simpa [ev_func, plainV] using hp
end
/-- A slice argument whose elements lie in a heap. -/
def RowsAt (h : IHeap) (A : Option Addr) (vs : List Value) : Prop := vs ≠ [] → ∃ i o ro esz cs, A = some ⟨i, o, none⟩ ∧ h.get i = some (.row ro esz cs) ∧ ∀ (j : Nat) (b : Value), vs[j]? = some b → cs[o + j]? = some b
theorem RowsAt.at {h : IHeap} {A : Option Addr} {vs : List Value} (x : RowsAt h A vs) {j : Nat} (hj : j < vs.length) : ∃ i o ro esz cs, A = some ⟨i, o, none⟩ ∧ h.get i = some (.row ro esz cs) ∧ ∀ (j : Nat) (b : Value), vs[j]? = some b → cs[o + j]? = some b := x (by intro e; rw [e] at hj; simp at hj)
theorem RowsAt.old {h h' : IHeap} {A : Option Addr} {vs : List Value} (x : RowsAt h A vs) (k : ∀ i, i < h.size → h'.get i = h.get i) : RowsAt h' A vs := fun hv => by
  obtain ⟨i, o, ro, esz, cs, h1, h2, h3⟩ := x hv
  exact ⟨i, o, ro, esz, cs, h1, by rw [k i (IHeap.get_lt h2)]; exact h2, h3⟩
/-- An append to a whole row of one's own, of any elements, or of none. -/
theorem iapp_any {P : Program} {h : IHeap} {t t2 e : TypeId} {s b i n m : Nat} {z : Array Value} {x : Value} {news cs : List Value} (hs : slcOf P t = some (e, s)) (hz : zeroOf P e = some z) (hb : (P.info? e).map (·.bytes) = some b) (hzs : z.size = s) (hs0 : s ≠ 0) (hni : notInt P t2 = true)
    (hx : srcOf h s x = some (m, news)) (hall : news.all (·.oneCell') = true) (hm : news.length = m * s) (hsz : (n + m) * b ≤ 140737488355328 ∧ n + m ≤ 4611686018427387904) (hg : h.get i = some (.row false s cs)) (hl : cs.length = n * s) :
    ∃ h' j, iappend P h t t2 (.slice (some ⟨i, 0, none⟩) n n) x = some (.slice (some ⟨j, 0, none⟩) (n + m) (n + m), h') ∧ h'.get j = some (.row false s (cs ++ news)) ∧ (∀ k, k < h.size → k ≠ i → h'.get k = h.get k) ∧ h.size ≤ h'.size ∧ (j = i ∨ h.size ≤ j) := by
  have hi := IHeap.get_lt hg
  by_cases h0 : m = 0
  · subst h0
    obtain rfl : news = [] := List.eq_nil_of_length_eq_zero (by simpa using hm)
    exact ⟨h, i, by simpa using iapp_zero (q := 0) hs hz hb hzs hs0 hni hx (Nat.le_refl n), by simpa using hg, fun _ _ _ => rfl, Nat.le_refl _, .inl rfl⟩
  · refine ⟨_, h.size, iapp_grow (q := 0) hs hz hb hzs hs0 hni hx hall (by omega) hsz hg (.inr rfl) (slots_full _ (by rw [hl])), IHeap.get_pushed _ (by rw [IHeap.size_set']), fun k hk hki => ?_, by rw [IHeap.size_push', IHeap.size_set']; omega, .inr (Nat.le_refl _)⟩
    rw [IHeap.get_push_ne _ (by rw [IHeap.size_set']; omega), IHeap.get_set_ne _ (Ne.symm hki)]
end Go.Proofs.Ytmobpbhbllhdcaa.Ideal
end
noncomputable section
namespace Go.Proofs.Ytmobpbhbllhdcaa.Ideal
open Go.RowKit
set_option linter.unusedVariables false
set_option linter.unusedSimpArgs false
set_option linter.unnecessarySimpa false
set_option linter.unusedSectionVars false
variable {P : Program}
theorem pv_eqArr (d : Nat) (t te : TypeId) (len : Nat) (k k' : IntKind) (xs ys : List Int) (h : P.underlying t = some (.array len te)) (hte : P.underlying te = some (.int k')) (hag : pureVal P (isAgg te) = some false) (hsz : pureVal P (sizeOf te) = some 1) (hx : xs.length = len) (hy : ys.length = len) :
    pureVal P (Op.equalIn (d + 2) t (.agg ⟨xs.map (.int k)⟩) (.agg ⟨ys.map (.int k)⟩)) = some (decide (xs = ys)) := by
  obtain ⟨D, hD⟩ : ∃ D, d + 1 = D := ⟨_, rfl⟩
  rw [show d + 2 = D + 1 by omega]
  have ei : ∀ a b : Int, pureVal P (Op.equalIn D te (.int k a) (.int k b)) = some (a == b) := fun a b => by
    rw [← hD]; exact pv_eqInt d te k k' a b hte
  clear hD
  simp only [Op.equalIn]
  rw [pureVal_bind, pv_under h]
  simp only [Option.bind_some]
  rw [pureVal_bind, hsz]
  simp only [Option.bind_some, Nat.mul_one]
  rw [Std.Legacy.Range.forIn_eq_forIn_range']
  simp only [Std.Legacy.Range.size, Nat.sub_zero, Nat.add_sub_cancel, Nat.div_one]
  clear h
  have ha : ∀ j, j < 0 → xs[j]? = ys[j]? := fun j hj => by omega
  have hi : 0 + len = len := by omega
  obtain ⟨n, hn⟩ : ∃ n, n = len := ⟨_, rfl⟩
  rw [← hn]
  replace hi : 0 + n = len := by omega
  clear hn
  generalize (0 : Nat) = i at ha hi ⊢
  induction n generalizing i with
  | zero =>
    have : xs = ys := List.ext_getElem? fun j => by
      by_cases hj : j < i
      · exact ha j hj
      · rw [List.getElem?_eq_none (by omega), List.getElem?_eq_none (by omega)]
    subst this
    simp [pv_pure, pureVal_bind]
  | succ n ih =>
    have h1 : i < xs.length := by omega
    have h2 : i < ys.length := by omega
    have p1 : pureVal P (part te { toList := List.map (Value.int k) xs } i) = some (.int k xs[i]) := pv_isAgg hte _ hag rfl _ _ _ (by simp [h1])
    have p2 : pureVal P (part te { toList := List.map (Value.int k) ys } i) = some (.int k ys[i]) := pv_isAgg hte _ hag rfl _ _ _ (by simp [h2])
    have ih := fun hp => ih (i + 1) hp (by omega)
    rw [List.range'_succ]
    simp only [List.forIn_cons, pureVal_bind, p1, p2, ei, Option.bind_some] at ih ⊢
    by_cases e : xs[i] = ys[i]
    · have := ih (fun j hj => by
        by_cases hj2 : j = i
        · subst hj2; simp [h1, h2, e]
        · exact ha j (by omega))
      simp [e, pureVal_bind, pv_pure] at this ⊢
      exact this
    · have hne : xs ≠ ys := fun h => e (by subst h; rfl)
      have eb : (xs[i] == ys[i]) = false := by simpa using e
      simp [eb, pureVal_bind, pv_pure, hne]
theorem aggEq_arr {t te : TypeId} {len : Nat} {k k' : IntKind} {xs ys : List Int} (h : P.underlying t = some (.array len te)) (hte : P.underlying te = some (.int k')) (hag : pureVal P (isAgg te) = some false) (hsz : pureVal P (sizeOf te) = some 1) (hg : P.eqGuardType P.depth t = false) (hx : xs.length = len) (hy : ys.length = len) :
    aggEq P t .eql (.agg ⟨xs.map (.int k)⟩) (.agg ⟨ys.map (.int k)⟩) = some (.bool (decide (xs = ys))) ∧ aggEq P t .neq (.agg ⟨xs.map (.int k)⟩) (.agg ⟨ys.map (.int k)⟩) = some (.bool (!decide (xs = ys))) := by
  have e : pureVal P (Op.equal t (.agg ⟨xs.map (.int k)⟩) (.agg ⟨ys.map (.int k)⟩)) = some (decide (xs = ys)) := by
    show pureVal P (Op.equalIn 10000 t _ _) = _
    exact pv_eqArr 9998 t te len k k' xs ys h hte hag hsz hx hy
  have p1 : ∀ l : List Int, plainV (.agg ⟨l.map (.int k)⟩) = true := fun l => by simp [plainV, scal]
  constructor
  · unfold aggEq
    rw [if_pos ⟨hg, p1 _, p1 _⟩]
    simp only [e, Option.map_some]
  · unfold aggEq
    rw [if_pos ⟨hg, p1 _, p1 _⟩]
    simp only [e, Option.map_some]
/-- A slice of bytes as a string, of any length. -/
def strAny (P : Program) (h : IHeap) (s t : TypeId) (x : Value) : Option (Value × Kind) := match x with
  | .slice _ _ _ => (match icvt P h s t x with
    | some (v, _, some none) => some (v, .pure)
    | some (v, _, some (some i)) => some (v, .read i)
    | _ => none)
  | _ => none
variable {rd : Option Nat} {draw : Bool} {all : Array Oper} {os : List Oper} {e : XEnv} {h : IHeap}
variable (d : Option Tmp) (ty : TypeId) (p : String) (af : Array Edge) (g : Option (Nat × Bool)) [Q : Hid (XEnv → IHeap → Prop)] [E : Hid (List Ent)]
theorem wdo_strAny (s t : TypeId) (x : Operand) : wdo P draw all ⟨d, .convert s t x, ty, p, af, g⟩ os e h = jopt (strAny P h s t (e.ev x)) (R := ⟨jcvt P e ⟨d, .convert s t x, ty, p, af, g⟩ h (e.ev x) (P.underlying s) (P.underlying t) (K := ⟨fun v h' k => wnx P draw all os e d h v h' k⟩)⟩) (K := ⟨fun v k => wnx P draw all os e d h v h k⟩) := by
  rw [wdo_convert]
  unfold jopt
  split
  · rename_i r hr
    unfold strAny at hr
    split at hr
    · rename_i A n c hx
      split at hr
      · rename_i v h2 hv
        cases hr
        rw [hx] at hv
        have : h2 = h := by
          have := icvt_ok (P := P) (o := ⟨d, .convert s t (.const (.slice A n c)), ty, p, af, g⟩) (a := ⟨#[], []⟩) (x := .const (.slice A n c)) rfl hv
          exact this.1
        subst this
        simp [jcvt, hx, jgen, iop, hv, kindOf, Hid.ap_mk]
      · rename_i v h2 i hv
        cases hr
        rw [hx] at hv
        have : h2 = h := by
          have := icvt_ok (P := P) (o := ⟨d, .convert s t (.const (.slice A n c)), ty, p, af, g⟩) (a := ⟨#[], []⟩) (x := .const (.slice A n c)) rfl hv
          exact this.1
        subst this
        simp [jcvt, hx, jgen, iop, hv, kindOf, Hid.ap_mk]
      · cases hr
    · cases hr
  · simp [Hid.ap_mk]
/-- A whole array, cut as a slice. -/
def arrAll (P : Program) (t : TypeId) (x : Value) : Option (Value × Kind) := match x with
  | .pointer (some ⟨i, q, none⟩) => (match arrOf P t with
    | some (N, s) => if N ≠ 0 then some (.slice (some ⟨i, q, none⟩) N N, .pure) else none
    | none => none)
  | _ => none
theorem wdo_arrAll (t : TypeId) (x : Operand) : wdo P draw all ⟨d, .slice t x none none none, ty, p, af, g⟩ os e h = jopt (arrAll P t (e.ev x)) (R := ⟨jgen P e ⟨d, .slice t x none none none, ty, p, af, g⟩ h (K := ⟨fun v h' k => wnx P draw all os e d h v h' k⟩)⟩) (K := ⟨fun v k => wnx P draw all os e d h v h k⟩) := by
  have e1 : wdo P draw all ⟨d, .slice t x none none none, ty, p, af, g⟩ os e h = jgen P e ⟨d, .slice t x none none none, ty, p, af, g⟩ h (K := ⟨fun v h' k => wnx P draw all os e d h v h' k⟩) := byEq rfl
  rw [e1]
  unfold jopt
  split
  · rename_i r hr
    unfold arrAll at hr
    split at hr
    · rename_i i q hx
      split at hr
      · rename_i N s ha
        split at hr
        · rename_i h2
          cases hr
          have hb : bounds N N (none : Option Value) none none = some (0, N, N) := by simp [bounds, bnd]
          have hne : (N == 0) = false := by simpa using h2
          simp [jgen, iop, islice, hx, ipure, ha, hb, cutAddr, hne, kindOf, Hid.ap_mk]
        · cases hr
      · cases hr
    · cases hr
  · simp [Hid.ap_mk]
def strB (l : List Int) : ByteArray := if l = [] then ByteArray.empty else strOf l
omit Q E in
theorem strAny_nil {s t te : TypeId} (hs : P.underlying s = some (.slice te)) (ht : P.underlying t = some .string) (hu : isU8 P te = true) : strAny P h s t (.slice none 0 0) = some (.string (strB []), .pure) := by
  simp [strAny, icvt, hs, ht, hu, strB]
omit Q E in
theorem strAny_row {s t te : TypeId} {i q n c : Nat} {ro : Bool} {esz : Nat} {cs vs : List Value} {m : List Int} (hs : P.underlying s = some (.slice te)) (ht : P.underlying t = some .string) (hu : isU8 P te = true) (hg : h.get i = some (.row ro esz cs)) (hv : slots cs q n = some vs) (hm : intsOf vs = some m) (hl : m.length = n) :
    ∃ k, (k = .pure ∨ k = .read i) ∧ strAny P h s t (.slice (some ⟨i, q, none⟩) n c) = some (.string (strB m), k) := by
  by_cases h0 : n = 0
  · have : m = [] := List.eq_nil_of_length_eq_zero (by omega)
    subst this
    exact ⟨.pure, .inl rfl, by simp [strAny, icvt, hs, ht, hu, h0, strB]⟩
  · have : m ≠ [] := by intro e; rw [e] at hl; simp at hl; omega
    exact ⟨.read i, .inr rfl, by simp [strAny, icvt, hs, ht, hu, h0, hg, hv, hm, strB, this]⟩
end Go.Proofs.Ytmobpbhbllhdcaa.Ideal
end
noncomputable section
namespace Go.Proofs.Ytmobpbhbllhdcaa.Ideal
open Go.RowKit
set_option linter.unusedVariables false
set_option linter.unusedSimpArgs false
set_option linter.unnecessarySimpa false
/-- Rows of the caller's, one behind the other. -/
def roN (rows : List (List Value)) : IHeap := rows.foldl (fun h cs => h.push (.row true 0 cs)) noHeap
theorem roN_snoc (rows : List (List Value)) (cs : List Value) : roN (rows ++ [cs]) = (roN rows).push (.row true 0 cs) := by
  simp [roN]
theorem roN_size : ∀ rows : List (List Value), (roN rows).size = rows.length := by
  intro rows
  unfold roN
  have key : ∀ (rows : List (List Value)) (h : IHeap), (rows.foldl (fun h cs => h.push (.row true 0 cs)) h).size = h.size + rows.length := by
    intro rows
    induction rows with
    | nil => intro h; rfl
    | cons r rows ih =>
      intro h
      rw [List.foldl_cons, ih, IHeap.size_push, List.length_cons]
      omega
  rw [key]
  show 0 + rows.length = rows.length
  omega
theorem roN_get {rows : List (List Value)} {i : Nat} {cs : List Value} (hi : rows[i]? = some cs) : (roN rows).get i = some (.row true 0 cs) := by
  have key : ∀ (rows : List (List Value)) (h : IHeap), ∀ i, ((rows.foldl (fun h cs => h.push (.row true 0 cs)) h).get i = if i < h.size then h.get i else (rows[i - h.size]?).map (fun cs => IObj.row true 0 cs)) := by
    intro rows
    induction rows with
    | nil =>
      intro h i
      rw [List.foldl_nil]
      split
      · rfl
      · rename_i hh
        rw [IHeap.get_none (by omega)]
        simp
    | cons r rows ih =>
      intro h i
      rw [List.foldl_cons, ih, IHeap.size_push]
      by_cases h1 : i < h.size
      · rw [if_pos (by omega), if_pos h1, IHeap.get_push_ne _ (by omega)]
      · rw [if_neg h1]
        by_cases h2 : i = h.size
        · subst h2
          rw [if_pos (by omega), IHeap.get_pushed _ rfl]
          simp
        · rw [if_neg (by omega), show i - h.size = (i - (h.size + 1)) + 1 by omega]
          simp
  unfold roN
  rw [key]
  rw [if_neg (by show ¬ i < 0; omega)]
  show (rows[i - 0]?).map _ = _
  rw [Nat.sub_zero, hi]
  rfl
theorem roN_inv {rows : List (List Value)} {i : Nat} {o : IObj} (h : (roN rows).get i = some o) : ∃ cs, rows[i]? = some cs ∧ o = .row true 0 cs := by
  have hl := IHeap.get_lt h
  rw [roN_size] at hl
  have := roN_get (rows := rows) (i := i) (List.getElem?_eq_getElem hl)
  rw [this] at h
  exact ⟨_, List.getElem?_eq_getElem hl, (Option.some.inj h).symm⟩
def rhoN (ps : List (Option RoPl)) : Rho := fun i => (ps[i]?.join).map (fun p => ⟨p.b, p.q, p.room, 0⟩)
theorem rhoN_at {ps : List (Option RoPl)} {i : Nat} {p : Option RoPl} (h : ps[i]? = some p) : rhoN ps i = p.map (fun p => ⟨p.b, p.q, p.room, 0⟩) := by
  unfold rhoN
  rw [h]
  rfl
theorem rhoN_inv {ps : List (Option RoPl)} {i : Nat} {R : Ren} (h : rhoN ps i = some R) : ∃ p, ps[i]? = some (some p) ∧ R = ⟨p.b, p.q, p.room, 0⟩ := by
  unfold rhoN at h
  obtain ⟨p, hp, rfl⟩ := Option.map_eq_some_iff.1 h
  refine ⟨p, ?_, rfl⟩
  cases hh : ps[i]? with
  | none => rw [hh] at hp; cases hp
  | some x =>
    rw [hh] at hp
    cases hp
    rfl
theorem rhoN_out {ps : List (Option RoPl)} {i : Nat} (h : ps.length ≤ i) : rhoN ps i = none := by
  unfold rhoN
  rw [List.getElem?_eq_none h]
  rfl
/-- What lies at a place, whatever it is. -/
def RoPl.Real (W : World) (p : RoPl) (cs : List Value) : Prop := ∃ (c : Array Value) (e : TypeId) (fr : Nat × Nat), W.heap[p.b]? = some (.cells c e fr) ∧ p.room = c.size ∧ p.q + cs.length ≤ c.size ∧ ∀ (i : Nat) (v : Value), cs[i]? = some v → c[p.q + i]? = some v
/-- Rows whose cells the places bear, up to where slices lie. -/
theorem roN_models {W : World} {ps : List (Option RoPl)} {rows : List (List Value)} (hl : ps.length = rows.length)
    (hb : ∀ (i : Nat) (cs : List Value) (p : RoPl), rows[i]? = some cs → ps[i]? = some (some p) → ∃ cs', p.Real W cs' ∧ LRel (rhoN ps) cs cs') : Models (rhoN ps) (roN rows) W := by
  refine ⟨fun i R o hg hr => ?_, fun i j R R' h1 h2 he d1 d2 => ?_, fun i R hr => ?_⟩
  · obtain ⟨cs, hc, rfl⟩ := roN_inv hg
    obtain ⟨p, hp, rfl⟩ := rhoN_inv hr
    obtain ⟨cs', ⟨c, e, fr, h1, h2, h3, h4⟩, hr2⟩ := hb i cs p hc hp
    refine ⟨_, h1, .row (fun h => by cases h) rfl h2.symm (by rw [hr2.1]; exact h3) (fun k v hv => ?_)⟩
    obtain ⟨v', g1, g2⟩ := hr2.2 k v hv
    exact ⟨v', h4 k v' g1, g2⟩
  · have two : ∀ k R, rhoN ps k = some R → RoO ((roN rows).get k) := by
      intro k R hk
      obtain ⟨p, hp, _⟩ := rhoN_inv hk
      have hk2 : k < rows.length := by rw [← hl]; exact (List.getElem?_eq_some_iff.1 hp).1
      exact ⟨_, roN_get (List.getElem?_eq_getElem hk2), rfl⟩
    exact .inr ⟨two i R h1, two j R' h2⟩
  · obtain ⟨p, hp, rfl⟩ := rhoN_inv hr
    have hk2 : i < rows.length := by rw [← hl]; exact (List.getElem?_eq_some_iff.1 hp).1
    obtain ⟨cs', ⟨c, e, fr, h1, _⟩, _⟩ := hb i _ p (List.getElem?_eq_getElem hk2) hp
    exact (Array.getElem?_eq_some_iff.1 h1).1
theorem roN_only {rows : List (List Value)} : ∀ i o, (roN rows).get i = some o → o.isRo = true ∨ o = .dead := fun i o hg => by
  obtain ⟨cs, _, rfl⟩ := roN_inv hg
  exact .inl rfl
end Go.Proofs.Ytmobpbhbllhdcaa.Ideal
end
