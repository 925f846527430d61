import Derived.Test.YtkecaobcchnilaaP09c
noncomputable section
namespace Go.Proofs.Ytkecaobcchnilaa.Ideal
set_option linter.unusedSimpArgs false
set_option linter.unusedVariables false
set_option linter.unusedSectionVars false
set_option linter.unnecessarySimpa false
/-- The free cells, one behind the other. -/
inductive Chain (cs : List (Int × Int)) : Int → List Nat → Prop
  | nil : Chain cs (-1) []
  | cons {k : Nat} {c : Int × Int} {L : List Nat} : cs[k]? = some c → c.1 = 0 → Chain cs c.2 L → Chain cs k (k :: L)
theorem Chain.set {cs : List (Int × Int)} {f : Int} {L : List Nat} (h : Chain cs f L) {k : Nat} (hk : k ∉ L) (x : Int × Int) : Chain (cs.set k x) f L := by
  induction h with
  | nil => exact .nil
  | @cons j c M h1 h2 h3 ih =>
    simp only [List.mem_cons, not_or] at hk
    refine .cons ?_ h2 (ih hk.2)
    rw [List.getElem?_set_ne hk.1]; exact h1
theorem Chain.app {cs : List (Int × Int)} {f : Int} {L : List Nat} (h : Chain cs f L) (x : Int × Int) : Chain (cs ++ [x]) f L := by
  induction h with
  | nil => exact .nil
  | @cons j c M h1 h2 h3 ih =>
    refine .cons ?_ h2 ih
    rw [List.getElem?_append_left (List.getElem?_eq_some_iff.1 h1).1]; exact h1
theorem Chain.lt {cs : List (Int × Int)} {f : Int} {L : List Nat} (h : Chain cs f L) : ∀ k ∈ L, k < cs.length := by
  induction h with
  | nil => simp
  | @cons j c M g1 g2 g3 ih =>
    intro k hk
    rcases List.mem_cons.1 hk with rfl | hk
    · exact (List.getElem?_eq_some_iff.1 g1).1
    · exact ih k hk
theorem lives_iff (a : AR) (i s : Int) : a.lives i s = true ↔ 0 < s ∧ ∃ (k : Nat) (c : Int × Int), i = k ∧ a.cs[k]? = some c ∧ c.1 = s := by
  simp only [AR.lives, Bool.and_eq_true, decide_eq_true_eq, beq_iff_eq]
  constructor
  · rintro ⟨⟨⟨h1, h2⟩, h3⟩, h4⟩
    have h5 : i.toNat < a.cs.length := by omega
    refine ⟨h1, i.toNat, a.cs[i.toNat], by omega, by simp [h5], ?_⟩
    rw [← h4]; simp [h5]
  · rintro ⟨h1, k, c, rfl, h2, h3⟩
    have h5 : k < a.cs.length := (List.getElem?_eq_some_iff.1 h2).1
    refine ⟨⟨⟨h1, by omega⟩, by omega⟩, ?_⟩
    simp [List.getD, h2, h3]
/-- What holds of an arena, all handles it told, and those that are freed. -/
structure AInv (n : Int) (a : AR) (all G : List (Int × Int)) (L : List Nat) : Prop where
  hn : 1 ≤ n ∧ n ≤ 60
  size : a.size = n
  len : (a.cs.length : Int) ≤ n
  ser : a.ser = all.length
  serial : ∀ (j : Nat) (h : Int × Int), all[j]? = some h → h.2 = j + 1
  lives : ∀ h ∈ all, (a.lives h.1 h.2 = true ↔ h ∉ G)
  chain : Chain a.cs a.free L
  nodup : L.Nodup
  zero : ∀ (k : Nat) (c : Int × Int), a.cs[k]? = some c → (c.1 = 0 ↔ k ∈ L)
  live : a.live = a.cs.length - L.length
  sub : ∀ g ∈ G, g ∈ all
  gnd : G.Nodup
  count : a.live = all.length - G.length
theorem AInv.new {n : Int} (hn : 1 ≤ n ∧ n ≤ 60) : AInv n (newAR n) [] [] [] := by
  refine ⟨hn, rfl, ?_, rfl, ?_, ?_, .nil, ?_, ?_, rfl, ?_, ?_, rfl⟩ <;> simp [newAR]
  omega
theorem AInv.bound {n : Int} {a : AR} {all G : List (Int × Int)} {L : List Nat} (x : AInv n a all G L) {h : Int × Int} (hh : h ∈ all) : 1 ≤ h.2 ∧ h.2 ≤ a.ser := by
  obtain ⟨j, hj, rfl⟩ := List.getElem_of_mem hh
  have := x.serial j _ (List.getElem?_eq_getElem hj)
  rw [this, x.ser]; omega
theorem AInv.ok {n : Int} {a : AR} {all G : List (Int × Int)} {L : List Nat} (x : AInv n a all G L) (hl : all.length < 1000) : a.ok := by
  have h1 := x.hn
  have h2 := x.len
  have h3 := x.size
  have h4 := x.ser
  have h5 := x.live
  have h6 := x.count
  have hf : -1 ≤ a.free ∧ a.free < a.cs.length := by
    have hc := x.chain
    generalize a.free = f at hc
    cases hc with
    | nil => omega
    | cons g1 g2 g3 =>
      have := (List.getElem?_eq_some_iff.1 g1).1
      omega
  have hL : L.length ≤ a.cs.length := by
    have hm := x.chain.lt
    have := List.Nodup.length_le_of_subset x.nodup (l₂ := List.range a.cs.length) (fun k hk => List.mem_range.2 (hm k hk))
    simpa using this
  exact ⟨by omega, by omega, hf, by omega, by omega⟩
/-- A Take that tells a handle. -/
theorem AInv.take {n : Int} {a : AR} {all G : List (Int × Int)} {L : List Nat} (x : AInv n a all G L) {i : Int} (hi : a.take.2 = some i) : ∃ L', AInv n a.take.1 (all ++ [(i, a.ser + 1)]) G L' := by
  have hnew : ∀ g ∈ G, g.2 ≤ a.ser := fun g hg => (x.bound (x.sub g hg)).2
  have hser : 0 ≤ a.ser := by rw [x.ser]; omega
  have hnG : ∀ k : Int, (k, a.ser + 1) ∉ G := fun k hk => by have := hnew _ hk; simp at this; omega
  have hserial : ∀ k : Int, ∀ (j : Nat) (h : Int × Int), (all ++ [(k, a.ser + 1)])[j]? = some h → h.2 = j + 1 := by
    intro k j h hj
    rcases Nat.lt_or_ge j all.length with hl | hl
    · rw [List.getElem?_append_left hl] at hj; exact x.serial j h hj
    · rw [List.getElem?_append_right hl] at hj
      have h0 : j - all.length = 0 := by
        have := (List.getElem?_eq_some_iff.1 hj).1
        simp at this; omega
      rw [h0] at hj; simp at hj; subst hj
      simp only [x.ser]; omega
  by_cases h1 : 0 ≤ a.free
  · have hc := x.chain
    generalize hf : a.free = f at hc
    cases hc with
    | nil => omega
    | @cons k c M g1 g2 g3 =>
      have hkl := (List.getElem?_eq_some_iff.1 g1).1
      have hnd := x.nodup
      rw [List.nodup_cons] at hnd
      have e1 : a.take = ({ a with cs := a.cs.set k (a.ser + 1, 0), free := c.2, ser := a.ser + 1, live := a.live + 1 }, some (k : Int)) := by
        simp [AR.take, hf, List.getD, g1]
      rw [e1] at hi ⊢
      simp only [Option.some.injEq] at hi
      subst hi
      have hg : ∀ (j : Nat) (d : Int × Int), (a.cs.set k (a.ser + 1, 0))[j]? = some d → (j = k ∧ d = (a.ser + 1, 0)) ∨ (j ≠ k ∧ a.cs[j]? = some d) := by
        intro j d hj
        by_cases hjk : k = j
        · subst hjk
          rw [List.getElem?_set_self hkl] at hj
          exact .inl ⟨rfl, (Option.some.inj hj).symm⟩
        · rw [List.getElem?_set_ne hjk] at hj
          exact .inr ⟨fun h => hjk h.symm, hj⟩
      refine ⟨M, x.hn, x.size, by simpa using x.len, by simp [x.ser], hserial k, ?_, g3.set hnd.1 _, hnd.2, ?_, ?_, ?_, x.gnd, ?_⟩
      · intro h hh
        rw [lives_iff]
        rcases List.mem_append.1 hh with hh | hh
        · have hb := x.bound hh
          rw [← x.lives h hh, lives_iff]
          constructor
          · rintro ⟨p1, j, d, p2, p3, p4⟩
            rcases hg j d p3 with ⟨_, rfl⟩ | ⟨_, p5⟩
            · simp at p4; omega
            · exact ⟨p1, j, d, p2, p5, p4⟩
          · rintro ⟨p1, j, d, p2, p3, p4⟩
            refine ⟨p1, j, d, p2, ?_, p4⟩
            have : k ≠ j := by
              rintro rfl
              rw [g1] at p3; cases p3; omega
            show (a.cs.set k _)[j]? = _
            rw [List.getElem?_set_ne this]; exact p3
        · simp only [List.mem_singleton] at hh
          subst hh
          refine ⟨fun _ => hnG _, fun _ => ⟨by show 0 < a.ser + 1; omega, k, (a.ser + 1, 0), rfl, ?_, rfl⟩⟩
          exact List.getElem?_set_self hkl
      · intro j d hj
        rcases hg j d hj with ⟨rfl, rfl⟩ | ⟨p1, p2⟩
        · simp only [hnd.1, iff_false]; omega
        · rw [x.zero j d p2]
          simp [p1]
      · have := x.live
        simp at this ⊢; omega
      · intro g hg; exact List.mem_append_left _ (x.sub g hg)
      · have := x.count
        simp; omega
  · by_cases h2 : (a.cs.length : Int) = a.size
    · simp [AR.take, h1, h2] at hi
    · have e1 : a.take = ({ a with cs := a.cs ++ [(a.ser + 1, 0)], ser := a.ser + 1, live := a.live + 1 }, some (a.cs.length : Int)) := by
        simp [AR.take, h1, h2]
      rw [e1] at hi ⊢
      simp only [Option.some.injEq] at hi
      subst hi
      have hg : ∀ (j : Nat) (d : Int × Int), (a.cs ++ [(a.ser + 1, 0)])[j]? = some d → (j = a.cs.length ∧ d = (a.ser + 1, 0)) ∨ a.cs[j]? = some d := by
        intro j d hj
        rcases Nat.lt_or_ge j a.cs.length with hl | hl
        · rw [List.getElem?_append_left hl] at hj; exact .inr hj
        · rw [List.getElem?_append_right hl] at hj
          have h0 : j - a.cs.length = 0 := by
            have := (List.getElem?_eq_some_iff.1 hj).1
            simp at this; omega
          rw [h0] at hj; simp at hj
          exact .inl ⟨by omega, hj.symm⟩
      have hsz := x.size
      have hlen := x.len
      refine ⟨L, x.hn, x.size, by simp; omega, by simp [x.ser], hserial _, ?_, x.chain.app _, x.nodup, ?_, ?_, ?_, x.gnd, ?_⟩
      · intro h hh
        rw [lives_iff]
        rcases List.mem_append.1 hh with hh | hh
        · have hb := x.bound hh
          rw [← x.lives h hh, lives_iff]
          constructor
          · rintro ⟨p1, j, d, p2, p3, p4⟩
            rcases hg j d p3 with ⟨_, rfl⟩ | p5
            · simp at p4; omega
            · exact ⟨p1, j, d, p2, p5, p4⟩
          · rintro ⟨p1, j, d, p2, p3, p4⟩
            refine ⟨p1, j, d, p2, ?_, p4⟩
            show (a.cs ++ _)[j]? = _
            rw [List.getElem?_append_left (List.getElem?_eq_some_iff.1 p3).1]; exact p3
        · simp only [List.mem_singleton] at hh
          subst hh
          refine ⟨fun _ => hnG _, fun _ => ⟨by show 0 < a.ser + 1; omega, a.cs.length, (a.ser + 1, 0), rfl, ?_, rfl⟩⟩
          show (a.cs ++ _)[a.cs.length]? = _
          simp
      · intro j d hj
        rcases hg j d hj with ⟨rfl, rfl⟩ | p2
        · have : a.cs.length ∉ L := fun h => by have := x.chain.lt _ h; omega
          simp only [this, iff_false]; omega
        · exact x.zero j d p2
      · have := x.live
        simp; omega
      · intro g hg; exact List.mem_append_left _ (x.sub g hg)
      · have := x.count
        simp; omega
/-- A full one. -/
theorem AInv.full {n : Int} {a : AR} {all G : List (Int × Int)} {L : List Nat} (x : AInv n a all G L) (hi : a.take.2 = none) : a.take.1 = a ∧ a.live = n := by
  unfold AR.take at hi ⊢
  split at hi
  · cases hi
  · rename_i h1
    split at hi
    · rename_i h2
      rw [if_neg h1, if_pos h2]
      refine ⟨rfl, ?_⟩
      have hc := x.chain
      generalize hf : a.free = f at hc
      cases hc with
      | nil =>
        have h3 := x.live
        have h4 := x.size
        simp at h3
        omega
      | cons g1 g2 g3 => omega
    · cases hi
/-- A handle is freed. -/
theorem AInv.drop {n : Int} {a : AR} {all G : List (Int × Int)} {L : List Nat} (x : AInv n a all G L) {h : Int × Int} (hh : h ∈ all) (hl : a.lives h.1 h.2 = true) : ∃ L', AInv n (a.drop h.1 h.2) all (h :: G) L' := by
  have hl2 := hl
  rw [lives_iff] at hl2
  obtain ⟨q1, k, c, q2, q3, q4⟩ := hl2
  have hkl := (List.getElem?_eq_some_iff.1 q3).1
  have hG := (x.lives h hh).1 hl
  have hkL : k ∉ L := fun hk => by have := (x.zero k c q3).2 hk; omega
  have e1 : a.drop h.1 h.2 = { a with cs := a.cs.set k (0, a.free), free := (k : Int), live := a.live - 1 } := by
    unfold AR.drop
    rw [if_pos hl]
    simp [AR.freed, q2]
  rw [e1]
  have hg : ∀ (j : Nat) (d : Int × Int), (a.cs.set k (0, a.free))[j]? = some d → (j = k ∧ d = (0, a.free)) ∨ (j ≠ k ∧ a.cs[j]? = some d) := by
    intro j d hj
    by_cases hjk : k = j
    · subst hjk
      rw [List.getElem?_set_self hkl] at hj
      exact .inl ⟨rfl, (Option.some.inj hj).symm⟩
    · rw [List.getElem?_set_ne hjk] at hj
      exact .inr ⟨fun h => hjk h.symm, hj⟩
  have hgl := List.Nodup.length_le_of_subset (l₁ := h :: G) (l₂ := all) (List.nodup_cons.2 ⟨hG, x.gnd⟩) (fun g hg => by
    rcases List.mem_cons.1 hg with rfl | hg
    · exact hh
    · exact x.sub g hg)
  refine ⟨k :: L, x.hn, x.size, by simpa using x.len, x.ser, x.serial, ?_, .cons (c := (0, a.free)) (List.getElem?_set_self hkl) rfl (x.chain.set hkL _), List.nodup_cons.2 ⟨hkL, x.nodup⟩, ?_, ?_, ?_, List.nodup_cons.2 ⟨hG, x.gnd⟩, ?_⟩
  · intro g hg2
    rw [lives_iff, List.mem_cons, not_or, ← x.lives g hg2, lives_iff]
    constructor
    · rintro ⟨p1, j, d, p2, p3, p4⟩
      rcases hg j d p3 with ⟨_, rfl⟩ | ⟨p5, p6⟩
      · simp at p4; omega
      · refine ⟨fun e => ?_, p1, j, d, p2, p6, p4⟩
        subst e; omega
    · rintro ⟨p0, p1, j, d, p2, p3, p4⟩
      refine ⟨p1, j, d, p2, ?_, p4⟩
      have : k ≠ j := by
        rintro rfl
        rw [q3] at p3; cases p3
        exact p0 (Prod.ext (by omega) (by omega))
      show (a.cs.set k _)[j]? = _
      rw [List.getElem?_set_ne this]; exact p3
  · intro j d hj
    rcases hg j d hj with ⟨rfl, rfl⟩ | ⟨p1, p2⟩
    · simp
    · rw [x.zero j d p2]
      simp [p1]
  · have := x.live
    simp; omega
  · intro g hg2
    rcases List.mem_cons.1 hg2 with rfl | hg2
    · exact hh
    · exact x.sub g hg2
  · have := x.count
    simp; omega
/-- One that is not live is left. -/
theorem AInv.left {n : Int} {a : AR} {all G : List (Int × Int)} {L : List Nat} (x : AInv n a all G L) {h : Int × Int} (hh : h ∈ all) (hl : a.lives h.1 h.2 = false) : a.drop h.1 h.2 = a ∧ h ∈ G := by
  refine ⟨by simp [AR.drop, hl], ?_⟩
  have := x.lives h hh
  rw [hl] at this
  exact Classical.not_not.1 (fun hn => by have := this.2 hn; cases this)
/-- Two live ones that have one index are one. -/
theorem AInv.index {n : Int} {a : AR} {all G : List (Int × Int)} {L : List Nat} (x : AInv n a all G L) {g h : Int × Int} (hg : g ∈ all) (hh : h ∈ all) (g1 : g ∉ G) (h1 : h ∉ G) (e : g.1 = h.1) : g = h := by
  have a1 := (x.lives g hg).2 g1
  have a2 := (x.lives h hh).2 h1
  rw [lives_iff] at a1 a2
  obtain ⟨_, k, c, p1, p2, p3⟩ := a1
  obtain ⟨_, j, d, q1, q2, q3⟩ := a2
  obtain rfl : k = j := by omega
  rw [p2] at q2; cases q2
  exact Prod.ext e (by omega)
/-- All are one each. -/
theorem AInv.once {n : Int} {a : AR} {all G : List (Int × Int)} {L : List Nat} (x : AInv n a all G L) {i j : Nat} {h : Int × Int} (hi : all[i]? = some h) (hj : all[j]? = some h) : i = j := by
  have h1 := x.serial i h hi
  have h2 := x.serial j h hj
  omega
end Go.Proofs.Ytkecaobcchnilaa.Ideal
