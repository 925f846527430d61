import Derived.Test.YtkecaobcchnilaaP09j
noncomputable section
namespace Go.Proofs.Ytkecaobcchnilaa.Ideal
set_option linter.unusedSimpArgs false
set_option linter.unusedVariables false
set_option linter.unusedSectionVars false
set_option linter.unnecessarySimpa false
theorem allI_count : ∀ (l : List Int) (k : Nat), (allI l k).length = l.countP (fun x => decide (0 < x))
  | [], k => rfl
  | x :: l, k => by
    have := allI_count l (k + 1)
    simp only [allI, List.countP_cons]
    split <;> rename_i h <;> simp [h, this]
/-- Both arenas have the same in them. -/
structure Rel (t : Nat) (a : AR) (w : RA) (L : List Nat) : Prop where
  hn : 1 ≤ a.size ∧ a.size ≤ 100
  len : (a.cs.length : Int) ≤ a.size
  has : w.has = a.cs.map (·.1) ++ List.replicate (a.size.toNat - a.cs.length) 0
  ser : w.ser = a.ser
  serb : 0 ≤ a.ser ∧ a.ser ≤ t
  pos : ∀ c ∈ a.cs, 0 ≤ c.1
  chain : Chain a.cs a.free L
  freed : w.freed.reverse = L.map (fun (k : Nat) => (k : Int))
  nodup : L.Nodup
  zero : ∀ (k : Nat) (c : Int × Int), a.cs[k]? = some c → (c.1 = 0 ↔ k ∈ L)
  live : a.live = ((a.cs.map (·.1)).countP (fun x => decide (0 < x)) : Nat)
theorem Rel.new {n : Nat} (hn : 1 ≤ n ∧ n ≤ 100) : Rel 0 (newAR n) (newRA n) [] := by
  refine ⟨by simp [newAR]; omega, by simp [newAR], by simp [newAR, newRA], rfl, by simp [newAR], by simp [newAR], .nil, rfl, by simp, by simp [newAR], by simp [newAR]⟩
theorem Rel.mono {t u : Nat} {a : AR} {w : RA} {L : List Nat} (x : Rel t a w L) (h : t ≤ u) : Rel u a w L :=
  ⟨x.hn, x.len, x.has, x.ser, ⟨x.serb.1, by have := x.serb.2; omega⟩, x.pos, x.chain, x.freed, x.nodup, x.zero, x.live⟩
theorem Rel.hlen {t : Nat} {a : AR} {w : RA} {L : List Nat} (x : Rel t a w L) : a.size = w.has.length := by
  have h1 := x.hn
  have h2 := x.len
  rw [x.has]
  simp only [List.length_append, List.length_map, List.length_replicate]
  omega
theorem Rel.Llen {t : Nat} {a : AR} {w : RA} {L : List Nat} (x : Rel t a w L) : L.length ≤ a.cs.length := by
  have := List.Nodup.length_le_of_subset x.nodup (l₂ := List.range a.cs.length) (fun k hk => List.mem_range.2 (x.chain.lt k hk))
  simpa using this
theorem Rel.aok {t : Nat} {a : AR} {w : RA} {L : List Nat} (x : Rel t a w L) (ht : t ≤ 1000) : a.ok := by
  have h1 := x.hn
  have h2 := x.len
  have h3 := x.serb
  have hf : -1 ≤ a.free ∧ a.free < a.cs.length := by
    have hc := x.chain
    generalize a.free = f at hc
    cases hc with
    | nil => omega
    | cons g1 g2 g3 =>
      have := (List.getElem?_eq_some_iff.1 g1).1
      omega
  have h4 := x.live
  have h5 := List.countP_le_length (l := a.cs.map (·.1)) (p := fun x => decide (0 < x))
  simp only [List.length_map] at h5
  exact ⟨by omega, by omega, hf, by omega, by omega⟩
theorem Rel.wok {t : Nat} {a : AR} {w : RA} {L : List Nat} (x : Rel t a w L) (ht : t ≤ 1000) : w.ok := by
  have h1 := x.hn
  have h2 := x.hlen
  have h3 := x.serb
  have h4 := x.ser
  have h5 := x.Llen
  have h6 := x.len
  have hfl : w.freed.length = L.length := by rw [← List.length_reverse, x.freed]; simp
  refine ⟨by omega, fun f hf => ?_, by omega, by omega⟩
  have : f ∈ w.freed.reverse := List.mem_reverse.2 hf
  rw [x.freed] at this
  obtain ⟨k, hk, rfl⟩ := List.mem_map.1 this
  have := x.chain.lt k hk
  omega
theorem Rel.getD {t : Nat} {a : AR} {w : RA} {L : List Nat} (x : Rel t a w L) (k : Nat) : w.has.getD k 0 = (a.cs.getD k (0, 0)).1 := by
  rw [x.has]
  simp only [List.getD_eq_getElem?_getD, List.getElem?_append, List.length_map, List.getElem?_map]
  split
  · rename_i h; simp [h]
  · rename_i h
    rw [List.getElem?_eq_none (show a.cs.length ≤ k by omega)]
    simp only [List.getElem?_replicate]
    split <;> rfl
theorem Rel.lives {t : Nat} {a : AR} {w : RA} {L : List Nat} (x : Rel t a w L) (i s : Int) (hs : 0 ≤ s) : a.lives i s = w.lives i s := by
  have h1 := x.hlen
  have h2 := x.len
  unfold AR.lives RA.lives
  by_cases h3 : 0 ≤ i
  · obtain ⟨k, rfl⟩ : ∃ k : Nat, i = k := ⟨i.toNat, by omega⟩
    have := x.getD k
    simp only [Int.toNat_natCast]
    by_cases h4 : k < a.cs.length
    · have h5 : (k : Int) < w.has.length := by omega
      have h6 : (k : Int) < a.cs.length := by omega
      rw [this]
      by_cases h7 : s = 0
      · simp [h7]
      · have h8 : 0 < s := by omega
        simp [h3, h5, h6, h7, h8, h4]
    · have h6 : ¬ (k : Int) < a.cs.length := by omega
      rw [this]
      have h9 : (a.cs.getD k (0, 0)).1 = 0 := by rw [List.getD_eq_getElem?_getD, List.getElem?_eq_none (by omega)]; rfl
      rw [h9]
      by_cases h7 : s = 0
      · simp [h7]
      · have : ¬ (0 : Int) = s := by omega
        simp [h6, this, h4]
  · simp [h3]
theorem Rel.same {t : Nat} {a : AR} {w : RA} {L : List Nat} (x : Rel t a w L) : Same a w := by
  refine ⟨x.hlen, ?_, fun k => ?_, x.lives, fun y hy => ?_⟩
  · rw [allI_count, x.has, x.live, List.countP_append]
    simp [List.countP_replicate]
  · rw [x.getD k]; simp [AR.get]
  · rw [x.has] at hy
    rcases List.mem_append.1 hy with hy | hy
    · obtain ⟨c, hc, rfl⟩ := List.mem_map.1 hy
      exact x.pos c hc
    · have := List.eq_of_mem_replicate hy; omega
theorem setc {cs : List (Int × Int)} {k : Nat} (x : Int × Int) (m : Nat) (h : k < cs.length) : (cs.map (·.1) ++ List.replicate m (0 : Int)).set k x.1 = (cs.set k x).map (·.1) ++ List.replicate m (0 : Int) := by
  rw [List.set_append_left _ _ (by simpa using h), ← List.map_set]
theorem gset {cs : List (Int × Int)} {k : Nat} {x : Int × Int} (hk : k < cs.length) (j : Nat) (d : Int × Int) (hj : (cs.set k x)[j]? = some d) : (j = k ∧ d = x) ∨ (j ≠ k ∧ cs[j]? = some d) := by
  by_cases hjk : k = j
  · subst hjk
    rw [List.getElem?_set_self hk] at hj
    exact .inl ⟨rfl, (Option.some.inj hj).symm⟩
  · rw [List.getElem?_set_ne hjk] at hj
    exact .inr ⟨fun h => hjk h.symm, hj⟩
theorem Rel.take {t : Nat} {a : AR} {w : RA} {L : List Nat} (x : Rel t a w L) : a.takeV = w.takeV ∧ ∃ L', Rel (t + 1) a.take.1 w.take.1 L' := by
  have hn := x.hn
  have hlen := x.len
  have hs := x.serb
  have hser := x.ser
  by_cases h1 : 0 ≤ a.free
  · have hc := x.chain
    generalize hf : a.free = f at hc
    cases hc with
    | nil => omega
    | @cons k c M g1 g2 g3 =>
      have hkl := (List.getElem?_eq_some_iff.1 g1).1
      have hnd := x.nodup
      rw [List.nodup_cons] at hnd
      have hfr := x.freed
      simp only [List.map_cons] at hfr
      have hlast : w.freed.getLast? = some (k : Int) := by
        rw [List.getLast?_eq_head?_reverse, hfr]; rfl
      have hw : w.which = k := by simp [RA.which, hlast]
      have hdl : w.freed.dropLast.reverse = M.map (fun (k : Nat) => (k : Int)) := by
        have := congrArg List.tail hfr
        simpa [List.tail_reverse] using this
      have e1 : a.take = ({ a with cs := a.cs.set k (a.ser + 1, 0), free := c.2, ser := a.ser + 1, live := a.live + 1 }, some (k : Int)) := by
        simp [AR.take, hf, List.getD, g1]
      have hkn : ¬ (k : Int) < 0 := by omega
      have e2 : w.take = ({ has := w.has.set k (w.ser + 1), freed := w.freed.dropLast, ser := w.ser + 1 }, some (k : Int)) := by
        simp [RA.take, hw, hkn]
      refine ⟨by simp [AR.takeV, RA.takeV, e1, e2, hser], M, ?_⟩
      rw [e1, e2]
      refine ⟨hn, by simpa using hlen, ?_, by simp [hser], by simp; omega, ?_, g3.set hnd.1 _, hdl, hnd.2, ?_, ?_⟩
      · simp only [List.length_set, hser]
        rw [x.has, setc (a.ser + 1, 0) _ hkl]
      · intro d hd
        rcases List.mem_or_eq_of_mem_set hd with h | h
        · exact x.pos d h
        · subst h; simp; omega
      · intro j d hj
        rcases gset hkl j d hj with ⟨rfl, rfl⟩ | ⟨p1, p2⟩
        · simp only [hnd.1, iff_false]; omega
        · rw [x.zero j d p2]; simp [p1]
      · have hl := x.live
        have hz : a.cs[k].1 = 0 := by
          have := (List.getElem?_eq_some_iff.1 g1).2
          rw [this]; exact g2
        simp only [List.map_set]
        rw [List.countP_set (by simpa using hkl)]
        have h0 : 0 < a.ser + 1 := by omega
        simp [hz, h0, hl]
  · have hc := x.chain
    have hf1 : L = [] ∧ a.free = -1 := by
      generalize a.free = f at hc h1
      cases hc with
      | nil => exact ⟨rfl, rfl⟩
      | cons g1 g2 g3 => omega
    obtain ⟨rfl, hfe⟩ := hf1
    have hfr : w.freed = [] := by simpa using x.freed
    have hnz : ∀ y ∈ a.cs.map (·.1), y ≠ 0 := by
      intro y hy
      obtain ⟨c, hc, rfl⟩ := List.mem_map.1 hy
      obtain ⟨j, hj, rfl⟩ := List.getElem_of_mem hc
      have := x.zero j _ (List.getElem?_eq_getElem hj)
      simpa using this
    by_cases h2 : (a.cs.length : Int) = a.size
    · have e1 : a.take = (a, none) := by simp [AR.take, h1, h2]
      have hw : w.which = -1 := by
        have h3 : a.size.toNat - a.cs.length = 0 := by omega
        have : w.has.findIdx? (fun x => decide (x = 0)) = none := by
          rw [List.findIdx?_eq_none_iff, x.has, h3]
          intro y hy
          simp only [List.replicate_zero, List.append_nil] at hy
          simpa using hnz y hy
        simp [RA.which, hfr, this]
      have e2 : w.take = (w, none) := by simp [RA.take, hw]
      refine ⟨by simp [AR.takeV, RA.takeV, e1, e2], [], ?_⟩
      rw [e1, e2]
      exact x.mono (by omega)
    · have e1 : a.take = ({ a with cs := a.cs ++ [(a.ser + 1, 0)], ser := a.ser + 1, live := a.live + 1 }, some (a.cs.length : Int)) := by
        simp [AR.take, h1, h2]
      obtain ⟨m, hm⟩ : ∃ m, a.size.toNat - a.cs.length = m + 1 := ⟨a.size.toNat - a.cs.length - 1, by omega⟩
      have hw : w.which = a.cs.length := by
        have : w.has.findIdx? (fun x => decide (x = 0)) = some a.cs.length := by
          rw [List.findIdx?_eq_some_iff_getElem]
          have hl : a.cs.length < w.has.length := by rw [x.has, hm]; simp
          refine ⟨hl, ?_, fun j hj => ?_⟩
          · have : w.has[a.cs.length]? = some 0 := by rw [x.has, hm, List.getElem?_append_right (by simp)]; simp
            rw [List.getElem?_eq_getElem hl] at this
            simp [Option.some.inj this]
          · have h4 : j < (a.cs.map (·.1)).length := by simpa using hj
            have : w.has[j]? = some ((a.cs.map (·.1))[j]) := by rw [x.has, List.getElem?_append_left h4, List.getElem?_eq_getElem h4]
            rw [List.getElem?_eq_getElem (by omega)] at this
            rw [Option.some.inj this]
            simpa using hnz _ (List.getElem_mem h4)
        simp [RA.which, hfr, this]
      have hkn : ¬ (a.cs.length : Int) < 0 := by omega
      have e2 : w.take = ({ has := w.has.set a.cs.length (w.ser + 1), freed := w.freed.dropLast, ser := w.ser + 1 }, some (a.cs.length : Int)) := by
        simp [RA.take, hw, hkn]
      refine ⟨by simp [AR.takeV, RA.takeV, e1, e2, hser], [], ?_⟩
      rw [e1, e2]
      refine ⟨hn, by simp; omega, ?_, by simp [hser], by simp; omega, ?_, ?_, by simp [hfr], by simp, ?_, ?_⟩
      · simp only [List.length_append, List.length_cons, List.length_nil, hser, List.map_append, List.map_cons, List.map_nil]
        rw [x.has, hm, List.set_append_right _ _ (by simp), show a.size.toNat - (a.cs.length + (0 + 1)) = m by omega]
        simp [List.replicate_succ]
      · intro d hd
        rcases List.mem_append.1 hd with h | h
        · exact x.pos d h
        · simp at h; subst h; simp; omega
      · show Chain (a.cs ++ _) a.free []
        exact hc.app _
      · intro j d hj
        rcases Nat.lt_or_ge j a.cs.length with hl | hl
        · rw [List.getElem?_append_left hl] at hj; exact x.zero j d hj
        · rw [List.getElem?_append_right hl] at hj
          have h0 : j - a.cs.length = 0 := by
            have := (List.getElem?_eq_some_iff.1 hj).1
            simp at this; omega
          rw [h0] at hj; simp at hj
          subst hj
          simp; omega
      · have hl := x.live
        have h0 : 0 < a.ser + 1 := by omega
        simp [List.countP_append, h0, hl]
theorem Rel.free {t : Nat} {a : AR} {w : RA} {L : List Nat} (x : Rel t a w L) (i s : Int) (hs : 0 ≤ s) : ∃ L', Rel t (a.drop i s) (w.free i s) L' := by
  have hlv := x.lives i s hs
  cases hl : a.lives i s
  · rw [hl] at hlv
    exact ⟨L, by simpa [AR.drop, RA.free, hl, ← hlv] using x⟩
  · rw [hl] at hlv
    have hl2 := hl
    rw [lives_iff] at hl2
    obtain ⟨q1, k, c, rfl, q3, q4⟩ := hl2
    have hkl := (List.getElem?_eq_some_iff.1 q3).1
    have hkL : k ∉ L := fun hk => by have := (x.zero k c q3).2 hk; omega
    have e1 : a.drop k s = { a with cs := a.cs.set k (0, a.free), free := (k : Int), live := a.live - 1 } := by
      unfold AR.drop
      rw [if_pos hl]
      simp [AR.freed]
    have e2 : w.free k s = { w with has := w.has.set k 0, freed := w.freed ++ [(k : Int)] } := by
      unfold RA.free
      rw [if_pos hlv.symm]
      simp
    refine ⟨k :: L, ?_⟩
    rw [e1, e2]
    refine ⟨x.hn, by simpa using x.len, ?_, x.ser, x.serb, ?_, .cons (c := (0, a.free)) (List.getElem?_set_self hkl) rfl (x.chain.set hkL _), by simp [x.freed], List.nodup_cons.2 ⟨hkL, x.nodup⟩, ?_, ?_⟩
    · simp only [List.length_set]
      rw [x.has, setc (0, a.free) _ hkl]
    · intro d hd
      rcases List.mem_or_eq_of_mem_set hd with h | h
      · exact x.pos d h
      · subst h; simp
    · intro j d hj
      rcases gset hkl j d hj with ⟨rfl, rfl⟩ | ⟨p1, p2⟩
      · simp
      · rw [x.zero j d p2]; simp [p1]
    · have hv := x.live
      have hc0 : 0 < a.cs[k].1 := by
        have := (List.getElem?_eq_some_iff.1 q3).2
        rw [this]; omega
      have hcp : 0 < (a.cs.map (·.1)).countP (fun x => decide (0 < x)) := by
        rw [List.countP_pos_iff]
        exact ⟨a.cs[k].1, List.mem_map.2 ⟨a.cs[k], List.getElem_mem hkl, rfl⟩, by simpa using hc0⟩
      simp only [List.map_set]
      rw [List.countP_set (by simpa using hkl)]
      simp only [List.getElem_map, hc0, decide_true, if_true, Int.lt_irrefl, decide_false, Bool.false_eq_true, if_false, hv]
      omega
end Go.Proofs.Ytkecaobcchnilaa.Ideal
