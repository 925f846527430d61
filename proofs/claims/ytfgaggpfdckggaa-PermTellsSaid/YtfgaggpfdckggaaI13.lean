/- Every order of a region comes to the same: one operation. -/
import Derived.Test.YtfgaggpfdckggaaI12
noncomputable section
namespace Go.Proofs.Ytfgaggpfdckggaa.Ideal
set_option linter.unusedVariables false
set_option linter.unusedSimpArgs false
set_option linter.unnecessarySimpa false
section
variable {P : Program} {rd rr : Option Nat} {ops : Array Oper} {A : Nat → Act} {H : Nat → IHeap} {V : Nat → Value} {K : Nat → Kind} {ρ0 : Rho} {w0 : World} {ar0 : Act}

theorem one_interval (r : Runs P rd ops A H V K) {i k id : Nat} (hi : i < ops.size) (hk : k < ops.size) (h1 : (H i).size ≤ id) (h2 : id < (H (i + 1)).size) (h3 : (H k).size ≤ id) (h4 : id < (H (k + 1)).size) : k = i := by
  rcases Nat.lt_trichotomy k i with h | h | h
  · have := r.size_le (show k + 1 ≤ i by omega) (by omega); omega
  · exact h
  · have := r.size_le (show i + 1 ≤ k by omega) (by omega); omega

variable {f : Nat → Bool} {ρ : Rho} {ar : Act} {w : World} {i : Nat} {o : Oper}
/-- What i makes has no place yet. -/
theorem Inv.fresh (v : Inv ops A H V ρ0 w0 ar0 f ρ ar w) (r : Runs P rd ops A H V K) (ho : ops[i]? = some o) (hf : f i = false) : Fresh ρ (H i).size (H (i + 1)).size := by
  have hi : i < ops.size := (Array.getElem?_eq_some_iff.1 ho).1
  intro id h1 h2
  cases hr : ρ id with
  | none => rfl
  | some R =>
    rcases v.dom id R hr with h | ⟨k, k1, k2, k3, k4⟩ | h
    · have := r.size_le (Nat.zero_le i) (by omega); omega
    · have := one_interval r hi k1 h1 h2 k3 k4
      rw [this, hf] at k2; cases k2
    · have := r.size_le (show i + 1 ≤ ops.size by omega) (Nat.le_refl _); omega
/-- What others have made ahead of a heavy one is alive. -/
theorem Inv.junk (v : Inv ops A H V ρ0 w0 ar0 f ρ ar w) (r : Runs P rd ops A H V K) (hb : backOk ops = true) (ni : NiAll ops H K) (hc : Closed ops f) (ho : ops[i]? = some o) (hf : f i = false) (hK : K i = .heavy) {x : Nat} {R : Ren} (hx : ρ x = some R) (hge : (H i).size ≤ x) :
    cf ops H f x ≠ some .dead := by
  have hi : i < ops.size := (Array.getElem?_eq_some_iff.1 ho).1
  have hheavy : ∀ k, k < ops.size → i < k → K k = .heavy → f k = false := by
    intro k hk hik hKk
    cases hfk : f k with
    | false => rfl
    | true =>
      cases hbef : bef ops i k with
      | true => rw [bef_closed hc hb hfk hbef] at hf; cases hf
      | false =>
        have h := ni i k hik hk hbef
        rw [hK, hKk] at h
        exact h.elim
  rcases v.dom x R hx with h | ⟨k, k1, k2, k3, k4⟩ | h
  · have := r.size_le (Nat.zero_le i) (by omega); omega
  · have hik : i < k := by
      rcases Nat.lt_trichotomy k i with h | h | h
      · have := r.size_le (show k + 1 ≤ i by omega) (by omega); omega
      · rw [h, hf] at k2; cases k2
      · exact h
    have htu := tu_of_new r k3 k4
    rcases tu_alloc r k1 htu with ⟨hKk, hxk, n, hn, hg⟩ | hKk
    · unfold cf
      rw [pick_at (i := k + 1) (fun m hm ht => ?_) (by omega), full_cf, hg]
      · intro e; exact hn (Option.some.inj e)
      · rcases Nat.lt_trichotomy m k with h | h | h
        · exfalso
          have := r.size_le (show m + 1 ≤ k by omega) (by omega)
          exact ht (by rw [IHeap.get_none (by omega), IHeap.get_none (by have := r.size hm; omega)])
        · subst h; simp [k2]
        · have hn1 : ¬ (m < k + 1) := by omega
          simp only [hn1, iff_false, Bool.not_eq_true]
          rcases tu_alloc r hm ht with ⟨_, hxm, _⟩ | hKm
          · have := r.size_le (show k + 1 ≤ m by omega) (by omega); omega
          · exact hheavy m hm (by omega) hKm
    · rw [hheavy k k1 hik hKk] at k2; cases k2
  · unfold cf
    rw [pick_at (i := 0) (fun m hm ht => ?_) (by omega), full_cf, IHeap.get_none (by have := r.size_le (Nat.zero_le ops.size) (Nat.le_refl _); omega)]
    · simp
    · exfalso
      have := r.size_le (show m + 1 ≤ ops.size by omega) (Nat.le_refl _)
      exact ht (by rw [IHeap.get_none (by omega), IHeap.get_none (by have := r.size hm; omega)])
/-- At a heavy one the world bears the text's heap. -/
theorem Inv.models (v : Inv ops A H V ρ0 w0 ar0 f ρ ar w) (r : Runs P rd ops A H V K) (hb : backOk ops = true) (ni : NiAll ops H K) (hc : Closed ops f) (ho : ops[i]? = some o) (hf : f i = false) (hp : ∀ e ∈ o.after, Region.binds .any e = true → f e.on = true) (hK : K i = .heavy) :
    Models ρ (H i) w := by
  have alive : ∀ x R, ρ x = some R → (H i).get x ≠ some .dead → cf ops H f x ≠ some .dead := by
    intro x R hx hd
    by_cases hlt : x < (H i).size
    · rw [cf_at r hb ni hc ho hf hp (.inl hK) hlt (v.dom x R hx)]; exact hd
    · exact v.junk r hb ni hc ho hf hK hx (by omega)
  refine ⟨fun x R u hg hx => ?_, fun x y Rx Ry hx hy he hdx hdy => v.inj x y Rx Ry hx hy he (alive x Rx hx hdx) (alive y Ry hy hdy), v.lt⟩
  exact v.obj x R u hx (by rw [cf_at r hb ni hc ho hf hp (.inl hK) (IHeap.get_lt hg) (v.dom x R hx)]; exact hg)

theorem Inv.opsRel (v : Inv ops A H V ρ0 w0 ar0 f ρ ar w) (r : Runs P rd ops A H V K) (hb : backOk ops = true) (ht : tmpsOk ops = true) (hc : Closed ops f) (ho : ops[i]? = some o) (hf : f i = false) (hp : ∀ e ∈ o.after, Region.binds .any e = true → f e.on = true) : OpsRel ρ o (A i) ar := by
  intro x hx
  cases x with
  | tmp t =>
    have := v.tmp t
    rw [va_at r hb ht hc ho hf hp (by simp only [namesOf, List.mem_append]; exact .inl (.inr (List.mem_filterMap.2 ⟨.tmp t, by simpa using hx, rfl⟩)))] at this
    exact this
  | const u =>
    have h1 := r.consts
    unfold constsOk at h1
    rw [Array.all_eq_true_iff_forall_mem] at h1
    have h2 := h1 o (Array.mem_of_getElem? ho)
    rw [Array.all_eq_true_iff_forall_mem] at h2
    exact plain_rel (h2 _ hx)
  | func g => exact .fn rfl (fun i hi => absurd hi (by simp)) rfl (fun i hi => absurd hi (by simp))
  | global g =>
    have h1 := r.consts
    unfold constsOk at h1
    rw [Array.all_eq_true_iff_forall_mem] at h1
    have h2 := h1 o (Array.mem_of_getElem? ho)
    rw [Array.all_eq_true_iff_forall_mem] at h2
    exact absurd (h2 _ hx) (by simp [operandOk])
theorem Inv.wanted (v : Inv ops A H V ρ0 w0 ar0 f ρ ar w) (r : Runs P rd ops A H V K) (hb : backOk ops = true) (ht : tmpsOk ops = true) (hc : Closed ops f) (ho : ops[i]? = some o) (hf : f i = false) (hp : ∀ e ∈ o.after, Region.binds .any e = true → f e.on = true) :
    Region.wanted o (yielded ops ar.tmps) = Region.wanted o (yielded ops (A i).tmps) := by
  have hi : i < ops.size := (Array.getElem?_eq_some_iff.1 ho).1
  unfold Region.wanted
  cases hg : o.guard with
  | none => rfl
  | some jw =>
    obtain ⟨j, want⟩ := jw
    dsimp only
    have : yielded ops ar.tmps j = yielded ops (A i).tmps j := by
      unfold yielded
      cases hd : (ops[j]?).bind (·.dst) with
      | none => rfl
      | some t =>
        simp only [Option.bind_some]
        have h1 := v.tmp t
        rw [va_at r hb ht hc ho hf hp (by simp only [namesOf, List.mem_append, hg]; exact .inr (by rw [hd]; simp))] at h1
        have hz := (r.tmpsSize i (by omega)).1
        have hz2 := v.tsz
        by_cases hlt : t < (A 0).tmps.size
        · have e1 : ar.tmps[t]? = some (ar.tmps.getD t undef) := by
            have : t < ar.tmps.size := by rw [hz2]; exact hlt
            simp [Array.getD, this]
          have e2 : (A i).tmps[t]? = some ((A i).tmps.getD t undef) := by
            have : t < (A i).tmps.size := by rw [hz]; exact hlt
            simp [Array.getD, this]
          rw [e1, e2]
          generalize (A i).tmps.getD t undef = y at h1
          generalize ar.tmps.getD t undef = y' at h1
          cases h1 <;> rfl
        · have e1 : ar.tmps[t]? = none := by
            have : ¬ (t < ar.tmps.size) := by rw [hz2]; exact hlt
            exact Array.getElem?_eq_none (Nat.le_of_not_lt this)
          have e2 : (A i).tmps[t]? = none := by
            have : ¬ (t < (A i).tmps.size) := by rw [hz]; exact hlt
            exact Array.getElem?_eq_none (Nat.le_of_not_lt this)
          rw [e1, e2]
    rw [this]
/-- i's value in its place. -/
theorem Inv.tmps (v : Inv ops A H V ρ0 w0 ar0 f ρ ar w) (r : Runs P rd ops A H V K) (hb : backOk ops = true) (ht : tmpsOk ops = true) (hc : Closed ops f) (ho : ops[i]? = some o) (hf : f i = false) {ρ' : Rho} (hle : ∀ j R, ρ j = some R → ρ' j = some R) {v' : Value} (hv : VRel ρ' (V i) v') :
    ((ar.put o.dst v').tmps.size = (A 0).tmps.size) ∧ (∀ t, VRel ρ' (va ops A V (fun j => f j || j == i) t) ((ar.put o.dst v').tmps.getD t undef)) ∧ (ar.put o.dst v').defers = ar0.defers := by
  refine ⟨?_, fun t => ?_, ?_⟩
  · rw [← v.tsz]
    unfold Act.put
    cases o.dst <;> simp
  · rw [va_add r hb ht hc ho hf, put_get, v.tsz]
    by_cases e : o.dst = some t ∧ t < (A 0).tmps.size
    · rw [if_pos e, if_pos e]; exact hv
    · rw [if_neg e, if_neg e]; exact (v.tmp t).mono hle
  · rw [← v.dfr]
    unfold Act.put
    cases o.dst <;> rfl
/-- An operation that changes nothing. -/
theorem Inv.still (v : Inv ops A H V ρ0 w0 ar0 f ρ ar w) (r : Runs P rd ops A H V K) (hb : backOk ops = true) (ht : tmpsOk ops = true) (ni : NiAll ops H K) (hc : Closed ops f) (ho : ops[i]? = some o) (hf : f i = false) (hH : H (i + 1) = H i) {v' : Value} (hv : VRel ρ (V i) v') :
    Inv ops A H V ρ0 w0 ar0 (fun j => f j || j == i) ρ (ar.put o.dst v') w := by
  obtain ⟨t1, t2, t3⟩ := v.tmps r hb ht hc ho hf (fun _ _ h => h) hv
  have hcf : ∀ id, cf ops H (fun j => f j || j == i) id = cf ops H f id := by
    intro id
    rw [cf_add r hb ni hc ho hf, if_neg (fun h => h (by rw [hH]))]
  refine ⟨t1, t2, t3, fun id R hr => ?_, fun id R u hr hu => v.obj id R u hr (by rw [← hcf]; exact hu), fun x y Rx Ry hx hy he h1 h2 => v.inj x y Rx Ry hx hy he (by rw [← hcf]; exact h1) (by rw [← hcf]; exact h2), v.lt, v.wsize, v.os, v.tape, v.output, v.ext, v.new, v.keep⟩
  rcases v.dom id R hr with h | ⟨k, k1, k2, k3, k4⟩ | h
  · exact .inl h
  · exact .inr (.inl ⟨k, k1, by simp [k2], k3, k4⟩)
  · exact .inr (.inr h)
/-- An operation that takes a step. -/
theorem Inv.step (v : Inv ops A H V ρ0 w0 ar0 f ρ ar w) (r : Runs P rd ops A H V K) (hb : backOk ops = true) (ht : tmpsOk ops = true) (ni : NiAll ops H K) (hc : Closed ops f) (ho : ops[i]? = some o) (hf : f i = false) (hp : ∀ e ∈ o.after, Region.binds .any e = true → f e.on = true) (hK : K i = .heavy)
    {ρ' : Rho} {w' : World} {v' : Value} (s : Step ρ (H i) w ρ' (H (i + 1)) w') (m' : Models ρ' (H (i + 1)) w') (hv : VRel ρ' (V i) v') : Inv ops A H V ρ0 w0 ar0 (fun j => f j || j == i) ρ' (ar.put o.dst v') w' := by
  have hi : i < ops.size := (Array.getElem?_eq_some_iff.1 ho).1
  have hfr := v.fresh r ho hf
  have hle := s.le hfr
  obtain ⟨t1, t2, t3⟩ := v.tmps r hb ht hc ho hf hle hv
  have m := v.models r hb ni hc ho hf hp hK
  have g0 := r.grows i (by omega)
  have hz1 := r.size hi
  have hz2 := r.size_le (show i + 1 ≤ ops.size by omega) (Nat.le_refl _)
  -- where ids of ρ' come from
  have src : ∀ id R, ρ' id = some R → ((H i).size ≤ id ∧ id < (H (i + 1)).size) ∨ ((id < (H i).size ∨ (H (i + 1)).size ≤ id) ∧ ρ id = some R) := by
    intro id R hr
    by_cases h : id < (H i).size ∨ (H (i + 1)).size ≤ id
    · exact .inr ⟨h, by rw [← s.ext id h]; exact hr⟩
    · exact .inl (by omega)
  -- the content behind i
  have cont : ∀ id R, ρ' id = some R → id < (H (i + 1)).size → cf ops H (fun j => f j || j == i) id = (H (i + 1)).get id := by
    intro id R hr hlt
    rw [cf_add r hb ni hc ho hf]
    by_cases htu : tu H id i
    · rw [if_pos htu]
    · rw [if_neg htu]
      rcases src id R hr with h | ⟨h, h2⟩
      · exact absurd (tu_of_new r h.1 h.2) htu
      · rw [cf_at r hb ni hc ho hf hp (.inl hK) (by omega) (v.dom id R h2)]
        unfold tu at htu
        exact (Classical.not_not.1 htu).symm
  have far : ∀ id, (H (i + 1)).size ≤ id → cf ops H (fun j => f j || j == i) id = cf ops H f id := by
    intro id hge
    rw [cf_add r hb ni hc ho hf, if_neg (fun h => h (by rw [IHeap.get_none hge, IHeap.get_none (by omega)]))]
  refine ⟨t1, t2, t3, ?_, ?_, ?_, m'.lt, Nat.le_trans v.wsize s.wsize, s.os.trans v.os, s.tape.trans v.tape, s.output.trans v.output, ?_, ?_, ?_⟩
  · intro id R hr
    rcases src id R hr with h | ⟨_, h2⟩
    · exact .inr (.inl ⟨i, hi, by simp, h.1, h.2⟩)
    · rcases v.dom id R h2 with h | ⟨k, k1, k2, k3, k4⟩ | h
      · exact .inl h
      · exact .inr (.inl ⟨k, k1, by simp [k2], k3, k4⟩)
      · exact .inr (.inr h)
  · intro id R u hr hu
    by_cases hlt : id < (H (i + 1)).size
    · rw [cont id R hr hlt] at hu
      exact m'.obj id R u hu hr
    · rw [far id (by omega)] at hu
      rcases src id R hr with h | ⟨_, h2⟩
      · omega
      · obtain ⟨ob, h3, h4⟩ := v.obj id R u h2 hu
        refine ⟨ob, ?_, h4.mono hle⟩
        rw [s.keep R.block (v.lt id R h2) ?_]
        · exact h3
        · intro x Rx ox hg hx hbk
          cases hdx : (decide (ox.isRo = true)) with
          | true => exact .inl (by simpa using hdx)
          | false =>
            refine .inr (Classical.byContradiction (fun hne => ?_))
            have h5 := m.inj x id Rx R hx h2 hbk (by rw [hg]; intro e; exact hne (Option.some.inj e)) (by rw [IHeap.get_none (by omega)]; simp)
            have := IHeap.get_lt hg
            omega
  · intro x y Rx Ry hx hy he h1 h2
    have al : ∀ z R, ρ' z = some R → cf ops H (fun j => f j || j == i) z ≠ some .dead → (H (i + 1)).get z ≠ some .dead := by
      intro z R hz h
      by_cases hlt : z < (H (i + 1)).size
      · rw [← cont z R hz hlt]; exact h
      · rw [IHeap.get_none (by omega)]; simp
    exact m'.inj x y Rx Ry hx hy he (al x Rx hx h1) (al y Ry hy h2)
  · intro id hid
    rw [s.ext id (by have := r.size_le (Nat.zero_le i) (by omega); omega)]
    exact v.ext id hid
  · intro id R h1 h2 hr
    rcases src id R hr with h | ⟨_, h3⟩
    · rcases s.new id R h.1 h.2 hr with c | ⟨j, Rj, u, k1, k2, k3, k4, k5⟩
      · exact .inl (Nat.le_trans v.wsize c)
      · by_cases hj : j < (H 0).size
        · obtain ⟨u0, hu0⟩ := IHeap.get_of_lt hj
          refine .inr ⟨j, Rj, u0, hu0, ?_, ?_, by rw [← v.ext j (.inl hj)]; exact k4, k5⟩
          · cases hr0 : u0.isRo with
            | false => rfl
            | true =>
              have := g0.ro j u0 hu0 hr0
              rw [this] at k1; cases k1
              rw [hr0] at k2; cases k2
          · intro e
            subst e
            have := g0.dd j hu0
            rw [this] at k1; cases k1
            exact k3 rfl
        · have hjn : j < (H ops.size).size := by have := IHeap.get_lt k1; omega
          rcases v.new j Rj (by omega) hjn k4 with c | ⟨j', Rj', u', l1, l2, l3, l4, l5⟩
          · exact .inl (by omega)
          · exact .inr ⟨j', Rj', u', l1, l2, l3, l4, l5.trans k5⟩
    · exact v.new id R h1 h2 h3
  · intro b hlt hall
    rw [s.keep b (Nat.lt_of_lt_of_le hlt v.wsize) ?_]
    · exact v.keep b hlt hall
    · intro x Rx ox hg hx hbk
      by_cases hx0 : x < (H 0).size
      · obtain ⟨u0, hu0⟩ := IHeap.get_of_lt hx0
        rcases hall x Rx u0 hu0 (by rw [← v.ext x (.inl hx0)]; exact hx) hbk with h | h
        · have := g0.ro x u0 hu0 h
          rw [this] at hg; cases hg
          exact .inl h
        · subst h
          have := g0.dd x hu0
          rw [this] at hg
          exact .inr (Option.some.inj hg).symm
      · have hxn : x < (H ops.size).size := by have := IHeap.get_lt hg; omega
        rcases v.new x Rx (by omega) hxn hx with c | ⟨j', Rj', u', l1, l2, l3, l4, l5⟩
        · omega
        · rcases hall j' Rj' u' l1 l4 (l5.trans hbk) with h | h
          · rw [h] at l2; cases l2
          · exact absurd h l3
end
end Go.Proofs.Ytfgaggpfdckggaa.Ideal
