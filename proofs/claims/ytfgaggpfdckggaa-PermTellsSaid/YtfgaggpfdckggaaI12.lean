/- Every order of a region comes to the same: the invariant. -/
import Derived.Test.YtfgaggpfdckggaaI11
noncomputable section
namespace Go.Proofs.Ytfgaggpfdckggaa.Ideal
set_option linter.unusedVariables false
set_option linter.unusedSimpArgs false
set_option linter.unnecessarySimpa false

/-- The frames' temporaries and deferred calls. -/
structure ActRel (ρ : Rho) (a ar : Act) : Prop where
  size : a.tmps.size = ar.tmps.size
  tmp : ∀ t, VRel ρ (a.tmps.getD t undef) (ar.tmps.getD t undef)
  dfr : ∃ bs : List Nat, a.defers = bs.map (fun b => { target := .collected b, args := #[] }) ∧ ∃ rs : List Ren, rs.length = bs.length ∧ (∀ (k b : Nat), bs[k]? = some b → ∃ R, rs[k]? = some R ∧ ρ b = some R) ∧ ar.defers = rs.map (fun R => { target := .collected R.block, args := #[] })
theorem ActRel.mono {ρ ρ' : Rho} {a ar : Act} (h : ActRel ρ a ar) (hle : ∀ i R, ρ i = some R → ρ' i = some R) : ActRel ρ' a ar :=
  ⟨h.size, fun t => (h.tmp t).mono hle, let ⟨bs, h1, rs, h2, h3, h4⟩ := h.dfr; ⟨bs, h1, rs, h2, fun k b hk => let ⟨R, a, b⟩ := h3 k b hk; ⟨R, a, hle _ _ b⟩, h4⟩⟩
theorem ActRel.put {ρ : Rho} {a ar : Act} (h : ActRel ρ a ar) (d : Option Tmp) {v v' : Value} (hv : VRel ρ v v') : ActRel ρ (a.put d v) (ar.put d v') := by
  refine ⟨?_, fun t => ?_, ?_⟩
  · unfold Act.put
    cases d with
    | none => exact h.size
    | some d => simpa using h.size
  · rw [put_get, put_get]
    have := h.size
    by_cases e : d = some t ∧ t < a.tmps.size
    · rw [if_pos e, if_pos ⟨e.1, by rw [← this]; exact e.2⟩]; exact hv
    · rw [if_neg e, if_neg (fun x => e ⟨x.1, by rw [this]; exact x.2⟩)]; exact h.tmp t
  · have : ∀ (b : Act) (u : Value), (b.put d u).defers = b.defers := fun b u => by unfold Act.put; cases d <;> rfl
    rw [this, this]; exact h.dfr

section
variable {P : Program} {rd rr : Option Nat} {ops : Array Oper} {A : Nat → Act} {H : Nat → IHeap} {V : Nat → Value} {K : Nat → Kind} {ρ0 : Rho} {w0 : World} {ar0 : Act}

structure Inv (ops : Array Oper) (A : Nat → Act) (H : Nat → IHeap) (V : Nat → Value) (ρ0 : Rho) (w0 : World) (ar0 : Act) (f : Nat → Bool) (ρ : Rho) (ar : Act) (w : World) : Prop where
  tsz : ar.tmps.size = (A 0).tmps.size
  tmp : ∀ t, VRel ρ (va ops A V f t) (ar.tmps.getD t undef)
  dfr : ar.defers = ar0.defers
  dom : ∀ id R, ρ id = some R → id < (H 0).size ∨ (∃ k, k < ops.size ∧ f k = true ∧ (H k).size ≤ id ∧ id < (H (k + 1)).size) ∨ (H ops.size).size ≤ id
  obj : ∀ id R o, ρ id = some R → cf ops H f id = some o → ∃ ob, w.heap[R.block]? = some ob ∧ ORel ρ R o ob
  inj : ∀ x y Rx Ry, ρ x = some Rx → ρ y = some Ry → Rx.block = Ry.block → cf ops H f x ≠ some .dead → cf ops H f y ≠ some .dead → x = y
  lt : ∀ id R, ρ id = some R → R.block < w.heap.size
  wsize : w0.heap.size ≤ w.heap.size
  os : w.os = w0.os
  tape : w.tape = w0.tape
  output : w.output = w0.output
  ext : ∀ id, (id < (H 0).size ∨ (H ops.size).size ≤ id) → ρ id = ρ0 id
  new : ∀ id R, (H 0).size ≤ id → id < (H ops.size).size → ρ id = some R → w0.heap.size ≤ R.block ∨ ∃ j Rj o, (H 0).get j = some o ∧ o.isRo = false ∧ o ≠ .dead ∧ ρ0 j = some Rj ∧ Rj.block = R.block
  keep : ∀ b, b < w0.heap.size → (∀ i R o, (H 0).get i = some o → ρ0 i = some R → R.block = b → o.isRo = true ∨ o = .dead) → w.heap[b]? = w0.heap[b]?

theorem tu_alloc (r : Runs P rd ops A H V K) {k id : Nat} (hk : k < ops.size) (ht : tu H id k) : (K k = .alloc ∧ id = (H k).size ∧ ∃ n, n ≠ .dead ∧ (H (k + 1)).get id = some n) ∨ K k = .heavy := by
  have := r.ok k ops[k] (by simp [hk])
  unfold tu at ht
  generalize hK : K k = c at this
  cases c with
  | skip => rw [this.2.2] at ht; exact absurd rfl ht
  | pure => rw [this.2.2.1] at ht; exact absurd rfl ht
  | read id => rw [this.2.2.1] at ht; exact absurd rfl ht
  | alloc =>
    obtain ⟨_, _, n, hn, e, _⟩ := this
    refine .inl ⟨rfl, ?_, n, hn, ?_⟩
    · rw [e, IHeap.get_push] at ht
      split at ht
      · assumption
      · exact absurd rfl ht
    · rw [e, IHeap.get_push] at ht ⊢
      split at ht
      · rename_i h; rw [if_pos h]
      · exact absurd rfl ht
  | heavy => exact .inr rfl
theorem tu_of_new (r : Runs P rd ops A H V K) {k id : Nat} (h1 : (H k).size ≤ id) (h2 : id < (H (k + 1)).size) : tu H id k := by
  unfold tu
  rw [IHeap.get_none h1]
  obtain ⟨o, ho⟩ := IHeap.get_of_lt h2
  rw [ho]; simp

/-- Unordered ones do not meet. -/
def NiAll (ops : Array Oper) (H : Nat → IHeap) (K : Nat → Kind) : Prop := ∀ i j, i < j → j < ops.size → bef ops i j = false → Ni H i j (K i) (K j)

/-- With f done, and i ready: a block that i looks at is what it is in the text's order. -/
theorem cf_at (r : Runs P rd ops A H V K) (hb : backOk ops = true) (ni : NiAll ops H K) {f : Nat → Bool} (hc : Closed ops f) {i : Nat} {o : Oper} (ho : ops[i]? = some o) (hf : f i = false) (hp : ∀ e ∈ o.after, Region.binds .any e = true → f e.on = true)
    {id : Nat} (hcl : K i = .heavy ∨ K i = .read id) (hid : id < (H i).size) (hdom : id < (H 0).size ∨ (∃ k, k < ops.size ∧ f k = true ∧ (H k).size ≤ id ∧ id < (H (k + 1)).size) ∨ (H ops.size).size ≤ id) : cf ops H f id = (H i).get id := by
  have hi : i < ops.size := (Array.getElem?_eq_some_iff.1 ho).1
  have hc' : Closed ops (fun j => f j || j == i) := by
    intro j oj hj hfj e he hbi
    simp only [Bool.or_eq_true, beq_iff_eq] at hfj
    rcases hfj with hfj | rfl
    · simp [hc j oj hj hfj e he hbi]
    · rw [ho] at hj; cases hj
      simp [hp e he hbi]
  unfold cf
  rw [pick_at (i := i) (fun k hk ht => ?_) (by omega), full_cf]
  rcases tu_alloc r hk ht with ⟨hK, hid', _⟩ | hK
  · -- made by k
    have hki : k < i := by
      refine Nat.lt_of_not_le (fun hle => ?_)
      have := r.size_le hle (by omega)
      omega
    simp only [hki, iff_true]
    rcases hdom with h | ⟨k', h1, h2, h3, h4⟩ | h
    · have := r.size_le (Nat.zero_le k) (by omega); omega
    · have : k' = k := by
        rcases Nat.lt_trichotomy k' k with h | h | h
        · have := r.size_le (show k' + 1 ≤ k by omega) (by omega); omega
        · exact h
        · have := r.size_le (show k + 1 ≤ k' by omega) (by omega)
          have hk1 : (H (k + 1)).size = (H k).size + 1 := by
            have := r.ok k ops[k] (by simp [hk])
            rw [hK] at this
            obtain ⟨_, _, n, _, e, _⟩ := this
            rw [e]; rfl
          omega
      rw [← this]; exact h2
    · have := r.size_le (show i ≤ ops.size by omega) (Nat.le_refl _); omega
  · by_cases e : k = i
    · subst e; simp [hf]
    · by_cases hlt : k < i
      · simp only [hlt, iff_true]
        cases hbef : bef ops k i with
        | true =>
          have := bef_closed hc' hb (i := k) (j := i) (by simp) hbef
          simp only [Bool.or_eq_true, beq_iff_eq] at this
          rcases this with h | h
          · exact h
          · exact absurd h e
        | false =>
          have h := ni k i hlt hi hbef
          rw [hK] at h
          rcases hcl with h2 | h2
          · rw [h2] at h; exact h.elim
          · rw [h2] at h; exact absurd h ht
      · simp only [hlt, iff_false, Bool.not_eq_true]
        cases hfk : f k with
        | false => rfl
        | true =>
          cases hbef : bef ops i k with
          | true => rw [bef_closed hc hb hfk hbef] at hf; cases hf
          | false =>
            have h := ni i k (by omega) hk hbef
            rw [hK] at h
            rcases hcl with h2 | h2
            · rw [h2] at h; exact h.elim
            · rw [h2] at h; exact absurd h ht
theorem cf_add (r : Runs P rd ops A H V K) (hb : backOk ops = true) (ni : NiAll ops H K) {f : Nat → Bool} (hc : Closed ops f) {i : Nat} {o : Oper} (ho : ops[i]? = some o) (hf : f i = false) (id : Nat) :
    cf ops H (fun j => f j || j == i) id = (open Classical in if tu H id i then (H (i + 1)).get id else cf ops H f id) := by
  have hi : i < ops.size := (Array.getElem?_eq_some_iff.1 ho).1
  unfold cf
  rw [pick_add hi hf (fun k h1 h2 h3 h4 => ?_)]
  cases hfk : f k with
  | false => rfl
  | true =>
    have hbef : bef ops i k = false := by
      cases hbef : bef ops i k with
      | true => rw [bef_closed hc hb hfk hbef] at hf; cases hf
      | false => rfl
    have h := ni i k h1 h2 hbef
    have hlt : id < (H (i + 1)).size := by
      refine Nat.lt_of_not_le (fun c => h4 ?_)
      rw [IHeap.get_none c, IHeap.get_none (Nat.le_trans (r.size hi) c)]
    rcases tu_alloc r h2 h3 with ⟨hK, hid, _⟩ | hK
    · have := r.size_le (show i + 1 ≤ k by omega) (by omega)
      omega
    · rw [hK] at h
      rcases tu_alloc r hi h4 with ⟨hK', hid, _⟩ | hK'
      · rw [hK'] at h
        rw [hid] at h3
        exact absurd h h3
      · rw [hK'] at h; exact h.elim
end
end Go.Proofs.Ytfgaggpfdckggaa.Ideal
