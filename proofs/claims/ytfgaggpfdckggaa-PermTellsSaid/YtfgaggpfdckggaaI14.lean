/- Regions: in the text's order; in every order. -/
import Derived.Test.YtfgaggpfdckggaaI13
noncomputable section
namespace Go.Proofs.Ytfgaggpfdckggaa.Ideal
set_option linter.unusedVariables false
set_option linter.unusedSimpArgs false
set_option linter.unnecessarySimpa false
section
variable {P : Program} {rd rr : Option Nat} {ops : Array Oper} {A : Nat → Act} {H : Nat → IHeap} {V : Nat → Value} {K : Nat → Kind} {ρ0 : Rho} {w0 : World} {ar0 : Act}
variable {f : Nat → Bool} {ρ : Rho} {ar : Act} {w : World} {i : Nat} {o : Oper}

/-- An operation that makes a block. -/
theorem Inv.made (v : Inv ops A H V ρ0 w0 ar0 f ρ ar w) (r : Runs P rd ops A H V K) (hb : backOk ops = true) (ht : tmpsOk ops = true) (ni : NiAll ops H K) (hc : Closed ops f) (ho : ops[i]? = some o) (hf : f i = false)
    {n : IObj} {ob : Obj} {R : Ren} {w' : World} {v' : Value} (hH : H (i + 1) = (H i).push n) (h2 : w'.heap = w.heap.push ob) (h3 : w'.os = w.os) (h4 : w'.tape = w.tape) (h5 : w'.output = w.output) (h6 : R.block = w.heap.size)
    (h7 : ORel (ρ.upd (H i).size R) R n ob) (hv : VRel (ρ.upd (H i).size R) (V i) v') : Inv ops A H V ρ0 w0 ar0 (fun j => f j || j == i) (ρ.upd (H i).size R) (ar.put o.dst v') w' := by
  have hi : i < ops.size := (Array.getElem?_eq_some_iff.1 ho).1
  have hz1 : (H (i + 1)).size = (H i).size + 1 := by rw [hH]; rfl
  have hz2 := r.size_le (show i + 1 ≤ ops.size by omega) (Nat.le_refl _)
  have hz0 := r.size_le (Nat.zero_le i) (by omega)
  have hf0 : ρ (H i).size = none := v.fresh r ho hf _ (Nat.le_refl _) (by omega)
  have hle := upd_le (R := R) hf0
  obtain ⟨t1, t2, t3⟩ := v.tmps r hb ht hc ho hf hle hv
  have hup : ∀ j R', ρ.upd (H i).size R j = some R' → (j = (H i).size ∧ R' = R) ∨ (j ≠ (H i).size ∧ ρ j = some R') := by
    intro j R' hj
    unfold Rho.upd at hj
    split at hj
    · exact .inl ⟨by assumption, (Option.some.inj hj).symm⟩
    · exact .inr ⟨by assumption, hj⟩
  have hcf : ∀ id, cf ops H (fun j => f j || j == i) id = if id = (H i).size then some n else cf ops H f id := by
    intro id
    rw [cf_add r hb ni hc ho hf]
    by_cases e : id = (H i).size
    · subst e
      rw [if_pos (tu_of_new r (Nat.le_refl _) (by omega)), if_pos rfl, hH, IHeap.get_push, if_pos rfl]
    · rw [if_neg (fun h => h (by rw [hH, IHeap.get_push, if_neg e])), if_neg e]
  have hold : ∀ b, b < w.heap.size → w'.heap[b]? = w.heap[b]? := fun b hb => by rw [h2, Array.getElem?_push, if_neg (by omega)]
  refine ⟨t1, t2, t3, ?_, ?_, ?_, ?_, by rw [h2, Array.size_push]; have := v.wsize; omega, h3.trans v.os, h4.trans v.tape, h5.trans v.output, ?_, ?_, ?_⟩
  · intro id R' hr
    rcases hup id R' hr with ⟨rfl, _⟩ | ⟨_, h⟩
    · exact .inr (.inl ⟨i, hi, by simp, Nat.le_refl _, by omega⟩)
    · rcases v.dom id R' h with h | ⟨k, k1, k2, k3, k4⟩ | h
      · exact .inl h
      · exact .inr (.inl ⟨k, k1, by simp [k2], k3, k4⟩)
      · exact .inr (.inr h)
  · intro id R' u hr hu
    rw [hcf] at hu
    rcases hup id R' hr with ⟨rfl, rfl⟩ | ⟨hne, h⟩
    · rw [if_pos rfl] at hu
      cases hu
      exact ⟨ob, by rw [h2, Array.getElem?_push, if_pos h6], h7⟩
    · rw [if_neg hne] at hu
      obtain ⟨b, k1, k2⟩ := v.obj id R' u h hu
      exact ⟨b, by rw [hold _ (v.lt id R' h)]; exact k1, k2.mono hle⟩
  · intro x y Rx Ry hx hy he d1 d2
    rw [hcf] at d1 d2
    rcases hup x Rx hx with ⟨rfl, rfl⟩ | ⟨nx, hx'⟩ <;> rcases hup y Ry hy with ⟨rfl, rfl⟩ | ⟨ny, hy'⟩
    · rfl
    · have := v.lt y Ry hy'; omega
    · have := v.lt x Rx hx'; omega
    · rw [if_neg nx] at d1
      rw [if_neg ny] at d2
      exact v.inj x y Rx Ry hx' hy' he d1 d2
  · intro id R' hr
    rw [h2, Array.size_push]
    rcases hup id R' hr with ⟨_, rfl⟩ | ⟨_, h⟩
    · omega
    · have := v.lt id R' h; omega
  · intro id hid
    unfold Rho.upd
    rw [if_neg (by omega)]
    exact v.ext id hid
  · intro id R' k1 k2 hr
    rcases hup id R' hr with ⟨_, rfl⟩ | ⟨_, h⟩
    · exact .inl (by have := v.wsize; omega)
    · exact v.new id R' k1 k2 h
  · intro b hlt hall
    rw [hold b (Nat.lt_of_lt_of_le hlt v.wsize)]
    exact v.keep b hlt hall

theorem wpIn_value {nx : Next} {v' : Value} {w' : World} {K' : Act → World → Prop} {Q : Exit → Act → World → Prop} (ho : ops[i]? = some o) (hw : Region.wanted o (yielded ops ar.tmps) = true) (hd : ∀ c, o.op ≠ .defer c) (hr : (execOp ar.eval o).run P w = .ok nx w') (hn : nx = .value v' ∨ (nx = .skip ∧ v' = undef)) (hK : K' (ar.put o.dst v') w') :
    wpOpIn (fen rr) 0 P ops Q i K' ar w := by
  unfold wpOpIn
  rw [ho]
  dsimp only
  rw [if_pos hw]
  exact wpIn_of_run hd hr hn hK
theorem wpIn_skipped {K' : Act → World → Prop} {Q : Exit → Act → World → Prop} (ho : ops[i]? = some o) (hw : Region.wanted o (yielded ops ar.tmps) = false) (hK : K' (ar.put o.dst undef) w) : wpOpIn (fen rr) 0 P ops Q i K' ar w := by
  unfold wpOpIn
  rw [ho]
  dsimp only
  rw [hw]
  exact ⟨fun f _ => fen_fn rr f, hK⟩

/-- One operation comes up. -/
theorem Inv.op (v : Inv ops A H V ρ0 w0 ar0 f ρ ar w) (r : Runs P rd ops A H V K) (hb : backOk ops = true) (ht : tmpsOk ops = true) (ni : NiAll ops H K) (hrd : RdRel ρ0 rd rr) (hle : ∀ j R, ρ0 j = some R → ρ j = some R) (hc : Closed ops f) (ho : ops[i]? = some o) (hf : f i = false) (hp : ∀ e ∈ o.after, Region.binds .any e = true → f e.on = true) (Q : Exit → Act → World → Prop) :
    wpOpIn (fen rr) 0 P ops Q i (fun a' w' => ∃ ρ', Inv ops A H V ρ0 w0 ar0 (fun j => f j || j == i) ρ' a' w' ∧ ∀ j R, ρ0 j = some R → ρ' j = some R) ar w := by
  have hi : i < ops.size := (Array.getElem?_eq_some_iff.1 ho).1
  have hok := r.ok i o ho
  have hw := v.wanted r hb ht hc ho hf hp
  have hrel := v.opsRel r hb ht hc ho hf hp
  cases hK : K i with
  | skip =>
    rw [hK] at hok
    obtain ⟨h1, h2, h3⟩ := hok
    refine wpIn_skipped ho (by rw [hw]; exact h1) ⟨ρ, v.still r hb ht ni hc ho hf h3 (by rw [h2]; exact VRel.undef_rel), hle⟩
  | pure =>
    rw [hK] at hok
    obtain ⟨h1, h2, h3, h4⟩ := hok
    obtain ⟨v', k1, k2⟩ := h4 ρ ar w hrel
    exact wpIn_value ho (by rw [hw]; exact h1) h2 k1 (.inl rfl) ⟨ρ, v.still r hb ht ni hc ho hf h3 k2, hle⟩
  | read id =>
    rw [hK] at hok
    obtain ⟨h1, h2, h3, h4⟩ := hok
    obtain ⟨v', k1, k2⟩ := h4 ρ ar w (fun x hx R ob hg hr => by
      simp only [List.mem_singleton] at hx
      subst hx
      exact v.obj x R ob hr (by rw [cf_at r hb ni hc ho hf hp (.inr hK) (IHeap.get_lt hg) (v.dom x R hr)]; exact hg)) hrel
    exact wpIn_value ho (by rw [hw]; exact h1) h2 k1 (.inl rfl) ⟨ρ, v.still r hb ht ni hc ho hf h3 k2, hle⟩
  | alloc =>
    rw [hK] at hok
    obtain ⟨h1, h2, n, hn, h3, h4⟩ := hok
    have hf0 : ρ (H i).size = none := v.fresh r ho hf _ (Nat.le_refl _) (by rw [h3]; simp)
    obtain ⟨v', ob, R, w', k1, k2, k3, k4, k5, k6, k7, k8⟩ := h4 ρ ar w hf0 hrel
    exact wpIn_value ho (by rw [hw]; exact h1) h2 k1 (.inl rfl) ⟨_, v.made r hb ht ni hc ho hf h3 k2 k3 k4 k5 k6 k7 k8, fun j R hj => upd_le hf0 j R (hle j R hj)⟩
  | heavy =>
    rw [hK] at hok
    obtain ⟨h1, h2, h3⟩ := hok
    unfold wpOpIn
    rw [ho]
    dsimp only
    rw [if_pos (by rw [hw]; exact h1)]
    refine h3 ρ w ar rr (hrd.mono hle) (v.models r hb ni hc ho hf hp hK) (v.fresh r ho hf) hrel _ Q ?_
    intro v' ρ' w' s m hv
    exact ⟨ρ', v.step r hb ht ni hc ho hf hp hK s m hv, fun j R hj => s.le (v.fresh r ho hf) j R (hle j R hj)⟩

theorem Inv.congr {g : Nat → Bool} (v : Inv ops A H V ρ0 w0 ar0 f ρ ar w) (h : ∀ k, k < ops.size → f k = g k) : Inv ops A H V ρ0 w0 ar0 g ρ ar w := by
  have hpick : ∀ {α : Type} (chg : Nat → Prop) (new : Nat → α) (x : α) n, n ≤ ops.size → pick f chg new x n = pick g chg new x n := by
    intro α chg new x n
    induction n with
    | zero => intro _; rfl
    | succ n ih =>
      intro hn
      have e := h n (by omega)
      by_cases hc : f n = true ∧ chg n
      · rw [pick_yes hc.1 hc.2, pick_yes (by rw [← e]; exact hc.1) hc.2]
      · rw [pick_no hc, pick_no (by rw [← e]; exact hc), ih (by omega)]
  have hva : ∀ t, va ops A V g t = va ops A V f t := fun t => (hpick _ _ _ _ (Nat.le_refl _)).symm
  have hcf : ∀ id, cf ops H g id = cf ops H f id := fun id => (hpick _ _ _ _ (Nat.le_refl _)).symm
  refine ⟨v.tsz, fun t => by rw [hva]; exact v.tmp t, v.dfr, fun id R hr => ?_, fun id R u hr hu => v.obj id R u hr (by rw [← hcf]; exact hu), fun x y Rx Ry hx hy he h1 h2 => v.inj x y Rx Ry hx hy he (by rw [← hcf]; exact h1) (by rw [← hcf]; exact h2), v.lt, v.wsize, v.os, v.tape, v.output, v.ext, v.new, v.keep⟩
  rcases v.dom id R hr with h' | ⟨k, k1, k2, k3, k4⟩ | h'
  · exact .inl h'
  · exact .inr (.inl ⟨k, k1, by rw [← h k k1]; exact k2, k3, k4⟩)
  · exact .inr (.inr h')

theorem ready_all {l : Array Bool} (hl : l.size = ops.size) (hB : backOk ops = true) (hr : Region.ready .any ops l = []) : ∀ i, i < ops.size → l.getD i true = true := by
  intro i
  induction i using Nat.strongRecOn with
  | ind i ih =>
    intro hi
    cases hb : l.getD i true with
    | true => rfl
    | false =>
      have hm : i ∈ Region.ready .any ops l := by
        refine mem_ready.2 ⟨hb, ops[i], by simp [hi], fun e he hbi => ?_⟩
        have h1 := List.all_eq_true.mp hB i (List.mem_range.mpr hi)
        simp only [hi, Array.getElem?_eq_getElem] at h1
        have h2 := Array.all_eq_true'.mp h1 e he
        simp only [hbi, Bool.not_true, Bool.false_or, decide_eq_true_eq] at h2
        have h3 := ih _ h2 (by omega)
        have h4 : e.on < l.size := by omega
        simp [h4] at h3 ⊢
        exact h3
      rw [hr] at hm
      exact absurd hm (by simp)

theorem wpAnyIn_inv {F : Fence} {n0 : Nat} {Q : Exit → Act → World → Prop} (hB : backOk ops = true) (I : (Nat → Bool) → Act → World → Prop) (hcg : ∀ f g a w, (∀ i, i < ops.size → f i = g i) → I f a w → I g a w)
    (hstep : ∀ (i : Nat) (o : Oper) (f : Nat → Bool) (a : Act) (w : World), ops[i]? = some o → Closed ops f → I f a w → f i = false → (∀ e ∈ o.after, Region.binds .any e = true → f e.on = true) → wpOpIn F n0 P ops Q i (fun a' w' => I (fun j => f j || j == i) a' w') a w)
    (hend : ∀ a w, I (fun _ => true) a w → Q .normal a w) :
    ∀ (n : Nat) (l : Array Bool) (a : Act) (w : World), l.size = ops.size → (Array.count false l ≤ n) → Closed ops (fun i => l.getD i false) → I (fun i => l.getD i false) a w → wpAnyIn F n0 P .any ops Q n l a w := by
  have fin : ∀ (l : Array Bool) (a : Act) (w : World), l.size = ops.size → I (fun i => l.getD i false) a w → Region.ready .any ops l = [] → Q .normal a w := by
    intro l a w hl hI hr
    refine hend a w (hcg _ _ a w (fun i hi => ?_) hI)
    have h := ready_all hl hB hr i hi
    have hi' : i < l.size := by omega
    simp [hi'] at h ⊢
    exact h
  intro n
  induction n with
  | zero =>
    intro l a w hl hn hc hI
    have h0 : Region.ready .any ops l = [] := by
      apply List.eq_nil_iff_forall_not_mem.mpr
      intro i hi
      obtain ⟨hb, o, ho, -⟩ := mem_ready.1 hi
      have hlt : i < l.size := by rw [hl]; exact (Array.getElem?_eq_some_iff.1 ho).1
      simp [hlt] at hb
      have : 0 < Array.count false l := Array.count_pos_iff.mpr (Array.mem_of_getElem hb)
      omega
    exact ⟨h0, fin l a w hl hI h0⟩
  | succ n ih =>
    intro l a w hl hn hc hI
    refine ⟨fin l a w hl hI, fun i hi => ?_⟩
    obtain ⟨hb, o, ho, hp⟩ := mem_ready.1 hi
    have hlt : i < l.size := by rw [hl]; exact (Array.getElem?_eq_some_iff.1 ho).1
    have hset : ∀ j, j < l.size → ((l.setIfInBounds i true).getD j false) = (l.getD j false || j == i) := by
      intro j hj'
      by_cases hij : j = i
      · subst hij; simp [hlt]
      · simp [hj', hij, Array.getElem_setIfInBounds, show ¬ i = j from fun h => hij h.symm]
    refine wpOpIn_mono (fun a' w' h' => ih _ a' w' (by simp [hl]) ?_ ?_ (hcg _ _ a' w' ?_ h')) (hstep i o _ a w ho hc hI (by simp [hlt] at hb ⊢; exact hb) hp)
    · simp [hlt] at hb
      rw [Array.setIfInBounds_def, dif_pos hlt, Array.count_set hlt]
      simp [hb]
      omega
    · intro j oj hj hfj e he hbi
      have hjl : j < l.size := by rw [hl]; exact (Array.getElem?_eq_some_iff.1 hj).1
      have hel : e.on < l.size := by
        have h1 := List.all_eq_true.mp hB j (List.mem_range.mpr (by omega))
        rw [hj] at h1
        have h2 := Array.all_eq_true'.mp h1 e he
        simp [hbi] at h2; omega
      dsimp only at hfj ⊢
      rw [hset j hjl] at hfj
      rw [hset e.on hel]
      simp only [Bool.or_eq_true, beq_iff_eq] at hfj
      rcases hfj with h | rfl
      · have := hc j oj hj h e he hbi
        simp [this]
      · rw [ho] at hj; cases hj
        have := hp e he hbi
        simp [this]
    · intro j hj
      exact (hset j (by omega)).symm

/-- What lies behind: a step, the heap borne, the frame's temporaries. -/
def After (ρ : Rho) (h : IHeap) (w : World) (a' : Act) (h' : IHeap) (ar' : Act) (w' : World) : Prop := ∃ ρ', Step ρ h w ρ' h' w' ∧ Models ρ' h' w' ∧ ActRel ρ' a' ar'

theorem region_any (hm : P.follows .mixedOrders = true) (r : Runs P rd ops A H V K) (hb : backOk ops = true) (ht : tmpsOk ops = true) (ni : NiAll ops H K) {id : Nat} {Q : Exit → Act → World → Prop} (hrd : RdRel ρ0 rd rr) (hmod : Models ρ0 (H 0) w0) (hfr : Fresh ρ0 (H 0).size (H ops.size).size) (hact : ActRel ρ0 (A 0) ar0)
    (hQ : ∀ ar' w', After ρ0 (H 0) w0 (A ops.size) (H ops.size) ar' w' → Q .normal ar' w') : (Code.region id ops true).wpIn (fen rr) 0 P Q ar0 w0 := by
  refine wpIn_region_any hm (wpAnyIn_inv (Q := Q) hb (fun f ar w => ∃ ρ, Inv ops A H V ρ0 w0 ar0 f ρ ar w ∧ ∀ j R, ρ0 j = some R → ρ j = some R) ?_ ?_ ?_ ops.size _ ar0 _ (by simp) ?_ ?_ ?_)
  · rintro f g a w hfg ⟨ρ, h1, h2⟩
    exact ⟨ρ, h1.congr hfg, h2⟩
  · rintro i o f a w ho hc ⟨ρ, h1, h2⟩ hf hp
    exact h1.op r hb ht ni hrd h2 hc ho hf hp Q
  · rintro a w ⟨ρ, v, hle⟩
    have hcf : ∀ id, cf ops H (fun _ => true) id = (H ops.size).get id := fun id => full_cf id ops.size
    have hva : ∀ t, va ops A V (fun _ => true) t = (A ops.size).tmps.getD t undef := fun t => full_va r t ops.size (Nat.le_refl _)
    have hz := r.tmpsSize ops.size (Nat.le_refl _)
    refine hQ a w ⟨ρ, ⟨r.grows ops.size (Nat.le_refl _), v.wsize, v.os, v.tape, v.output, fun i hi => v.ext i hi, v.new, v.keep⟩, ⟨fun i R o hg hr => v.obj i R o hr (by rw [hcf]; exact hg), fun x y Rx Ry hx hy he h1 h2 => v.inj x y Rx Ry hx hy he (by rw [hcf]; exact h1) (by rw [hcf]; exact h2), v.lt⟩, ⟨by rw [hz.1]; exact v.tsz.symm, fun t => by rw [← hva]; exact v.tmp t, ?_⟩⟩
    rw [hz.2, v.dfr]
    exact (hact.mono hle).dfr
  · have := Array.count_le_size (a := false) (xs := Array.replicate ops.size false)
    simpa using this
  · intro j oj hj hfj
    exfalso
    have hjl : j < ops.size := (Array.getElem?_eq_some_iff.1 hj).1
    simp [hjl] at hfj
  · refine ⟨ρ0, ?_, fun _ _ h => h⟩
    have hpick : ∀ {α : Type} (chg : Nat → Prop) (new : Nat → α) (x : α) n, pick (fun i => (Array.replicate ops.size false).getD i false) chg new x n = x := by
      intro α chg new x n
      induction n with
      | zero => rfl
      | succ n ih => rw [pick_no (fun h => by
          have := h.1
          by_cases hn : n < ops.size
          · simp [hn] at this
          · simp [hn] at this), ih]
    have hcf : ∀ id, cf ops H (fun i => (Array.replicate ops.size false).getD i false) id = (H 0).get id := fun id => hpick _ _ _ _
    have hva : ∀ t, va ops A V (fun i => (Array.replicate ops.size false).getD i false) t = (A 0).tmps.getD t undef := fun t => hpick _ _ _ _
    refine ⟨hact.size.symm, fun t => by rw [hva]; exact hact.tmp t, rfl, ?_, ?_, ?_, hmod.lt, Nat.le_refl _, rfl, rfl, rfl, fun _ _ => rfl, ?_, fun _ _ _ => rfl⟩
    · intro id R hr
      by_cases h : id < (H 0).size
      · exact .inl h
      · by_cases h' : (H ops.size).size ≤ id
        · exact .inr (.inr h')
        · rw [hfr id (by omega) (by omega)] at hr; cases hr
    · intro id R o hr ho
      rw [hcf] at ho
      exact hmod.obj id R o ho hr
    · intro x y Rx Ry hx hy he h1 h2
      rw [hcf] at h1 h2
      exact hmod.inj x y Rx Ry hx hy he h1 h2
    · intro id R h1 h2 hr
      rw [hfr id h1 h2] at hr; cases hr
end
end Go.Proofs.Ytfgaggpfdckggaa.Ideal
