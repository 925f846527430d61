/- Doubly linked rings: what pushing and removing does to them. No program here. -/
import Derived.Test.YtepajeemcalheaaI38
noncomputable section

namespace Go.Proofs.Ytepajeemcalheaa.Ideal
set_option linter.unusedSimpArgs false
set_option linter.unusedVariables false
def put1 (f : Nat → Nat) (x v : Nat) : Nat → Nat := fun y => if y = x then v else f y
theorem put1_same (f : Nat → Nat) (x v : Nat) : put1 f x v x = v := by simp [put1]
theorem put1_ne (f : Nat → Nat) {x y : Nat} (v : Nat) (h : y ≠ x) : put1 f x v y = f y := by simp [put1, h]
/-- From u over these cells to o: both ways. -/
def Path (f b : Nat → Nat) : Nat → List Nat → Nat → Prop
  | u, [], o => f u = o ∧ b o = u
  | u, c :: r, o => f u = c ∧ b c = u ∧ Path f b c r o
theorem path_app {f b : Nat → Nat} : ∀ {p : List Nat} {u c o : Nat} {q : List Nat}, Path f b u (p ++ c :: q) o ↔ Path f b u p c ∧ Path f b c q o
  | [], u, c, o, q => by simp [Path, and_assoc]
  | x :: p, u, c, o, q => by
    have := @path_app f b p x c o q
    simp only [List.cons_append, Path, this, and_assoc]
theorem path_frame {f b f' b' : Nat → Nat} : ∀ {p : List Nat} {u o : Nat}, Path f b u p o → (∀ x, x ∈ u :: p → f' x = f x) → (∀ x, x ∈ p ++ [o] → b' x = b x) → Path f' b' u p o
  | [], u, o, h, hf, hb => ⟨by rw [hf u (by simp)]; exact h.1, by rw [hb o (by simp)]; exact h.2⟩
  | x :: p, u, o, h, hf, hb => ⟨by rw [hf u (by simp)]; exact h.1, by rw [hb x (by simp)]; exact h.2.1, path_frame h.2.2 (fun y hy => hf y (by simp at hy ⊢; right; exact hy)) (fun y hy => hb y (by simp at hy ⊢; right; exact hy))⟩
def lastOf : Nat → List Nat → Nat
  | u, [] => u
  | _, x :: p => lastOf x p
theorem lastOf_mem : ∀ (u : Nat) (p : List Nat), lastOf u p ∈ u :: p
  | u, [] => by simp [lastOf]
  | u, x :: p => by
    have := lastOf_mem x p
    rw [lastOf]
    exact List.mem_cons_of_mem _ this
theorem path_last {f b : Nat → Nat} : ∀ {p : List Nat} {u o : Nat}, Path f b u p o → f (lastOf u p) = o ∧ b o = lastOf u p
  | [], u, o, h => h
  | x :: p, u, o, h => path_last (p := p) h.2.2
theorem relink {f b : Nat → Nat} {v : Nat} : ∀ {p : List Nat} {u o : Nat}, Path f b u p o → (u :: p).Nodup → v ∉ p → Path (put1 f (lastOf u p) v) (put1 b v (lastOf u p)) u p v
  | [], u, o, h, _, _ => ⟨put1_same _ _ _, put1_same _ _ _⟩
  | x :: p, u, o, h, hn, hv => by
    have hm := lastOf_mem x p
    simp only [lastOf]
    refine ⟨?_, ?_, relink h.2.2 (List.nodup_cons.1 hn).2 (fun h => hv (by simp [h]))⟩
    · rw [put1_ne _ _ (fun e => (List.nodup_cons.1 hn).1 (by rw [e]; exact hm))]
      exact h.1
    · rw [put1_ne _ _ (fun e => hv (by simp [e]))]
      exact h.2.1
/-- Pushed behind all. -/
theorem path_push {f b : Nat → Nat} {o c : Nat} {p : List Nat} (h : Path f b o p o) (hn : (o :: p).Nodup) (hc : c ∉ o :: p) :
    Path (put1 (put1 f c o) (lastOf o p) c) (put1 (put1 b c (lastOf o p)) o c) o (p ++ [c]) o := by
  have hm := lastOf_mem o p
  have hlc : lastOf o p ≠ c := fun e => hc (by rw [← e]; exact hm)
  have hco : c ≠ o := fun e => hc (by simp [e])
  have hcp : c ∉ p := fun e => hc (by simp [e])
  have hop := (List.nodup_cons.1 hn).1
  refine path_app.2 ⟨path_frame (relink h hn hcp) (fun x hx => ?_) (fun x hx => ?_), ?_, ?_⟩
  · have : x ≠ c := fun e => hc (by rw [← e]; exact hx)
    simp only [put1]
    by_cases e : x = lastOf o p <;> simp [e, this]
  · have : x ≠ o := by
      intro e; subst e
      simp at hx
      rcases hx with hx | hx
      · exact hop hx
      · exact hco hx.symm
    simp [put1, this]
  · rw [put1_ne _ _ (Ne.symm hlc), put1_same]
  · rw [put1_same]
/-- Taken out. -/
theorem path_cut {f b : Nat → Nat} {o c : Nat} {p q : List Nat} {z y : Nat} (h : Path f b o (p ++ c :: q) o) (hn : (o :: (p ++ c :: q)).Nodup) :
    Path (put1 (put1 f (b c) (f c)) c z) (put1 (put1 b (f c) (b c)) c y) o (p ++ q) o ∧ b c = lastOf o p ∧ f c = (q ++ [o]).headD 0 := by
  obtain ⟨h1, h2⟩ := path_app.1 h
  have hb := (path_last h1).2
  have hm := lastOf_mem o p
  have hnp : (o :: p).Nodup := hn.sublist (by simp)
  have hcop : c ∉ o :: p := by
    intro e
    simp at hn
    simp at e
    rcases e with rfl | e
    · exact hn.1.2.1 rfl
    · exact (List.nodup_append.1 hn.2).2.2 c e c (by simp) rfl
  have hcq : c ∉ q := by
    intro e
    simp at hn
    exact (List.nodup_cons.1 (List.nodup_append.1 hn.2).2.1).1 e
  have hop : o ∉ p := fun e => (List.nodup_cons.1 hn).1 (by simp [e])
  have hoq : o ∉ q := fun e => (List.nodup_cons.1 hn).1 (by simp [e])
  have hco : c ≠ o := fun e => hcop (by simp [e])
  rw [hb]
  cases q with
  | nil =>
    obtain ⟨hf, _⟩ := h2
    refine ⟨?_, rfl, by simpa using hf⟩
    rw [hf, List.append_nil]
    refine path_frame (relink h1 hnp hop) (fun x hx => ?_) (fun x hx => ?_)
    · rw [put1_ne _ _ (fun e => hcop (by rw [← e]; exact hx))]
    · rw [put1_ne]
      intro e; subst e
      simp at hx
      rcases hx with hx | hx
      · exact hcop (by simp [hx])
      · exact hco hx
  | cons x r =>
    obtain ⟨hf, hbx, h3⟩ := h2
    refine ⟨?_, rfl, by simpa using hf⟩
    rw [hf]
    have hxp : x ∉ p := by
      intro e
      simp at hn
      exact (List.nodup_append.1 hn.2).2.2 x e x (by simp) rfl
    have hxr : x ∉ r := by
      intro e
      simp at hn
      have := (List.nodup_cons.1 (List.nodup_append.1 hn.2).2.1).2
      exact (List.nodup_cons.1 this).1 e
    have hxo : x ≠ o := fun e => hoq (by simp [e])
    have hxc : x ≠ c := fun e => hcq (by simp [e])
    have hlx : ∀ y, y ∈ x :: r → y ≠ lastOf o p := by
      intro y hy e
      subst e
      simp only [List.mem_cons] at hm
      rcases hm with hm | hm
      · rw [hm] at hy; exact hoq hy
      · simp only [List.nodup_cons, List.nodup_append] at hn
        exact hn.2.2.2 _ hm _ (List.mem_cons_of_mem _ hy) rfl
    refine path_app.2 ⟨path_frame (relink h1 hnp hxp) (fun y hy => ?_) (fun y hy => ?_), path_frame h3 (fun y hy => ?_) (fun y hy => ?_)⟩
    · rw [put1_ne _ _ (fun e => hcop (by rw [← e]; exact hy))]
    · rw [put1_ne]
      intro e; subst e
      simp at hy
      rcases hy with hy | hy
      · exact hcop (by simp [hy])
      · exact hxc hy.symm
    · rw [put1_ne _ _ (fun e => hcq (by rw [← e]; exact hy)), put1_ne _ _ (hlx y hy)]
    · have h1 : y ≠ c := by
        intro e; subst e
        simp at hy
        rcases hy with hy | hy
        · exact hcq (by simp [hy])
        · exact hco hy
      have h2 : y ≠ x := by
        intro e; subst e
        simp at hy
        rcases hy with hy | hy
        · exact hxr hy
        · exact hxo hy
      rw [put1_ne _ _ h1, put1_ne _ _ h2]
end Go.Proofs.Ytepajeemcalheaa.Ideal
