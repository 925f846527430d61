import Derived.Test.YthaegngkkannjaaP48c
noncomputable section
namespace Go.Proofs.Ythaegngkkannjaa.Ideal
set_option linter.unusedVariables false
set_option linter.unusedSimpArgs false
set_option maxHeartbeats 4000000
set_option maxRecDepth 100000
structure V where
  act : Bool
  left : Int
def V.nx (I : Int) (v : V) : V := if v.left - 1 > 0 then ⟨v.act, v.left - 1⟩ else ⟨true, I⟩
def V.he (I sh : Int) (pre above : Bool) (v : V) : V :=
  if v.act = true then (if above = true then ⟨false, 3 * I + sh⟩ else ⟨true, 1⟩) else (if pre = false ∨ above = true then ⟨false, 3 * I + sh⟩ else v)
def vrnd (I sA sB : Int) (pA pB rk : Bool) (A B : V) : V × V :=
  let B1 := if A.left - 1 > 0 then B else B.he I sB pB rk
  (if B1.left - 1 > 0 then A.nx I else (A.nx I).he I sA pA (!rk), B1.nx I)
structure VInv (I sh : Int) (v : V) : Prop where
  l : 1 ≤ v.left ∧ v.left ≤ 3 * I + sh
  a : v.act = true → v.left ≤ I
theorem VInv.nx {I sh : Int} {v : V} (hI : 1 ≤ I) (hs : 1 ≤ sh) (h : VInv I sh v) : VInv I sh (v.nx I) := by
  obtain ⟨l, a⟩ := h
  unfold V.nx
  split
  · exact ⟨by simp only; omega, fun h => by have := a h; simp only; omega⟩
  · exact ⟨by simp only; omega, fun h => by simp only; omega⟩
theorem VInv.he {I sh : Int} {v : V} {pre above : Bool} (hI : 1 ≤ I) (hs : 1 ≤ sh) (h : VInv I sh v) : VInv I sh (v.he I sh pre above) := by
  unfold V.he
  split
  · split
    · exact ⟨by simp only; omega, fun h => by simp at h⟩
    · exact ⟨by simp only; omega, fun h => by simp only; omega⟩
  · split
    · exact ⟨by simp only; omega, fun h => by simp at h⟩
    · exact h
def VStable (pA pB rk : Bool) (A B : V) : Prop :=
  (A.act = true ∧ B.act = false ∧ (pB = false ∨ rk = true) ∧ A.left + 1 ≤ B.left) ∨ (B.act = true ∧ A.act = false ∧ (pA = false ∨ rk = false) ∧ B.left + 1 ≤ A.left)
def vmu (pA pB rk : Bool) (A B : V) : Int :=
  match A.act, B.act with
  | false, false => max A.left B.left
  | true, false => if pB = true ∧ rk = false then B.left else B.left + 2
  | false, true => if pA = true ∧ rk = true then A.left else A.left + 2
  | true, true => if rk = true then min A.left (B.left + 1) else min B.left (A.left + 1)
theorem vstable_step {I sA sB : Int} {pA pB rk : Bool} {A B : V} (hI : 1 ≤ I) (hA : 1 ≤ sA) (hB : 1 ≤ sB) (iA : VInv I sA A) (iB : VInv I sB B) (h : VStable pA pB rk A B) :
    VStable pA pB rk (vrnd I sA sB pA pB rk A B).1 (vrnd I sA sB pA pB rk A B).2 ∧ (vrnd I sA sB pA pB rk A B).1.act = A.act := by
  obtain ⟨a, l⟩ := A
  obtain ⟨b, m⟩ := B
  obtain ⟨l1, l2⟩ := iA
  obtain ⟨m1, m2⟩ := iB
  simp only [VStable] at *
  by_cases c1 : l - 1 > 0
  · by_cases c2 : m - 1 > 0
    · simp only [vrnd, c1, c2, V.nx, if_true]
      grind
    · simp only [vrnd, c1, c2, V.nx, V.he, if_true, if_false]
      grind
  · simp only [vrnd, c1, V.nx, V.he, if_true, if_false]
    grind
theorem vmu_step {I sA sB : Int} {pA pB rk : Bool} {A B : V} (hI : 1 ≤ I) (hA : 1 ≤ sA) (hB : 1 ≤ sB) (iA : VInv I sA A) (iB : VInv I sB B) (h : ¬ VStable pA pB rk A B) :
    VStable pA pB rk (vrnd I sA sB pA pB rk A B).1 (vrnd I sA sB pA pB rk A B).2 ∨ vmu pA pB rk (vrnd I sA sB pA pB rk A B).1 (vrnd I sA sB pA pB rk A B).2 ≤ vmu pA pB rk A B - 1 := by
  obtain ⟨a, l⟩ := A
  obtain ⟨b, m⟩ := B
  obtain ⟨l1, l2⟩ := iA
  obtain ⟨m1, m2⟩ := iB
  simp only [VStable] at *
  cases a <;> cases b <;> cases rk <;> cases pA <;> cases pB <;> simp only [vmu] at * <;>
  (by_cases c1 : l - 1 > 0
   · by_cases c2 : m - 1 > 0
     · simp only [vrnd, c1, c2, V.nx, if_true]
       grind
     · simp only [vrnd, c1, c2, V.nx, V.he, if_true, if_false]
       grind
   · simp only [vrnd, c1, V.nx, V.he, if_true, if_false]
     grind)
theorem vmu_pos {I sA sB : Int} {pA pB rk : Bool} {A B : V} (iA : VInv I sA A) (iB : VInv I sB B) (h : ¬ VStable pA pB rk A B) : 1 ≤ vmu pA pB rk A B := by
  obtain ⟨a, l⟩ := A
  obtain ⟨b, m⟩ := B
  obtain ⟨l1, l2⟩ := iA
  obtain ⟨m1, m2⟩ := iB
  cases a <;> cases b <;> simp only [vmu] <;> grind
theorem vmu_le {I sA sB : Int} {pA pB rk : Bool} {A B : V} (hI : 1 ≤ I) (hA : sA ≤ 4) (hB : sB ≤ 4) (iA : VInv I sA A) (iB : VInv I sB B) (h : ¬ VStable pA pB rk A B) : vmu pA pB rk A B ≤ 3 * I + 6 := by
  obtain ⟨a, l⟩ := A
  obtain ⟨b, m⟩ := B
  obtain ⟨l1, l2⟩ := iA
  obtain ⟨m1, m2⟩ := iB
  simp only [VStable] at h
  cases a <;> cases b <;> simp only [vmu] <;> grind
def PN.v (n : PN) : V := ⟨n.act, n.left⟩
structure Keep (n m : PN) : Prop where
  num : m.num = n.num
  pri : m.pri = n.pri
  itv : m.itv = n.itv
  pre : m.pre = n.pre
theorem Keep.refl (n : PN) : Keep n n := ⟨rfl, rfl, rfl, rfl⟩
theorem Keep.trans {n m k : PN} (a : Keep n m) (b : Keep m k) : Keep n k := ⟨b.num.trans a.num, b.pri.trans a.pri, b.itv.trans a.itv, b.pre.trans a.pre⟩
theorem Keep.share {n m : PN} (a : Keep n m) : m.share = n.share := by unfold PN.share; rw [a.pri]
theorem keep_next (n : PN) : Keep n n.next := by unfold PN.next; (repeat' split) <;> exact ⟨rfl, rfl, rfl, rfl⟩
theorem keep_hear (n : PN) (a : Ad) : Keep n (n.hear a) := by unfold PN.hear PN.holds PN.waits; (repeat' split) <;> exact ⟨rfl, rfl, rfl, rfl⟩
theorem next_v (n : PN) : n.next.v = n.v.nx n.itv := by
  unfold PN.next V.nx PN.v
  split
  · simp
  · split <;> simp_all
theorem hear_v (n : PN) (a : Ad) (ha : 1 ≤ a.pri) : (n.hear a).v = n.v.he n.itv n.share n.pre (AB a.pri a.frm n.pri n.num) := by
  have h0 : ¬ a.pri = 0 := by omega
  have h1 : a.pri > 0 := by omega
  unfold PN.hear PN.holds PN.waits V.he
  have e1 : (n.learn a).pri = n.pri := rfl
  have e2 : (n.learn a).num = n.num := rfl
  have e3 : (n.learn a).pre = n.pre := rfl
  rw [e1, e2, e3]
  have e4 : (n.learn a).stand.v = ⟨false, 3 * n.itv + n.share⟩ := rfl
  have e5 : (n.learn a).v = n.v := rfl
  have e6 : n.v.act = n.act := rfl
  rw [e6]
  split
  · split
    · rename_i hx
      rw [if_pos hx.2, e4]
    · rename_i hx
      rw [if_neg (fun h => hx ⟨h1, h⟩)]
      rename_i hy
      show (⟨n.act, 1⟩ : V) = _
      rw [hy]
  · split
    · exact e4
    · exact e5
/-- What is known of both, all along. -/
structure Both (I p q : Int) (a b : Bool) (A B : PN) : Prop where
  nA : A.num = 0
  nB : B.num = 1
  pA : A.pri = p
  pB : B.pri = q
  iA : A.itv = I
  iB : B.itv = I
  aA : A.pre = a
  aB : B.pre = b
  vA : VInv I A.share A.v
  vB : VInv I B.share B.v
section
variable {I p q : Int} {a b : Bool}
theorem share_pos {n : PN} (h : 1 ≤ n.pri ∧ n.pri ≤ 254) : 1 ≤ n.share ∧ n.share ≤ 4 := by unfold PN.share; omega
theorem Both.rnd {A B : PN} (h : Both I p q a b A B) (hI : 1 ≤ I) (hp : 1 ≤ p ∧ p ≤ 254) (hq : 1 ≤ q ∧ q ≤ 254) (lost : Bool) :
    Both I p q a b (rnd A B lost).1 (rnd A B lost).2 ∧ (lost = false → ((rnd A B lost).1.v, (rnd A B lost).2.v) = vrnd I A.share B.share a b (AB p 0 q 1) A.v B.v) := by
  have sA := share_pos (n := A) (by rw [h.pA]; exact hp)
  have sB := share_pos (n := B) (by rw [h.pB]; exact hq)
  -- the first one's tick
  have k1 := keep_next A
  have v1 := next_v A
  have i1 : VInv I A.share A.next.v := by rw [v1, h.iA]; exact h.vA.nx hI sA.1
  obtain ⟨B1, hB1⟩ : ∃ B1, B1 = (half A B lost).2 := ⟨_, rfl⟩
  have k2 : Keep B B1 := by
    rw [hB1]; unfold half; dsimp only
    split
    · exact keep_hear _ _
    · exact Keep.refl _
  have hpr : 1 ≤ A.next.ad.pri := by show 1 ≤ A.next.pri; rw [k1.pri, h.pA]; exact hp.1
  have eab : AB A.next.ad.pri A.next.ad.frm B.pri B.num = AB p 0 q 1 := by
    show AB A.next.pri A.next.num B.pri B.num = _
    rw [k1.pri, k1.num, h.pA, h.nA, h.pB, h.nB]
  have i2 : VInv I B.share B1.v := by
    rw [hB1]; unfold half; dsimp only
    split
    · rw [hear_v _ _ hpr, h.iB]; exact h.vB.he hI sB.1
    · exact h.vB
  have k3 := keep_next B1
  have v3 := next_v B1
  have s1 : B1.share = B.share := k2.share
  have i3 : VInv I B.share B1.next.v := by rw [v3, k2.itv, h.iB]; exact i2.nx hI sB.1
  have hpr2 : 1 ≤ B1.next.ad.pri := by show 1 ≤ B1.next.pri; rw [k3.pri, k2.pri, h.pB]; exact hq.1
  have eab2 : AB B1.next.ad.pri B1.next.ad.frm A.next.pri A.next.num = !AB p 0 q 1 := by
    show AB B1.next.pri B1.next.num A.next.pri A.next.num = _
    rw [k1.pri, k1.num, h.pA, h.nA, k3.pri, k3.num, k2.pri, k2.num, h.pB, h.nB]
    unfold AB
    by_cases c : q < p
    · have : ¬ p < q := by omega
      have : ¬ q = p := by omega
      simp [*]
    · by_cases c2 : p = q
      · subst c2; simp
      · have : p < q := by omega
        simp [*]
  have e1 : (Go.Proofs.Ythaegngkkannjaa.Ideal.rnd A B lost).1 = (half B1 A.next lost).2 := by rw [hB1]; rfl
  have e2 : (Go.Proofs.Ythaegngkkannjaa.Ideal.rnd A B lost).2 = B1.next := by rw [hB1]; rfl
  have k4 : Keep A (Go.Proofs.Ythaegngkkannjaa.Ideal.rnd A B lost).1 := by
    rw [e1]; unfold half; dsimp only
    split
    · exact k1.trans (keep_hear _ _)
    · exact k1
  have i4 : VInv I A.share (Go.Proofs.Ythaegngkkannjaa.Ideal.rnd A B lost).1.v := by
    rw [e1]; unfold half; dsimp only
    split
    · rw [hear_v _ _ hpr2, k1.itv, h.iA, k1.share]; exact i1.he hI sA.1
    · exact i1
  have k5 : Keep B (Go.Proofs.Ythaegngkkannjaa.Ideal.rnd A B lost).2 := by rw [e2]; exact k2.trans k3
  refine ⟨⟨k4.num.trans h.nA, k5.num.trans h.nB, k4.pri.trans h.pA, k5.pri.trans h.pB, k4.itv.trans h.iA, k5.itv.trans h.iB, k4.pre.trans h.aA, k5.pre.trans h.aB, by rw [k4.share]; exact i4, by rw [k5.share, e2]; exact i3⟩, fun hl => ?_⟩
  subst hl
  have hb1 : B1.v = if A.v.left - 1 > 0 then B.v else B.v.he I B.share b (AB p 0 q 1) := by
    rw [hB1]; unfold half; dsimp only
    by_cases c : A.left - 1 > 0
    · have : A.says = false := by simp [PN.says]; omega
      have c' : A.v.left - 1 > 0 := c
      rw [this, if_pos c']; rfl
    · have : A.says = true := by simp [PN.says]; omega
      rw [this]
      have c' : ¬ A.v.left - 1 > 0 := c
      rw [if_neg c', if_pos (by rfl), hear_v _ _ hpr, h.iB, h.aB, eab]
  have hl1 : (B1.says && !false) = decide (¬ B1.v.left - 1 > 0) := by simp [PN.says, PN.v]
  unfold vrnd
  dsimp only
  rw [← hb1, e1, e2, v3, k2.itv, h.iB]
  refine Prod.ext ?_ rfl
  unfold half
  dsimp only
  rw [hl1]
  by_cases c : B1.v.left - 1 > 0
  · rw [if_pos c, if_neg (by simpa using c), v1, h.iA]
  · rw [if_neg c, if_pos (by simpa using c), hear_v _ _ hpr2, eab2, k1.itv, h.iA, k1.share, k1.pre, h.aA, v1, h.iA]
/-- Both, behind so many rounds. -/
def runs (A B : PN) : List Bool → PN × PN
  | [] => (A, B)
  | l :: ls => runs (rnd A B l).1 (rnd A B l).2 ls
theorem Both.runs {A B : PN} (h : Both I p q a b A B) (hI : 1 ≤ I) (hp : 1 ≤ p ∧ p ≤ 254) (hq : 1 ≤ q ∧ q ≤ 254) : ∀ ls : List Bool, Both I p q a b (runs A B ls).1 (runs A B ls).2
  | [] => h
  | l :: ls => Both.runs (h.rnd hI hp hq l).1 hI hp hq ls
theorem runs_append (A B : PN) : ∀ (ls ms : List Bool), runs A B (ls ++ ms) = runs (runs A B ls).1 (runs A B ls).2 ms
  | [], ms => rfl
  | l :: ls, ms => runs_append _ _ ls ms
theorem runs_snoc (A B : PN) (ls : List Bool) (l : Bool) : runs A B (ls ++ [l]) = rnd (runs A B ls).1 (runs A B ls).2 l := by
  rw [runs_append]; rfl
def Good (a b rk : Bool) (A B : PN) : Prop := VStable a b rk A.v B.v
theorem good_step {A B : PN} (h : Both I p q a b A B) (hI : 1 ≤ I) (hp : 1 ≤ p ∧ p ≤ 254) (hq : 1 ≤ q ∧ q ≤ 254) (g : Good a b (AB p 0 q 1) A B) :
    Good a b (AB p 0 q 1) (rnd A B false).1 (rnd A B false).2 ∧ (rnd A B false).1.act = A.act := by
  have sA := share_pos (n := A) (by rw [h.pA]; exact hp)
  have sB := share_pos (n := B) (by rw [h.pB]; exact hq)
  have h2 := (h.rnd hI hp hq false).2 rfl
  have h3 := vstable_step hI sA.1 sB.1 h.vA h.vB g
  rw [← h2] at h3
  exact h3
theorem good_comes {A B : PN} (h : Both I p q a b A B) (hI : 1 ≤ I) (hp : 1 ≤ p ∧ p ≤ 254) (hq : 1 ≤ q ∧ q ≤ 254) : ∀ k : Nat, vmu a b (AB p 0 q 1) A.v B.v ≤ k ∨ Good a b (AB p 0 q 1) A B → Good a b (AB p 0 q 1) (Go.Proofs.Ythaegngkkannjaa.Ideal.runs A B (List.replicate k false)).1 (Go.Proofs.Ythaegngkkannjaa.Ideal.runs A B (List.replicate k false)).2
  | 0, g => by
    rcases g with g | g
    · by_cases c : Good a b (AB p 0 q 1) A B
      · exact c
      · have := vmu_pos h.vA h.vB c
        simp at g
        omega
    · exact g
  | k + 1, g => by
    rw [List.replicate_succ]
    refine good_comes (h.rnd hI hp hq false).1 hI hp hq k ?_
    by_cases c : Good a b (AB p 0 q 1) A B
    · exact .inr (good_step h hI hp hq c).1
    · rcases g with g | g
      · have sA := share_pos (n := A) (by rw [h.pA]; exact hp)
        have sB := share_pos (n := B) (by rw [h.pB]; exact hq)
        have h2 := (h.rnd hI hp hq false).2 rfl
        have h3 := vmu_step hI sA.1 sB.1 h.vA h.vB c
        rw [← h2] at h3
        rcases h3 with h3 | h3
        · exact .inr h3
        · left
          simp only at h3
          push_cast at g
          omega
      · exact absurd g c
end
end Go.Proofs.Ythaegngkkannjaa.Ideal
