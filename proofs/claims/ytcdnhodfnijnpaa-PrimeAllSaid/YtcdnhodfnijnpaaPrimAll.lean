/- The reference's list of struck numbers tells the primes; the law PrimeAll returns true for every whole number. -/
import Derived.Test.YtcdnhodfnijnpaaPrimKnown
import Derived.Test.YtcdnhodfnijnpaaPPrimeAllx1
import Derived.Deep.DeepCutAuto
import Derived.Deep.CutBlock
namespace Go.Proofs.Ytcdnhodfnijnpaa.Prim
open Go.RowKit Go.Proofs.Ytcdnhodfnijnpaa.PPrimeAll Go.Proofs.YtcdnhodfnijnpaaW.PrintWords Go.Proofs.YtcdnhodfnijnpaaW.PrintLast Go.Proofs.YtcdnhodfnijnpaaW.PrintMore

/-- Of a list: place i is struck just if P i. -/
def Str (n : Nat) (xs : List Bool) (P : Nat → Prop) : Prop := xs.length = n + 1 ∧ ∀ i, i ≤ n → (xs[i]? = some true ↔ P i)

theorem w64 (x : Int) (h : -9223372036854775808 ≤ x) (h' : x ≤ 9223372036854775807) : wrap64 x = x := by unfold wrap64; omega

theorem inner_ok (n d : Nat) (hn : n ≤ 3000) (hd : 2 ≤ d) (hdn : d ≤ n + 1) : ∀ (j m : Nat) (xs : List Bool) (P : Nat → Prop), n + 1 - m ≤ j → d ≤ m → m ≤ 2 * n + 2 → m % d = 0 → Str n xs P →
    ∃ xs', Str n xs' (fun i => P i ∨ (i % d = 0 ∧ m ≤ i)) ∧ ∀ r, (∃ k, weighbridgeref17_Struck.l0 k (n : Int) xs' ((d + 1 : Nat) : Int) = some r) → ∃ k, weighbridgeref17_Struck.l1 k (n : Int) xs (d : Int) (m : Int) = some r := by
  intro j
  induction j with
  | zero =>
    intro m xs P hj hdm hm2 hm hs
    refine ⟨xs, ⟨hs.1, fun i hi => ?_⟩, fun r ⟨k, hk⟩ => ⟨k + 1, ?_⟩⟩
    · rw [hs.2 i hi]
      exact ⟨.inl, fun h => h.elim id (fun h => by omega)⟩
    · have e := w64 ((d : Int) + 1) (by omega) (by omega)
      simp only [weighbridgeref17_Struck.l1]
      rw [if_neg (by omega), e]
      exact hk
  | succ j ih =>
    intro m xs P hj hdm hm2 hm hs
    by_cases hmn : m ≤ n
    · have hs' : Str n (xs.set m true) (fun i => P i ∨ i = m) := by
        refine ⟨by simp [hs.1], fun i hi => ?_⟩
        by_cases e : i = m
        · subst e
          have : i < xs.length := by have := hs.1; omega
          simp [this]
        · rw [List.getElem?_set, if_neg (by omega), hs.2 i hi]
          exact ⟨.inl, fun h => h.elim id (fun h => absurd h e)⟩
      obtain ⟨xs', h1, h2⟩ := ih (m + d) (xs.set m true) _ (by omega) (by omega) (by omega) (by rw [Nat.add_mod_right]; exact hm) hs'
      refine ⟨xs', ⟨h1.1, fun i hi => ?_⟩, fun r hr => ?_⟩
      · rw [h1.2 i hi]
        constructor
        · rintro ((h | h) | h)
          · exact .inl h
          · subst h; exact .inr ⟨hm, Nat.le_refl _⟩
          · exact .inr ⟨h.1, by omega⟩
        · rintro (h | ⟨h, h'⟩)
          · exact .inl (.inl h)
          · by_cases e : i = m
            · exact .inl (.inr e)
            · refine .inr ⟨h, ?_⟩
              obtain ⟨a, ha⟩ := Nat.dvd_of_mod_eq_zero h
              obtain ⟨b, hb⟩ := Nat.dvd_of_mod_eq_zero hm
              have hab : b < a := by
                refine Nat.lt_of_not_le (fun c => ?_)
                have := Nat.mul_le_mul (Nat.le_refl d) c
                omega
              have := Nat.mul_le_mul (Nat.le_refl d) hab
              rw [Nat.mul_succ] at this
              omega
      · obtain ⟨k, hk⟩ := h2 r hr
        refine ⟨k + 1, ?_⟩
        have e := w64 ((m : Int) + (d : Int)) (by omega) (by omega)
        have hl := hs.1
        simp only [weighbridgeref17_Struck.l1]
        rw [if_pos (by omega), if_pos (by omega), if_pos (by omega), e, Int.toNat_natCast]
        exact hk
    · refine ⟨xs, ⟨hs.1, fun i hi => ?_⟩, fun r ⟨k, hk⟩ => ⟨k + 1, ?_⟩⟩
      · rw [hs.2 i hi]
        exact ⟨.inl, fun h => h.elim id (fun h => by omega)⟩
      · have e := w64 ((d : Int) + 1) (by omega) (by omega)
        simp only [weighbridgeref17_Struck.l1]
        rw [if_neg (by omega), e]
        exact hk

/-- A number is a multiple of a lesser one from 2 on. -/
def Comp (i : Nat) : Prop := ∃ e, 2 ≤ e ∧ i % e = 0 ∧ 2 * e ≤ i

theorem comp_sq (i d : Nat) (h : Comp i) (hd : i < d * d) : ∃ e, 2 ≤ e ∧ e < d ∧ i % e = 0 ∧ 2 * e ≤ i := by
  obtain ⟨e, h2, hm, he⟩ := h
  by_cases hed : e < d
  · exact ⟨e, h2, hed, hm, he⟩
  · obtain ⟨q, hq⟩ := Nat.dvd_of_mod_eq_zero hm
    have hqd : q < d := by
      refine Nat.lt_of_not_le (fun c => ?_)
      have := Nat.mul_le_mul (Nat.le_of_not_lt hed) c
      omega
    have hq2 : 2 ≤ q := by
      rcases q with _ | _ | q
      · omega
      · omega
      · omega
    refine ⟨q, hq2, hqd, Nat.mod_eq_zero_of_dvd ⟨e, by rw [Nat.mul_comm]; exact hq⟩, ?_⟩
    have := Nat.mul_le_mul h2 (Nat.le_refl q)
    omega

theorem outer_ok (n : Nat) (hn : n ≤ 3000) : ∀ (j d : Nat) (xs : List Bool), n + 2 - d ≤ j → 2 ≤ d → d ≤ n + 2 → Str n xs (fun i => ∃ e, 2 ≤ e ∧ e < d ∧ i % e = 0 ∧ 2 * e ≤ i) →
    ∃ k r, weighbridgeref17_Struck.l0 k (n : Int) xs (d : Int) = some r ∧ Str n r Comp := by
  intro j
  have stop : ∀ (d : Nat) (xs : List Bool), 2 ≤ d → d ≤ n + 2 → n < d * d → Str n xs (fun i => ∃ e, 2 ≤ e ∧ e < d ∧ i % e = 0 ∧ 2 * e ≤ i) → ∃ k r, weighbridgeref17_Struck.l0 k (n : Int) xs (d : Int) = some r ∧ Str n r Comp := by
    intro d xs h2 hd hlt hs
    have hdd : (d : Int) * (d : Int) ≤ 9012004 := by have h3 := Nat.mul_le_mul (show d ≤ 3002 by omega) (show d ≤ 3002 by omega); omega
    have hdd0 : 0 ≤ (d : Int) * (d : Int) := by exact_mod_cast Nat.zero_le (d * d)
    refine ⟨1, xs, ?_, hs.1, fun i hi => ?_⟩
    · simp only [weighbridgeref17_Struck.l0]
      rw [w64 _ (by omega) (by omega), if_neg]
      intro c
      have : d * d ≤ n := by exact_mod_cast c
      omega
    · rw [hs.2 i hi]
      constructor
      · rintro ⟨e, a, _, b, c⟩; exact ⟨e, a, b, c⟩
      · intro h; exact comp_sq i d h (by omega)
  induction j with
  | zero =>
    intro d xs hj h2 hd hs
    refine stop d xs h2 hd ?_ hs
    have := Nat.mul_le_mul h2 (Nat.le_refl d)
    omega
  | succ j ih =>
    intro d xs hj h2 hd hs
    by_cases hlt : n < d * d
    · exact stop d xs h2 hd hlt hs
    · have hdn : d ≤ n := by
        have := Nat.mul_le_mul h2 (Nat.le_refl d)
        omega
      have hdd : (d : Int) * (d : Int) ≤ 9012004 := by have h3 := Nat.mul_le_mul (show d ≤ 3002 by omega) (show d ≤ 3002 by omega); omega
      have hdd0 : 0 ≤ (d : Int) * (d : Int) := by exact_mod_cast Nat.zero_le (d * d)
      obtain ⟨xs', h1, hk⟩ := inner_ok n d hn h2 (by omega) (n + 1) (d + d) xs _ (by omega) (by omega) (by omega) (by rw [Nat.add_mod_right, Nat.mod_self]) hs
      obtain ⟨k, r, hr, hc⟩ := ih (d + 1) xs' (by omega) (by omega) (by omega) ⟨h1.1, fun i hi => by
        rw [h1.2 i hi]
        constructor
        · rintro (⟨e, a, b, c, f⟩ | ⟨a, b⟩)
          · exact ⟨e, a, by omega, c, f⟩
          · exact ⟨d, h2, by omega, a, by omega⟩
        · rintro ⟨e, a, b, c, f⟩
          by_cases hed : e = d
          · subst hed; exact .inr ⟨c, by omega⟩
          · exact .inl ⟨e, a, by omega, c, f⟩⟩
      obtain ⟨k', hk'⟩ := hk r ⟨k, hr⟩
      refine ⟨k' + 1, r, ?_, hc⟩
      simp only [weighbridgeref17_Struck.l0]
      rw [w64 _ (by omega) (by omega), if_pos (by exact_mod_cast Nat.le_of_not_lt hlt), w64 ((d : Int) + (d : Int)) (by omega) (by omega)]
      exact hk'

theorem struck_ok (n : Nat) (hn : n ≤ 3000) : ∃ k r, weighbridgeref17_Struck.f k (n : Int) = some r ∧ Str n r Comp := by
  obtain ⟨k, r, hk, hr⟩ := outer_ok n hn (n + 2) 2 (List.replicate (n + 1) false) (by omega) (by omega) (by omega)
    ⟨by simp, fun i hi => by
      rw [List.getElem?_replicate, if_pos (by omega)]
      constructor
      · intro h; simp at h
      · rintro ⟨e, a, b, _⟩; omega⟩
  refine ⟨k, r, ?_, hr⟩
  have e := w64 ((n : Int) + 1) (by omega) (by omega)
  have e2 : ((n : Int) + 1).toNat = n + 1 := by omega
  unfold weighbridgeref17_Struck.f
  rw [e, if_pos (by omega), if_pos (by omega), e2]
  exact hk

theorem not_comp (i : Nat) (h : 2 ≤ i) : mf i = i ↔ ¬ Comp i := by
  rw [prime_of_mf i h]
  constructor
  · rintro hx ⟨e, a, b, c⟩
    exact hx e a (by omega) b
  · intro hc x a b c
    refine hc ⟨x, a, c, ?_⟩
    obtain ⟨q, hq⟩ := Nat.dvd_of_mod_eq_zero c
    have hq2 : 2 ≤ q := by
      rcases q with _ | _ | q
      · omega
      · omega
      · omega
    have := Nat.mul_le_mul (Nat.le_refl x) hq2
    omega

theorem ris_ok (n i : Nat) (r : List Bool) (hn : n ≤ 3000) (hr : Str n r Comp) (hi : i ≤ n) : weighbridgeref17_Is.f r (i : Int) = some (isZ (i : Int)) := by
  unfold weighbridgeref17_Is.f
  by_cases h2 : 2 ≤ i
  · have hl := hr.1
    have hi' : i < r.length := by omega
    rw [if_pos (by omega), if_pos (by omega), if_pos (by omega), isZ_iff2 i h2 (by omega)]
    unfold rdOf
    rw [Int.toNat_natCast]
    have h := hr.2 i hi
    have hn := not_comp i h2
    rw [List.getD_eq_getElem?_getD]
    rw [List.getElem?_eq_getElem hi'] at h ⊢
    simp at h ⊢
    rw [Bool.eq_iff_iff]
    simp
    rw [hn, ← h]
    simp
  · rw [if_neg (by omega), isZ_lt _ (by omega)]

theorem rsize_ok (n i : Nat) (r : List Bool) (hn : n ≤ 3000) (hr : Str n r Comp) (hi : i ≤ n) : weighbridgeref17_Size.f r (i : Int) = some (sizeZ (i : Int)) := by
  unfold weighbridgeref17_Size.f
  by_cases h7 : 7 ≤ i
  · rw [if_pos (by omega), if_pos (by omega), ris_ok n i r hn hr hi, sizeZ_mid _ (by omega) (by omega)]
    rfl
  · rw [if_neg (by omega), sizeZ_out _ (by omega)]

set_option maxHeartbeats 1000000 in
theorem all_calls (n : Int) (w : World) : Calls Try.prog 4 #[.int .i64 n] w fun e w' => e = .returned (.bool true) ∧ Below w.heap.size w w' := by
  have CK := fun w => known_calls w
  by_cases h0 : n < 0
  · have hb : decide (n < 0) = true := decide_eq_true h0
    go_enter Try.func4, Try.ntmps4
    go_wp2_with fail
    refine (CK _).mono ?_
    rintro e w' ⟨rfl, rfl⟩
    go_wp2
    go_ret
    exact ⟨rfl, Below.refl _ _⟩
  · have hb : decide (n < 0) = false := decide_eq_false h0
    by_cases h1 : n > 3000
    · have hb' : decide (n > 3000) = true := decide_eq_true h1
      go_enter Try.func4, Try.ntmps4
      go_wp2_with fail
      refine (CK _).mono ?_
      rintro e w' ⟨rfl, rfl⟩
      go_wp2
      go_ret
      exact ⟨rfl, Below.refl _ _⟩
    · have hb' : decide (n > 3000) = false := decide_eq_false h1
      obtain ⟨m, rfl⟩ := Int.eq_ofNat_of_zero_le (show 0 ≤ n by omega)
      have hm : m ≤ 3000 := by omega
      obtain ⟨k, r, hk, hr⟩ := struck_ok m hm
      have H1 := Hd.mk (fun (i : Nat) hi => ris_ok m i r hm hr hi)
      have H2 := Hd.mk (fun (i : Nat) hi => rsize_ok m i r hm hr hi)
      clear h0 h1 hr
      have HK := Hd.mk hk
      clear hk
      go_enter Try.func4, Try.ntmps4
      go_wp2_with fail
      refine (weighbridgeref17_Struck.calls k _ r w HK.out).mono ?_
      rintro e w1 ⟨v, rfl, hR, hB⟩
      obtain ⟨A, c, rfl⟩ := Kd.R_slice hR
      obtain ⟨hl, hc, hC⟩ := Kd.R_reads' hR
      have hC := Hd.mk hC
      have hB := Hd.mk hB
      clear hR
      go_wp2_with fail
      have hD : Drawn0 w1 w1 := Drawn0.refl _
      go_loopg [16] (m + 2) (fun gq v16 w' => ∃ i : Nat, v16 = .int .i64 i ∧ i ≤ m + 1 ∧ m + 1 - i ≤ gq ∧ Drawn0 w1 w')
      case atStart => exact ⟨0, rfl, by omega, by omega, hD⟩
      case round =>
        obtain ⟨i, rfl, hi, hgq, hD'⟩ := hrel
        clear hD
        obtain ⟨nd, rfl⟩ := hD'.out
        by_cases hlt : i < m + 1
        · have hltb : decide ((i : Int) < (m : Int) + 1) = true := decide_eq_true (by omega)
          have R1 := Hd.mk (H1.out i (by omega))
          have R2 := Hd.mk (H2.out i (by omega))
          have C1 := fun w => is_calls (i : Int) w
          have C2 := fun w => size_calls (i : Int) w
          generalize isZ (i : Int) = b1 at R1 C1
          generalize sizeZ (i : Int) = b2 at R2 C2
          go_wp2_with fail
          refine (C1 _).mono ?_
          rintro e w' ⟨rfl, rfl⟩
          go_wp2_with fail
          refine (weighbridgeref17_Is.calls A c r _ b1 _ (Kd.C_drewN hC.out _) hc R1.out).mono ?_
          rintro e w2 ⟨rfl, hd2⟩
          obtain ⟨nd2, rfl⟩ := hd2.out
          go_wp2_with fail
          refine (C2 _).mono ?_
          rintro e w' ⟨rfl, rfl⟩
          go_wp2_with fail
          refine (weighbridgeref17_Size.calls A c r _ b2 _ (Kd.C_drewN hC.out _) hc R2.out).mono ?_
          rintro e w3 ⟨rfl, hd3⟩
          obtain ⟨nd3, rfl⟩ := hd3.out
          go_wp2_with fail
          go_roundg (m + 1 - (i + 1))
          case measure => omega
          case rel => exact ⟨i + 1, by go_num, by omega, by omega, ⟨⟨_, rfl⟩⟩⟩
        · have hltb : decide ((i : Int) < (m : Int) + 1) = false := decide_eq_false (by omega)
          go_wp2_with fail
          refine (CK _).mono ?_
          rintro e w' ⟨rfl, rfl⟩
          go_wp2
          go_ret
          exact ⟨rfl, pw_below_drewN hB.out _⟩

theorem all_walk (n : Int) (w : World) (_ : (Lit.int .i64 n).wf = true) :
    Calls Try.prog 4 #[.int .i64 n] w fun e w' => e = .returned (.bool true) ∧ Below w.heap.size w w' := all_calls n w
end Go.Proofs.Ytcdnhodfnijnpaa.Prim
