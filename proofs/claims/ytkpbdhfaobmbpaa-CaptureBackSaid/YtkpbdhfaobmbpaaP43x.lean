import Derived.Test.YtkpbdhfaobmbpaaP43w
noncomputable section
open Go.Proofs
namespace Go.Proofs.Ytkpbdhfaobmbpaa.Ideal
open Go.RowKit
set_option linter.unusedSimpArgs false
set_option linter.unusedVariables false
set_option linter.unusedSectionVars false
set_option maxRecDepth 100000
set_option maxHeartbeats 4000000
/-- A record's parts, where its head is there. -/
theorem rec_parts {high : Bool} {most : Nat} {u : SH} {L F G : List Nat} (e : L ++ F = recL high most u ++ G) (hL : 16 ≤ L.length) :
    L.take 4 = layL high u.sec 4 ∧ (L.drop 4).take 4 = layL high u.micro 4 ∧ (L.drop 8).take 4 = layL high (min u.xs.length most) 4 ∧ (L.drop 12).take 4 = layL high u.had 4 ∧
    (16 + min u.xs.length most ≤ L.length → (L.drop 16).take (min u.xs.length most) = u.xs.take (min u.xs.length most) ∧ L.drop (16 + min u.xs.length most) ++ F = G) := by
  have key : ∀ k j, k + j ≤ L.length → (L.drop k).take j = ((recL high most u ++ G).drop k).take j := fun k j h => by
    rw [← e, List.drop_append_of_le_length (by omega), List.take_append_of_le_length (by rw [List.length_drop]; omega)]
  have l : ∀ n, (layL high n 4).length = 4 := fun n => layL_len _ _ _
  have d4 : ∀ (a : Nat) (x y : List Nat), List.drop 4 (layL high a 4 ++ x) = x := fun a x y => List.drop_left' (l a)
  have t4 : ∀ (a : Nat) (x y : List Nat), List.take 4 (layL high a 4 ++ x) = layL high a 4 := fun a x y => List.take_left' (l a)
  obtain ⟨m, hm⟩ : ∃ m, min u.xs.length most = m := ⟨_, rfl⟩
  have lx : (u.xs.take m).length = m := by rw [List.length_take]; omega
  have er : recL high most u ++ G = layL high u.sec 4 ++ (layL high u.micro 4 ++ (layL high m 4 ++ (layL high u.had 4 ++ (u.xs.take m ++ G)))) := by
    unfold recL
    rw [hm]
    simp only [List.append_assoc]
  rw [er] at key e
  rw [hm]
  refine ⟨?_, ?_, ?_, ?_, fun h16 => ⟨?_, ?_⟩⟩
  · have := key 0 4 (by omega)
    rw [List.drop_zero, List.drop_zero, t4 _ _ []] at this
    exact this
  · rw [key 4 4 (by omega), d4 _ _ [], t4 _ _ []]
  · rw [key 8 4 (by omega), show 8 = 4 + 4 from rfl, ← List.drop_drop, d4 _ _ [], d4 _ _ [], t4 _ _ []]
  · rw [key 12 4 (by omega), show 12 = 4 + (4 + 4) from rfl, ← List.drop_drop, ← List.drop_drop, d4 _ _ [], d4 _ _ [], d4 _ _ [], t4 _ _ []]
  · rw [key 16 m (by omega), show 16 = 4 + (4 + (4 + 4)) from rfl, ← List.drop_drop, ← List.drop_drop, ← List.drop_drop, d4 _ _ [], d4 _ _ [], d4 _ _ [], d4 _ _ []]
    exact List.take_left' lx
  · rw [← List.drop_append_of_le_length h16, e, show 16 + m = 4 + (4 + (4 + (4 + m))) by omega, ← List.drop_drop, ← List.drop_drop, ← List.drop_drop, ← List.drop_drop, d4 _ _ [], d4 _ _ [], d4 _ _ [], d4 _ _ []]
    exact List.drop_left' lx
/-- How many bytes the next record has. -/
def need (most : Nat) : List SH → Nat
  | [] => 1
  | u :: _ => 16 + min u.xs.length most
/-- A shot that is none. -/
def noShot : Value := .agg #[.int .u32 0, .int .u32 0, .int .u32 0, .slice none 0 0]
def atF (high : Bool) : Value := .func (.func 33) #[.agg #[.bool high]] #[]
/-- What reading one shot comes to. -/
def ShotQ (high : Bool) (most R : Nat) (F L : List Nat) (U : List SH) (h : IHeap) (v : Value) (h' : IHeap) : Prop :=
  (L.length < need most U ∧ v = .tuple #[noShot, .bool false] ∧ Keep h h') ∨
  ∃ u U' sl left' L', U = u :: U' ∧ v = .tuple #[SH.val { u with xs := u.xs.take (min u.xs.length most), sl := sl }, .bool true] ∧ OwnB h.size h' sl (u.xs.take (min u.xs.length most)) ∧ KR R h h' ∧ h'.get R = some (.row false 0 (rdr (atF high) most left')) ∧ SlB h' left' L' ∧ L' ++ F = U'.flatMap (recL high most)
attribute [-simp] IHeap.size_set IHeap.size_push
attribute [local simp ↓] Hid.ap_mk
attribute [local simp] scopeQ_normal scopeQ_ret scopeQ_exit WP_skip WP_label WP_exit WP_goto WP_ret WP_region WP_seq WP_cond WP_block WP_scope WP_loop WP_range thenQ_normal thenQ_ret thenQ_exit thenQ_goto loopQ_normal loopQ_ret loopQ_exit invQ_normal invQ_ret invQ_exit outOf_normal outOf_ret outOf_goto outOf_exit ev_tmp ev_const ev_func
  wops_nil wops_cons wantedE_none wantedE_some jgd_some wnx_eq niC_false wdo_move wdo_assign wdo_pick wdo_load wdo_store wdo_alloc wdo_box wdo_fieldAddr wdo_indexAddr wdo_field wdo_extract wdo_build wdo_buildSlice wdo_makeSlice wdo_binOp wdo_unOp wdo_makeFunc wdo_nilCheck wdo_callV wdo_len wdo_append wdo_copy wdo_delete wdo_max wdo_min wdo_convert jcvt_int
  xput_get put_n put_none put_dfr ibin finQ_n finQ_r finD_nil splice_one ires_nil ires_one ires_two ires_three ires1_tmp ires1_cell jcell_ptr rowLoad_row wrap64 wrapU64 wrapU8 wrapU16 wrapU32 callV_fn buildOf Instr.fill Value.cells Value.oneCell' kindOf slots_all splice_all IHeap.size_set' IHeap.size_push' IHeap.get_set_same IHeap.get_set_ne IHeap.get_pushed IHeap.get_push_ne IHeap.set_set IHeap.set_push IHeap.set_pushed IHeap.set_set3 getU_nil getU_same getU_ne jif_true jif_false pushH_eq setH_eq forceL_eq forceV_eq ibuildSlice
attribute [local simp high] wdo_str26
attribute [local simp] wdo_index jopt_some wdo_toArr wdo_cut26
attribute [-simp] Value.oneCell'
attribute [local simp] one_int' one_slc' one_bool' one_func' one_nilF'
theorem KR.setN {R i : Nat} {a h : IHeap} (x : KR R a h) (o : IObj) (hi : a.size ≤ i) : KR R a (h.set i o) := ⟨by rw [IHeap.size_set']; exact x.le, fun j hj hr => by rw [IHeap.get_set_ne _ (by omega)]; exact x.eq j hj hr⟩
theorem shot_c {h : IHeap} {left : Value} {L F : List Nat} {U : List SH} {R most : Nat} {high : Bool} (hR : h.get R = some (.row false 0 (rdr (atF high) most left))) (b : SlB h left L) (e0 : L ++ F = U.flatMap (recL high most)) (m2 : most ≤ 65535) (hu : ∀ u ∈ U, badS u = false ∧ u.sec < 4294967296 ∧ u.had < 4294967296 ∧ u.xs.length ≤ 400) :
    FN Try.prog 29 #[.pointer (some ⟨R, 0, none⟩)] h (Q := ⟨fun v h' => ShotQ high most R F L U h v h'⟩) := by
  obtain ⟨A, c, rfl, _⟩ := id b
  have hR0 := hR
  rw [rdr, atF] at hR
  have hRl := IHeap.get_lt hR
  obtain ⟨o0, ho0⟩ : ∃ o, o = IObj.row false 0 [.int .u32 0, .int .u32 0, .int .u32 0, .slice none 0 0] := ⟨_, rfl⟩
  refine FN.enter mixed (fn := Try.f29) (by kernel_rfl) rfl (by kernel_rfl) fun e hn hg hd => ?_
  simp [Try.f29] at hn
  have a0 : e.get 0 = .pointer (some ⟨R, 0, none⟩) := hg 0 (by omega)
  clear hg
  by_cases c16 : (L.length : Int) < 16
  · have nd : L.length < need most U := by
      cases U with
      | nil =>
        have : L = [] := (List.append_eq_nil_iff.1 e0).1
        rw [this]
        exact Nat.zero_lt_one
      | cons u U =>
        show _ < 16 + _
        omega
    simp (maxSteps := 1000000) (disch := first | (simp; done) | (simp only [IHeap.size_push', IHeap.size_set']; omega) | omega) [a0, hn, hd, hR, c16]
    exact .inl ⟨nd, rfl, Keep.push _ _⟩
  · have c16' : 16 ≤ L.length := by omega
    have hx : L ≠ [] := fun e => by rw [e] at c16'; simp at c16'
    cases U with
    | nil => exact absurd (List.append_eq_nil_iff.1 e0).1 hx
    | cons u U =>
    rw [List.flatMap_cons] at e0
    obtain ⟨p1, p2, p3, p4, p5⟩ := rec_parts e0 c16'
    obtain ⟨ub, us, uh, ux⟩ := hu u (by simp)
    obtain ⟨um, ul⟩ : u.micro < 1000000 ∧ u.xs.length ≤ u.had := by
      unfold badS at ub
      rw [Bool.or_eq_false_iff] at ub
      have h1 := of_decide_eq_false ub.1
      have h2 := of_decide_eq_false ub.2
      omega
    obtain ⟨m, hm⟩ : ∃ m, min u.xs.length most = m := ⟨_, rfl⟩
    rw [hm] at p3 p5
    obtain ⟨A1, c1, d1, ct1, kl1, sb1⟩ := cut_top (K := .i64) (k := 4) b (by omega) hx
    obtain ⟨A2, c2, d2, ct2, kl2, sb2⟩ := cut_mid (K := .i64) (K2 := .i64) (a := 4) (b := 8) b (by omega) (by omega) hx
    obtain ⟨A3, c3, d3, ct3, kl3, sb3⟩ := cut_mid (K := .i64) (K2 := .i64) (a := 8) (b := 12) b (by omega) (by omega) hx
    obtain ⟨A4, c4, d4, ct4, kl4, sb4⟩ := cut_mid (K := .i64) (K2 := .i64) (a := 12) (b := 16) b (by omega) (by omega) hx
    rw [show 8 - 4 = 4 from rfl] at ct2 sb2
    rw [show 12 - 8 = 4 from rfl] at ct3 sb3
    rw [show 16 - 12 = 4 from rfl] at ct4 sb4
    rw [p1] at sb1
    rw [p2] at sb2
    rw [p3] at sb3
    rw [p4] at sb4
    replace ct1 : ∀ h' : IHeap, KB h h' → cutN Try.prog h' 26 (.slice A L.length c) none (some (.int .i64 4)) = some (.slice A1 4 c1, .read d1) := fun h' k => ct1 h' (kl1.kb k)
    replace ct2 : ∀ h' : IHeap, KB h h' → cutN Try.prog h' 26 (.slice A L.length c) (some (.int .i64 4)) (some (.int .i64 8)) = some (.slice A2 4 c2, .read d2) := fun h' k => ct2 h' (kl2.kb k)
    replace ct3 : ∀ h' : IHeap, KB h h' → cutN Try.prog h' 26 (.slice A L.length c) (some (.int .i64 8)) (some (.int .i64 12)) = some (.slice A3 4 c3, .read d3) := fun h' k => ct3 h' (kl3.kb k)
    replace ct4 : ∀ h' : IHeap, KB h h' → cutN Try.prog h' 26 (.slice A L.length c) (some (.int .i64 12)) (some (.int .i64 16)) = some (.slice A4 4 c4, .read d4) := fun h' k => ct4 h' (kl4.kb k)
    have k1 := Keep.push h o0
    have k2 := k1.push' (.row false 0 [.bool high])
    have k3 := k2.push' (.row false 0 [.bool high])
    have k4 := k3.push' (.row false 0 [.bool high])
    have r1 := k1.get hR
    have r2 := k2.get hR
    have r3 := k3.get hR
    have r4 := k4.get hR
    have k5 := k4.push' (.row false 0 [.int .u32 u.sec, .int .u32 u.micro, .int .u32 u.had, .slice none 0 0])
    have k6 := k5.push' (.row false 0 [.bool high])
    have r5 := k5.get hR
    have r6 := k6.get hR
    have q3 := ct3 _ k5.kb
    have t4 := at_c (sb3.keep k5) (by omega)
    have x5 : ((((((h.push o0).push (.row false 0 [.bool high])).push (.row false 0 [.bool high])).push (.row false 0 [.bool high])).push (.row false 0 [.int .u32 u.sec, .int .u32 u.micro, .int .u32 u.had, .slice none 0 0])).push (.row false 0 [.bool high])).get (h.size + 4) = some (.row false 0 [.int .u32 u.sec, .int .u32 u.micro, .int .u32 u.had, .slice none 0 0]) := (Keep.push _ _).get (IHeap.get_pushed _ (by simp only [IHeap.size_push']))
    have x0 : ((((((h.push o0).push (.row false 0 [.bool high])).push (.row false 0 [.bool high])).push (.row false 0 [.bool high])).push (.row false 0 [.int .u32 u.sec, .int .u32 u.micro, .int .u32 u.had, .slice none 0 0])).push (.row false 0 [.bool high])).get h.size = some o0 := (((((Keep.push _ _).trans (Keep.push _ _)).trans (Keep.push _ _)).trans (Keep.push _ _)).trans (Keep.push _ _)).get (IHeap.get_pushed _ rfl)
    have w2 := (kl2.mono k1.kb).kb (KB.push _ (.row false 0 [.bool high]))
    have w4 := (kl4.mono k1.kb).kb (KB.push _ (.row false 0 [.bool high]))
    have w5 := (kl4.mono k2.kb).kb (KB.push _ (.row false 0 [.bool high]))
    have q1 := ct1 _ k1.kb
    have q2 := ct2 _ k2.kb
    have q4 := ct4 _ k3.kb
    have t1 := at_c (sb1.keep k1) us
    have t2 := at_c (sb2.keep k2) (by omega)
    have t3 := at_c (sb4.keep k3) uh
    rw [ho0] at r1 r2 r3 r4 r5 r6 q1 q2 q3 q4 t1 t2 t3 t4 x0 x5 w2 w4 w5
    simp (maxSteps := 1000000) (disch := first | (simp; done) | (simp only [IHeap.size_push', IHeap.size_set']; omega) | omega) [a0, hn, hd, hR, c16, r1, q1]
    refine FN.of t1 ?_
    simp (maxSteps := 1000000) (disch := first | (simp; done) | (simp only [IHeap.size_push', IHeap.size_set']; omega) | omega) [a0, hn, hd, hR, c16, r1, r2, q1, q2]
    refine FN.of t2 ?_
    simp (maxSteps := 1000000) (disch := first | (simp; done) | (simp only [IHeap.size_push', IHeap.size_set']; omega) | omega) [a0, hn, hd, hR, c16, r1, r2, r3, q1, q2, q4]
    refine FN.of t3 ?_
    simp (maxSteps := 1000000) (disch := first | (simp; done) | (simp only [IHeap.size_push', IHeap.size_set']; omega) | omega) [a0, hn, hd, hR, c16, r1, r2, r3, r4, r5, q1, q2, q4, q3]
    refine ⟨niC_pend [(6, 10), (6, 12), (6, 17), (13, 17), (6, 19), (13, 19)] (by kernel_rfl) ⟨r2.trans r1.symm, w2, r2.trans r1.symm, r3.trans r2.symm, w4, w5, trivial⟩, ?_⟩
    refine FN.of t4 ?_
    have g1 : ¬ (1000000 : Int) ≤ u.micro := by omega
    have g2 : ¬ (u.had : Int) < m := by omega
    have g3 : ¬ (most : Int) < m := by omega
    have n0 : IntKind.u32.wrap (16 + (m : Int)) = ((16 + m : Nat) : Int) := by
      simp [IntKind.wrap, IntKind.signed, IntKind.bits]
      omega
    obtain ⟨a, ha⟩ : ∃ a, 16 + m = a := ⟨_, rfl⟩
    by_cases c17 : (L.length : Int) < 16 + m
    · simp (maxSteps := 1000000) (disch := first | (simp; done) | (simp only [IHeap.size_push', IHeap.size_set']; omega) | omega) [a0, hn, hd, hR, c16, r1, r2, r3, r4, r5, r6, q1, q2, q4, q3, g1, g2, g3, x5, undef, c17]
      refine ⟨niC_pend [] (by kernel_rfl) trivial, .inl ⟨?_, rfl, ?_⟩⟩
      · show _ < 16 + _
        rw [hm]
        omega
      · rw [ho0] at k6
        exact k6
    · have a17 : a ≤ L.length := by omega
      obtain ⟨A5, c5, d5, ct5, kl5, sb5⟩ := cut_mid (K := .i64) (K2 := .u32) (a := 16) (b := a) b (by omega) a17 hx
      obtain ⟨A6, c6, d6, ct6, kl6, sb6⟩ := cut_tail (K := .u32) (a := a) b a17 hx
      obtain ⟨p6, p7⟩ := p5 (by omega)
      rw [ha] at n0 p7
      rw [show a - 16 = m by omega] at ct5 sb5
      rw [p6] at sb5
      replace ct5 : cutN Try.prog _ 26 (.slice A L.length c) (some (.int .i64 16)) (some (.int .u32 (a : Nat))) = some (.slice A5 m c5, .read d5) := ct5 _ (kl5.kb k6.kb)
      have lm : (u.xs.take m).length = m := by rw [List.length_take]; omega
      have cl := clone_c (sb5.keep k6) (by rw [lm]; omega)
      rw [ho0] at ct5 cl k6
      simp (maxSteps := 1000000) (disch := first | (simp; done) | (simp only [IHeap.size_push', IHeap.size_set']; omega) | omega) [a0, hn, hd, hR, c16, r1, r2, r3, r4, r5, r6, q1, q2, q4, q3, g1, g2, g3, x5, undef, c17, n0, ct5]
      refine ⟨niC_pend [] (by kernel_rfl) trivial, ?_⟩
      refine FN.mono cl ?_
      rintro v h1 ⟨ob, kc⟩
      have k7 := k6.trans kc
      have r7 := kc.get r6
      have x7 := kc.get x5
      have q6 := ct6 _ (kl6.kb k7.kb)
      have z7 := k7.le
      have z8 := kc.le
      simp only [IHeap.size_push'] at z8
      obtain ⟨D, d, rfl, _⟩ := id ob.slb
      have x8 := kc.get x0
      simp (maxSteps := 1000000) (disch := first | (simp; done) | (simp only [IHeap.size_push', IHeap.size_set']; omega) | omega) [a0, hn, hd, r7, x7, x8, q6, n0]
      have kbF : ∀ o1 o2 o3, KB h1 (((h1.set (h.size + 1 + 1 + 1 + 1) o1).set R o2).set h.size o3) := fun o1 o2 o3 => by
        refine (KB.set o1 x7 (by omega)).trans ((KB.set o2 (z := 0) (cs := rdr (atF high) most (.slice A L.length c)) ?_ (by omega)).trans (KB.set o3 (z := 0) (cs := [.int .u32 0, .int .u32 0, .int .u32 0, .slice none 0 0]) ?_ (by omega)))
        · rw [IHeap.get_set_ne _ (by omega)]
          exact r7
        · rw [IHeap.get_set_ne _ (by omega), IHeap.get_set_ne _ (by omega)]
          exact x8
      refine ⟨niC_pend [(5, 9), (9, 11)] (by kernel_rfl) ⟨(kl6.mono k6.kb).kb kc.kb, (kl6.mono k7.kb).kb (KB.set _ x7 (by omega)), trivial⟩, .inr ⟨u, U, .slice D m d, .slice A6 (L.length - a) c6, L.drop a, rfl, ?_, ?_, ?_, ?_, ?_, p7⟩⟩
      · rw [hm]
        rfl
      · rw [hm]
        rw [lm] at ob
        exact (ob.low (by simp only [IHeap.size_push']; omega)).kb (kbF _ _ _)
      · exact (((k7.set _ (by omega)).kr R).set _).setN _ (Nat.le_refl _)
      · rw [IHeap.get_set_ne _ (by omega), IHeap.get_set_same _ (by rw [IHeap.size_set']; omega)]
        rfl
      · exact sb6.kb (k7.kb.trans (kbF _ _ _))
end Go.Proofs.Ytkpbdhfaobmbpaa.Ideal
