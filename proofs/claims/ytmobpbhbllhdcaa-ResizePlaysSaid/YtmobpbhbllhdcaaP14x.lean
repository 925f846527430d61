import Derived.Test.YtmobpbhbllhdcaaP14w
noncomputable section
open Go.Proofs
namespace Go.Proofs.Ytmobpbhbllhdcaa.Ideal
open Go.RowKit
set_option linter.unusedSimpArgs false
set_option linter.unusedVariables false
set_option linter.unusedSectionVars false
set_option maxRecDepth 100000
set_option maxHeartbeats 4000000
/-- Hashes are in range. -/
def HR (l : List PL) : Prop := ∀ c ∈ l, 0 ≤ c.1 ∧ c.1 < 18446744073709551616
structure HOK (g : GT) : Prop where
  now : HR g.now.ps
  nx : ∀ t, g.nx = some t → HR t.ps
theorem HR.new (n : Nat) : HR (newTB n).ps := fun c hc => by
  have := List.eq_of_mem_replicate hc
  subst this
  exact ⟨by decide, by decide⟩
theorem HR.put {t : TB} (x : HR t.ps) {hash what : Int} (hh : 0 ≤ hash ∧ hash < 18446744073709551616) : HR (t.put hash what).ps := by
  unfold TB.put
  split
  · intro c hc
    simp only [TB.putAt] at hc
    rcases List.mem_or_eq_of_mem_set hc with h | h
    · exact x c h
    · subst h; exact hh
  · exact x
theorem HR.drop {t : TB} (x : HR t.ps) (i : Int) : HR (t.drop i).ps := by
  unfold TB.drop
  split
  · intro c hc
    rcases List.mem_or_eq_of_mem_set hc with h | h
    · exact x c h
    · subst h; exact ⟨by decide, by decide⟩
  · exact x
theorem HOK.begin {g : GT} (x : HOK g) : HOK g.begin := by
  unfold GT.begin
  split
  · refine ⟨x.now, fun t ht => ?_⟩
    cases ht
    exact HR.new _
  · exact x
theorem HOK.put {g : GT} (x : HOK g) {hash what : Int} (hh : 0 ≤ hash ∧ hash < 18446744073709551616) : HOK (g.put hash what) := by
  have xb := x.begin
  unfold GT.put
  generalize g.begin = b at xb
  cases hx : b.nx with
  | some t =>
    simp only
    split
    · refine ⟨xb.now, fun s hs => ?_⟩
      cases hs
      exact (xb.nx t hx).put hh
    · exact xb
  | none =>
    simp only
    split
    · refine ⟨xb.now.put hh, fun s hs => ?_⟩
      have hs : b.nx = some s := hs
      rw [hx] at hs
      cases hs
    · exact xb
theorem HOK.drop {g : GT} (x : HOK g) (hash what : Int) : HOK (g.drop hash what) := by
  unfold GT.drop
  split
  · exact ⟨x.now.drop _, x.nx⟩
  · split
    · rename_i t ht
      refine ⟨x.now, fun s hs => ?_⟩
      cases hs
      exact (x.nx _ ht).drop _
    · exact x
theorem HOK.step1 {g : GT} {t : TB} (x : HOK g) (hx : g.nx = some t) : HR (g.step1 t).1.ps ∧ HR (g.step1 t).2.ps := by
  unfold GT.step1
  cases hc : g.now.ps[g.cur]? with
  | none => exact ⟨x.now, x.nx t hx⟩
  | some c =>
    simp only
    split
    · exact ⟨x.now.drop _, (x.nx t hx).put (x.now c (List.mem_of_getElem? hc))⟩
    · exact ⟨x.now, x.nx t hx⟩
theorem HOK.step {g : GT} (x : HOK g) : HOK g.step := by
  unfold GT.step
  cases hx : g.nx with
  | none => exact x
  | some t =>
    obtain ⟨a, b⟩ := x.step1 hx
    simp only
    split
    · exact ⟨b, fun s hs => by cases hs⟩
    · refine ⟨a, fun s hs => ?_⟩
      cases hs
      exact b
/-- What the rows of the program's tables are like, and those of the document's that are written. -/
def GRow (o : IObj) : Prop := (∃ a b c d, o = .row false 0 [.pointer a, b, c, .int .i64 d]) ∨ (∃ a b c, o = .row false 0 [a, .int .i64 b, .int .i64 c]) ∨ ∃ cs, o = .row false 3 cs
def WRow (o : IObj) : Prop := (∃ a b c d e, o = .row false 0 [a, b, c, d, e]) ∨ (∃ a b n c d, o = .row false 0 [a, .slice b n c, d]) ∨ (∃ cs, o = .row false 1 cs) ∨ ∃ cs, o = .row false 2 cs
theorem GRow.notW {o : IObj} (x : GRow o) : ¬ WRow o := by
  rintro (⟨a, b, c, d, e, h⟩ | ⟨a, b, n, c, d, h⟩ | ⟨cs, h⟩ | ⟨cs, h⟩) <;> subst h <;> rcases x with ⟨_, _, _, _, h⟩ | ⟨_, _, _, h⟩ | ⟨_, h⟩ <;> simp at h
theorem GAt.rows {g : GT} {h : IHeap} {G p q p' q' : Nat} (x : GAt g h G p q p' q') (ok : GOK g) : ∀ i, g.own G p q p' q' i → ∃ o, h.get i = some o ∧ GRow o := by
  rintro i (rfl | rfl | rfl | ⟨hx, rfl | rfl⟩)
  · exact ⟨_, x.gG, .inl ⟨_, _, _, _, rfl⟩⟩
  · exact ⟨_, x.now.gp, .inr (.inl ⟨_, _, _, rfl⟩)⟩
  · exact ⟨_, (x.now.gq ok.l.ne).1, .inr (.inr ⟨_, rfl⟩)⟩
  · obtain ⟨t, ht⟩ := Option.ne_none_iff_exists'.1 hx
    obtain ⟨_, _, xa⟩ := x.apart2 ht (ok.x t ht).2.1.ne
    exact ⟨_, xa.gp, .inr (.inl ⟨_, _, _, rfl⟩)⟩
  · obtain ⟨t, ht⟩ := Option.ne_none_iff_exists'.1 hx
    obtain ⟨_, _, xa⟩ := x.apart2 ht (ok.x t ht).2.1.ne
    exact ⟨_, (xa.gq (ok.x t ht).2.1.ne).1, .inr (.inr ⟨_, rfl⟩)⟩
theorem GAt.lt {g : GT} {h : IHeap} {G p q p' q' : Nat} (x : GAt g h G p q p' q') (ok : GOK g) : ∀ i, g.own G p q p' q' i → i < h.size := fun i hi => by
  obtain ⟨o, ho, _⟩ := x.rows ok i hi
  exact IHeap.get_lt ho
theorem GAt.same {g : GT} {h h' : IHeap} {G p q p' q' : Nat} (x : GAt g h G p q p' q') (ok : GOK g) (k : ∀ i, g.own G p q p' q' i → h'.get i = h.get i) : GAt g h' G p q p' q' := by
  refine ⟨(k _ (.inl rfl)).trans x.gG, ⟨(k _ (.inr (.inl rfl))).trans x.now.gp, fun hc => ⟨(k _ (.inr (.inr (.inl rfl)))).trans (x.now.gq hc).1, (x.now.gq hc).2⟩⟩, ?_, x.ap⟩
  cases hx : g.nx with
  | none => exact .inl ⟨nxA_none hx p', nxT_none hx⟩
  | some t =>
    obtain ⟨m1, m2, xa⟩ := x.apart2 hx (ok.x t hx).2.1.ne
    have nn : g.nx ≠ none := by rw [hx]; simp
    rw [nxT_some hx]
    exact .inr ⟨p', nxA_some hx p', ⟨(k _ (.inr (.inr (.inr ⟨nn, .inl rfl⟩)))).trans xa.gp, fun hc => ⟨(k _ (.inr (.inr (.inr ⟨nn, .inr rfl⟩)))).trans (xa.gq hc).1, (xa.gq hc).2⟩⟩⟩
theorem GAt.any {g : GT} {h : IHeap} {G p q p' q' : Nat} (x : GAt g h G p q p' q') (hx : g.nx = none) (a b : Nat) : GAt g h G p q a b := by
  refine ⟨?_, x.now, .inl ⟨nxA_none hx a, nxT_none hx⟩, fun hn => absurd hx hn⟩
  rw [x.gG, nxA_none hx, nxA_none hx]
theorem WAt.any {g : GT} {h : IHeap} {W pw pw' : Nat} (x : WAt g h W pw pw') (hx : g.nx = none) (a : Nat) : WAt g h W pw a := by
  refine ⟨?_, x.now, fun t ht => by rw [hx] at ht; cases ht⟩
  rw [x.gW, nxA_none hx, nxA_none hx]
def IS (z : Nat) (h : IHeap) (g : GT) (G : Nat) : Prop := ∃ p q p' q', GAt g h G p q p' q' ∧ z ≤ G ∧ z ≤ p ∧ z ≤ q ∧ z ≤ p' ∧ z ≤ q'
def WS (z : Nat) (h : IHeap) (g : GT) (W : Nat) : Prop := ∃ pw pw', WAt g h W pw pw' ∧ z ≤ W ∧ z ≤ pw ∧ z ≤ pw'
theorem IS.of {z : Nat} {h : IHeap} {g : GT} {G p q p' q' : Nat} (x : GAt g h G p q p' q') (k : ∀ i, g.own G p q p' q' i → z ≤ i) : IS z h g G := by
  have hG := k _ (.inl rfl)
  have hp := k _ (.inr (.inl rfl))
  have hq := k _ (.inr (.inr (.inl rfl)))
  by_cases hx : g.nx = none
  · exact ⟨p, q, z, z, x.any hx z z, hG, hp, hq, Nat.le_refl _, Nat.le_refl _⟩
  · exact ⟨p, q, p', q', x, hG, hp, hq, k _ (.inr (.inr (.inr ⟨hx, .inl rfl⟩))), k _ (.inr (.inr (.inr ⟨hx, .inr rfl⟩)))⟩
theorem WS.of {z : Nat} {h : IHeap} {g : GT} {W pw pw' : Nat} (x : WAt g h W pw pw') (k : ∀ i, g.wown W pw pw' i → z ≤ i) : WS z h g W := by
  have hG := k _ (.inl rfl)
  have hp := k _ (.inr (.inl rfl))
  by_cases hx : g.nx = none
  · exact ⟨pw, z, x.any hx z, hG, hp, Nat.le_refl _⟩
  · exact ⟨pw, pw', x, hG, hp, k _ (.inr (.inr ⟨hx, rfl⟩))⟩
/-- What lay there stays, but for rows of the program's tables that lie from z on. -/
structure KI (z : Nat) (h h' : IHeap) : Prop where
  size : h.size ≤ h'.size
  low : ∀ i, i < h.size → i < z → h'.get i = h.get i
  get : ∀ i o, h.get i = some o → ¬ GRow o → h'.get i = some o
/-- .. of the document's. -/
structure KW (z : Nat) (h h' : IHeap) : Prop where
  size : h.size ≤ h'.size
  low : ∀ i, i < h.size → i < z → h'.get i = h.get i
  get : ∀ i o, h.get i = some o → ¬ WRow o → h'.get i = some o
theorem KI.of {z : Nat} {S : Nat → Prop} {h h' : IHeap} (k : KS S h h') (hz : ∀ i, S i → z ≤ i) (hr : ∀ i, S i → ∃ o, h.get i = some o ∧ GRow o) : KI z h h' := by
  refine ⟨k.size, fun i hi hl => k.get i hi (fun hS => by have := hz i hS; omega), fun i o ho hn => ?_⟩
  rw [k.get i (IHeap.get_lt ho) (fun hS => by
    obtain ⟨o2, h1, h2⟩ := hr i hS
    rw [ho] at h1
    cases h1
    exact hn h2), ho]
theorem KW.of {z : Nat} {S : Nat → Prop} {h h' : IHeap} (k : KS S h h') (hz : ∀ i, S i → z ≤ i) (hr : ∀ i, S i → ∃ o, h.get i = some o ∧ WRow o) : KW z h h' := by
  refine ⟨k.size, fun i hi hl => k.get i hi (fun hS => by have := hz i hS; omega), fun i o ho hn => ?_⟩
  rw [k.get i (IHeap.get_lt ho) (fun hS => by
    obtain ⟨o2, h1, h2⟩ := hr i hS
    rw [ho] at h1
    cases h1
    exact hn h2), ho]
theorem WAt.rows {g : GT} {h : IHeap} {W pw pw' : Nat} (x : WAt g h W pw pw') : ∀ i, g.wown W pw pw' i → ∃ o, h.get i = some o ∧ WRow o := by
  rintro i (rfl | rfl | ⟨hx, rfl⟩)
  · exact ⟨_, x.gW, .inl ⟨_, _, _, _, _, rfl⟩⟩
  · obtain ⟨_, _, _, xn⟩ := x.now
    exact ⟨_, xn.gp, .inr (.inl ⟨_, _, _, _, _, rfl⟩)⟩
  · obtain ⟨t, ht⟩ := Option.ne_none_iff_exists'.1 hx
    obtain ⟨⟨_, _, _, xx⟩, _⟩ := x.nx t ht
    exact ⟨_, xx.gp, .inr (.inl ⟨_, _, _, _, _, rfl⟩)⟩
theorem RAt.ki {l : List PL} {z : Nat} {h h' : IHeap} {pw rf rm re : Nat} (x : RAt l h pw rf rm re) (k : KI z h h') : RAt l h' pw rf rm re := by
  have nw : ∀ o, WRow o → ¬ GRow o := fun o hw hg => hg.notW hw
  exact ⟨k.get _ _ x.gp (nw _ (.inr (.inl ⟨_, _, _, _, _, rfl⟩))), k.get _ _ x.gf (nw _ (.inr (.inr (.inl ⟨_, rfl⟩)))), k.get _ _ x.gm (nw _ (.inr (.inr (.inl ⟨_, rfl⟩)))), k.get _ _ x.ge (nw _ (.inr (.inr (.inr ⟨_, rfl⟩)))), x.ne, x.len⟩
theorem WS.ki {z : Nat} {h h' : IHeap} {g : GT} {W : Nat} (x : WS z h g W) (k : KI z h h') : WS z h' g W := by
  obtain ⟨pw, pw', w, z1, z2, z3⟩ := x
  have nw : ∀ o, WRow o → ¬ GRow o := fun o hw hg => hg.notW hw
  obtain ⟨a, b, c, xn⟩ := w.now
  refine ⟨pw, pw', ⟨k.get _ _ w.gW (nw _ (.inl ⟨_, _, _, _, _, rfl⟩)), ⟨a, b, c, xn.ki k⟩, fun t ht => ?_⟩, z1, z2, z3⟩
  obtain ⟨⟨d, e, f, xx⟩, ne⟩ := w.nx t ht
  exact ⟨⟨d, e, f, xx.ki k⟩, ne⟩
theorem IS.kw {z : Nat} {h h' : IHeap} {g : GT} {G : Nat} (x : IS z h g G) (ok : GOK g) (k : KW z h h') : IS z h' g G := by
  obtain ⟨p, q, p', q', x, zz⟩ := x
  refine ⟨p, q, p', q', x.same ok (fun i hi => ?_), zz⟩
  obtain ⟨o, ho, hr⟩ := x.rows ok i hi
  rw [ho]
  exact k.get i o ho hr.notW
theorem IS.own {z : Nat} {g : GT} {G p q p' q' : Nat} (zz : z ≤ G ∧ z ≤ p ∧ z ≤ q ∧ z ≤ p' ∧ z ≤ q') : ∀ i, g.own G p q p' q' i → z ≤ i := by
  rintro i (rfl | rfl | rfl | ⟨hx, rfl | rfl⟩) <;> omega
theorem WS.own {z : Nat} {g : GT} {W pw pw' : Nat} (zz : z ≤ W ∧ z ≤ pw ∧ z ≤ pw') : ∀ i, g.wown W pw pw' i → z ≤ i := by
  rintro i (rfl | rfl | ⟨hx, rfl⟩) <;> omega
theorem IS.ext {z : Nat} {h h' : IHeap} {g : GT} {G : Nat} (x : IS z h g G) (k : ∀ i, i < h.size → h'.get i = h.get i) : IS z h' g G := by
  obtain ⟨p, q, p', q', x, zz⟩ := x
  exact ⟨p, q, p', q', x.inv k, zz⟩
theorem WS.ext {z : Nat} {h h' : IHeap} {g : GT} {W : Nat} (x : WS z h g W) (k : ∀ i, i < h.size → h'.get i = h.get i) : WS z h' g W := by
  obtain ⟨pw, pw', x, zz⟩ := x
  exact ⟨pw, pw', x.inv k, zz⟩
section
variable {z : Nat} {h : IHeap} {g : GT} {G W : Nat} {hash what : Int}
theorem iput_c (x : IS z h g G) (hz : z ≤ h.size) (ok : GOK g) (hh : 0 ≤ hash ∧ hash < 18446744073709551616) :
    FN Try.prog 9 #[.pointer (some ⟨G, 0, none⟩), .agg #[.int .u64 hash, .int .u32 what]] h (Q := ⟨fun v h' => v = .int .i64 (g.putE hash) ∧ IS z h' (g.put hash what) G ∧ KI z h h'⟩) := by
  obtain ⟨p, q, p', q', x, zz⟩ := x
  refine FN.mono (gput_c x ok hh) ?_
  rintro v h2 ⟨hv, ⟨p2, q2, x2, pq, ks⟩⟩
  refine ⟨hv, ⟨p, q, p2, q2, x2, by omega, by omega, by omega, by omega, by omega⟩, KI.of ks (IS.own zz) (x.rows ok)⟩
theorem idrop_c (x : IS z h g G) (ok : GOK g) (hh : 0 ≤ hash ∧ hash < 18446744073709551616) :
    FN Try.prog 8 #[.pointer (some ⟨G, 0, none⟩), .agg #[.int .u64 hash, .int .u32 what]] h (Q := ⟨fun v h' => v = .int .i64 (g.dropE hash what) ∧ IS z h' (g.drop hash what) G ∧ KI z h h'⟩) := by
  obtain ⟨p, q, p', q', x, zz⟩ := x
  refine FN.mono (gdrop_c x ok hh) ?_
  rintro v h2 ⟨hv, x2, ks⟩
  exact ⟨hv, ⟨p, q, p', q', x2, zz⟩, KI.of ks (IS.own zz) (x.rows ok)⟩
theorem istep_c (x : IS z h g G) (ok : GOK g) (mv : g.mv) (hk : HOK g) :
    FN Try.prog 11 #[.pointer (some ⟨G, 0, none⟩)] h (Q := ⟨fun v h' => v = .bool g.step.nx.isSome ∧ IS z h' g.step G ∧ KI z h h'⟩) := by
  obtain ⟨p, q, p', q', x, zz⟩ := x
  refine FN.mono (gstep_c x ok mv hk.now) ?_
  rintro v h2 ⟨hv, ⟨p2, q2, p3, q3, x2, sub⟩, ks⟩
  exact ⟨hv, IS.of x2 (fun i hi => IS.own zz i (sub i hi)), KI.of ks (IS.own zz) (x.rows ok)⟩
theorem wput2_c (x : WS z h g W) (hz : z ≤ h.size) (ok : GOK g) (hh : 0 ≤ hash ∧ hash < 18446744073709551616) :
    FN Try.prog 16 #[.pointer (some ⟨W, 0, none⟩), .agg #[.int .u64 hash, .int .u32 what]] h (Q := ⟨fun v h' => v = .int .i64 (g.putE hash) ∧ WS z h' (g.put hash what) W ∧ KW z h h'⟩) := by
  obtain ⟨pw, pw', x, zz⟩ := x
  refine FN.mono (wput_c x ok hh) ?_
  rintro v h2 ⟨hv, ⟨p2, x2, pq⟩, ks⟩
  exact ⟨hv, ⟨pw, p2, x2, by omega, by omega, by omega⟩, KW.of ks (WS.own zz) x.rows⟩
theorem wdrop2_c (x : WS z h g W) (ok : GOK g) (hh : 0 ≤ hash ∧ hash < 18446744073709551616) :
    FN Try.prog 17 #[.pointer (some ⟨W, 0, none⟩), .agg #[.int .u64 hash, .int .u32 what]] h (Q := ⟨fun v h' => v = .int .i64 (g.dropE hash what) ∧ WS z h' (g.drop hash what) W ∧ KW z h h'⟩) := by
  obtain ⟨pw, pw', x, zz⟩ := x
  refine FN.mono (wdrop_c x ok hh) ?_
  rintro v h2 ⟨hv, x2, ks⟩
  exact ⟨hv, ⟨pw, pw', x2, zz⟩, KW.of ks (WS.own zz) x.rows⟩
theorem wstep2_c (x : WS z h g W) (ok : GOK g) (mv : g.mv) (hk : HOK g) :
    FN Try.prog 18 #[.pointer (some ⟨W, 0, none⟩)] h (Q := ⟨fun v h' => v = .bool g.step.nx.isSome ∧ WS z h' g.step W ∧ KW z h h'⟩) := by
  obtain ⟨pw, pw', x, zz⟩ := x
  refine FN.mono (wstep_c x ok mv hk.now) ?_
  rintro v h2 ⟨hv, ⟨p2, p3, x2, sub⟩, ks⟩
  exact ⟨hv, WS.of x2 (fun i hi => WS.own zz i (sub i hi)), KW.of ks (WS.own zz) x.rows⟩
end
end Go.Proofs.Ytmobpbhbllhdcaa.Ideal
