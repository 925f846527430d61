import Derived.Test.YtkpbdhfaobmbpaaP43z
import Derived.Test.YtkpbdhfaobmbpaaI40
import Derived.Test.YtkpbdhfaobmbpaaSlice1
import Derived.Test.YtkpbdhfaobmbpaaSlice2
import Derived.Test.YtkpbdhfaobmbpaaOpen
noncomputable section
open Go.Proofs
namespace Go.Proofs.Ytkpbdhfaobmbpaa.Ideal
open Go.RowKit
set_option linter.unusedSimpArgs false
set_option linter.unusedVariables false
set_option maxRecDepth 100000
/-- A shot as it is handed in. -/
structure RS where
  sec : Nat
  micro : Nat
  had : Nat
  xs : List Nat
  A : Option Addr
  c : Nat
def RS.cells (r : RS) : List Value := [.int .u32 (r.sec : Nat), .int .u32 (r.micro : Nat), .int .u32 (r.had : Nat), .slice r.A r.xs.length r.c]
structure RS.good (r : RS) (W : World) : Prop where
  s1 : r.sec < 4294967296
  m1 : r.micro < 4294967296
  h1 : r.had < 4294967296
  b8 : ∀ x ∈ r.xs, x < 256
  ce : Cells W r.A (bys r.xs)
  nl : r.A = none → r.xs.length = 0 ∧ r.c = 0
  lc : r.xs.length ≤ r.c
  t0 : ∀ x, r.A = some x → r.c ≠ 0 → ∃ v, W.cell? x = some v
theorem wf_u32 {k : Int} (h : (Lit.int .u32 k).wf = true) : 0 ≤ k ∧ k < 4294967296 := by
  simp [Lit.wf, IntKind.min, IntKind.max, IntKind.signed, IntKind.bits] at h
  omega
theorem encB_bys (us : List UInt8) : encB us = bys (us.map (·.toNat)) := by
  simp [encB, bys, Function.comp_def]
theorem shots_open {W : World} : ∀ {rows : List (List Value)}, (∀ r ∈ rows, Leaves W [.int .u32, .int .u32, .int .u32, .bytes] r) → ∃ R : List RS, R.length = rows.length ∧ rows.flatten = R.flatMap RS.cells ∧ ∀ r ∈ R, r.good W
  | [], _ => ⟨[], rfl, rfl, by simp⟩
  | r :: rows, h => by
    obtain ⟨R, h1, h2, h3⟩ := shots_open (rows := rows) fun r hr => h r (by simp [hr])
    obtain ⟨_, t1, rfl, ⟨a, rfl, wa⟩, l1⟩ := (h r (by simp)).cons_inv
    obtain ⟨_, t2, rfl, ⟨b, rfl, wb⟩, l2⟩ := l1.cons_inv
    obtain ⟨_, t3, rfl, ⟨c, rfl, wc⟩, l3⟩ := l2.cons_inv
    obtain ⟨_, t4, rfl, ⟨A, cap, us, rfl, hce, hnl, _, hlc, ht⟩, l4⟩ := l3.cons_inv
    obtain rfl := List.eq_nil_of_length_eq_zero l4.1
    have wa := wf_u32 wa
    have wb := wf_u32 wb
    have wc := wf_u32 wc
    have ea : ((a.toNat : Nat) : Int) = a := by omega
    have eb : ((b.toNat : Nat) : Int) = b := by omega
    have ec : ((c.toNat : Nat) : Int) = c := by omega
    rw [encB_bys] at hce
    refine ⟨⟨a.toNat, b.toNat, c.toNat, us.map (·.toNat), A, cap⟩ :: R, by simp [h1], ?_, fun x hx => ?_⟩
    · rw [List.flatten_cons, List.flatMap_cons, h2]
      simp only [RS.cells, ea, eb, ec, List.length_map]
    · rcases List.mem_cons.1 hx with rfl | hx
      · refine ⟨by show a.toNat < _; omega, by show b.toNat < _; omega, by show c.toNat < _; omega, fun x hx => ?_, hce, by simpa using hnl, by simpa using hlc, ht⟩
        obtain ⟨u, _, rfl⟩ := List.mem_map.1 hx
        exact u.toNat_lt
      · exact h3 x hx
/-- Where a slice lies, whatever its cells are. -/
theorem slice_placeW {W : World} (k : Nat) {A : Option Addr} {len cap : Nat} {cs : List Value}
    (hnil : A = none → len = 0 ∧ cap = 0) (hcells : Cells W A cs) (t0 : ∀ x, A = some x → cap ≠ 0 → ∃ v, W.cell? x = some v) (h0 : cap = 0 → len = 0 ∧ cs = []) :
    ∃ (A' : Option Addr) (pl : Option RoPl), SlArg k A' len cap ∧ (∀ p, pl = some p → p.Real W cs) ∧ ∀ ρ : Rho, ρ k = pl.map (fun p => ⟨p.b, p.q, p.room, 0⟩) → VRel ρ (.slice A' len cap) (.slice A len cap) := by
  cases A with
  | none =>
    obtain ⟨rfl, rfl⟩ := hnil rfl
    exact ⟨none, none, .inl ⟨rfl, rfl, rfl⟩, (fun p h => by cases h), fun ρ _ => .base rfl⟩
  | some x =>
    by_cases hc0 : cap = 0
    · subst hc0
      obtain ⟨rfl, rfl⟩ := h0 rfl
      exact ⟨some ⟨k, 0, none⟩, none, .inr rfl, (fun p h => by cases h), fun ρ _ => .slc0⟩
    · obtain ⟨v, hv⟩ := t0 x rfl hc0
      obtain ⟨hs, c, e, fr, hb, hcv⟩ := cell_cells hv
      obtain ⟨b, q, s⟩ := x
      dsimp only at hs hb hcv
      subst hs
      have hq : q < c.size := (Array.getElem?_eq_some_iff.1 hcv).1
      have hc : ∀ (i : Nat) (u : Value), cs[i]? = some u → c[q + i]? = some u := by
        intro i u hu
        have hp : 0 < cs.length := by have := (List.getElem?_eq_some_iff.1 hu).1; omega
        obtain ⟨b', q', e1, e2⟩ := hcells hp
        cases e1
        obtain ⟨_, c', e', fr', hb', hcv'⟩ := cell_cells (e2 i u hu)
        dsimp only at hb' hcv'
        rw [hb] at hb'
        cases hb'
        exact hcv'
      have hsz : q + cs.length ≤ c.size := by
        by_cases hp : cs.length = 0
        · omega
        · have hl : cs.length - 1 < cs.length := by omega
          have := hc (cs.length - 1) _ (List.getElem?_eq_getElem hl)
          have := (Array.getElem?_eq_some_iff.1 this).1
          omega
      refine ⟨some ⟨k, 0, none⟩, some ⟨b, q, c.size⟩, .inr rfl, ?_, fun ρ hρ => ?_⟩
      · intro p hp
        cases hp
        exact ⟨c, e, fr, hb, rfl, hsz, fun i u hu => hc i u hu⟩
      · have := VRel.slc (ρ := ρ) (R := ⟨b, q, c.size, 0⟩) (o := 0) (n := len) (c := cap) (by simpa using hρ) (.inl rfl)
        simpa using this
/-- Where the bytes of shots lie. -/
theorem place_shots {W : World} : ∀ (R : List RS) (k0 : Nat), (∀ r ∈ R, r.good W) → ∃ (ps : List (Option RoPl)) (S : List SH), ps.length = R.length ∧ S.length = R.length ∧ (∀ (j : Nat) (p : RoPl), ps[j]? = some (some p) → ∃ r, R[j]? = some r ∧ p.Real W (bys r.xs)) ∧
    (∀ j s, S[j]? = some s → ∃ r A', R[j]? = some r ∧ s = ⟨r.sec, r.micro, r.had, r.xs, .slice A' r.xs.length r.c⟩ ∧ SlArg (k0 + j) A' r.xs.length r.c) ∧
    ∀ ρ : Rho, (∀ j p, ps[j]? = some p → ρ (k0 + j) = p.map (fun p => ⟨p.b, p.q, p.room, 0⟩)) → LRel ρ (shc S) (R.flatMap RS.cells)
  | [], k0, _ => ⟨[], [], rfl, rfl, fun j p h => by simp at h, fun j s h => by simp at h, fun ρ _ => ⟨rfl, fun i v hv => by simp [shc_nil] at hv⟩⟩
  | r :: R, k0, h => by
    obtain ⟨ps, S, h1, h2, h3, h4, h5⟩ := place_shots (W := W) R (k0 + 1) fun r hr => h r (by simp [hr])
    have g := h r (by simp)
    obtain ⟨A', pl, a1, a2, a3⟩ := slice_placeW (W := W) k0 g.nl g.ce g.t0 (fun h0 => by
      have : r.xs = [] := List.eq_nil_of_length_eq_zero (by have := g.lc; omega)
      rw [this]
      exact ⟨rfl, rfl⟩)
    refine ⟨pl :: ps, ⟨r.sec, r.micro, r.had, r.xs, .slice A' r.xs.length r.c⟩ :: S, by simp [h1], by simp [h2], fun j p hp => ?_, fun j s hs => ?_, fun ρ hρ => ?_⟩
    · cases j with
      | zero =>
        simp at hp
        exact ⟨r, rfl, a2 p hp⟩
      | succ j => exact h3 j p (by simpa using hp)
    · cases j with
      | zero =>
        simp at hs
        exact ⟨r, A', rfl, hs.symm, a1⟩
      | succ j =>
        obtain ⟨r', A2, e1, e2, e3⟩ := h4 j s (by simpa using hs)
        exact ⟨r', A2, e1, e2, by rw [show k0 + (j + 1) = k0 + 1 + j by omega]; exact e3⟩
    · rw [shc_cons, List.flatMap_cons]
      refine LRel.append ?_ (h5 ρ fun j p hp => by rw [show k0 + 1 + j = k0 + (j + 1) by omega]; exact hρ (j + 1) p (by simpa using hp))
      exact (plain_arel [.int .u32 (r.sec : Nat), .int .u32 (r.micro : Nat), .int .u32 (r.had : Nat)] rfl).append (lrel_one (a3 ρ (hρ 0 pl rfl)))
theorem bys_lrel (ρ : Rho) (xs : List Nat) : LRel ρ (bys xs) (bys xs) := by
  refine plain_arel _ ?_
  rw [List.all_eq_true]
  intro v hv
  obtain ⟨b, _, rfl⟩ := List.mem_map.1 hv
  rfl
/-- A slice of shots among arguments that hold no address. -/
theorem calls_shots1 {P : Program} {f : FuncId} {pre post : List Value} (p1 : pre.all plainV = true) (p3 : post.all plainV = true)
    {A : Option Addr} {len cap : Nat} {rows : List (List Value)} {W : World}
    (w5 : rows.length = len ∧ len ≤ cap ∧ (A = none → len = 0 ∧ cap = 0) ∧ cap ≤ maxLen ∧ (∀ r ∈ rows, Leaves W [.int .u32, .int .u32, .int .u32, .bytes] r) ∧ Cells W A rows.flatten) (t5 : ∀ x, A = some x → cap ≠ 0 → ∃ v, W.cell? x = some v)
    (c : ∀ (h : IHeap) (va : Value) (S : List SH), ShS h va S → S.length ≤ 9223372036854775807 → (∀ s ∈ S, s.had < 4294967296 ∧ ∀ x ∈ s.xs, x < 256) → ∃ h', ICall P f (pre ++ va :: post).toArray h (.bool true) h') :
    Calls P f (pre ++ .slice A len cap :: post).toArray W fun e W' => e = .returned (.bool true) ∧ Below W.heap.size W W' := by
  obtain ⟨hlen, hlc, hnil, hmax, hlv, hcells⟩ := w5
  obtain ⟨R, hR, hfl, gR⟩ := shots_open hlv
  rw [hfl] at hcells
  obtain ⟨ps, S, ps1, S1, pr1, sh1, lr1⟩ := place_shots R 1 gR
  obtain ⟨A', x, a1, a2, a3⟩ := slice_placeW (W := W) 0 hnil hcells t5 (fun h0 => by
    have : R = [] := List.eq_nil_of_length_eq_zero (by omega)
    subst this
    exact ⟨by omega, rfl⟩)
  obtain ⟨rws, hrw⟩ : ∃ l, l = shc S :: R.map (fun r => bys r.xs) := ⟨_, rfl⟩
  obtain ⟨pls, hpl⟩ : ∃ l, l = x :: ps := ⟨_, rfl⟩
  have plen : pls.length = rws.length := by rw [hrw, hpl]; simp [ps1]
  have rhoA : ∀ j p, ps[j]? = some p → rhoN pls (1 + j) = p.map (fun p => ⟨p.b, p.q, p.room, 0⟩) := fun j p hp => rhoN_at (by
    rw [hpl, show 1 + j = j + 1 by omega, List.getElem?_cons_succ]
    exact hp)
  have rowA : ∀ j r, R[j]? = some r → (roN rws).get (1 + j) = some (.row true 0 (bys r.xs)) := fun j r hr => roN_get (by
    rw [hrw, show 1 + j = j + 1 by omega, List.getElem?_cons_succ, List.getElem?_map, hr]
    rfl)
  have key : ∀ {k : Nat} {r : RS} {A' : Option Addr}, r.good W → (roN rws).get k = some (.row true 0 (bys r.xs)) → SlArg k A' r.xs.length r.c → SlB (roN rws) (.slice A' r.xs.length r.c) r.xs := by
    intro k r A' g hg ha
    rcases ha with ⟨rfl, h1, h2⟩ | rfl
    · exact ⟨none, r.c, rfl, fun _ => ⟨h2, List.eq_nil_of_length_eq_zero h1⟩, fun hne => absurd rfl hne, by omega⟩
    · exact ⟨_, r.c, rfl, fun h => (by cases h), fun _ => ⟨k, 0, true, 0, _, rfl, .inl ⟨rfl, rfl⟩, hg, slots_full _ (bys_len _).symm⟩, g.lc⟩
  have okS : ∀ s ∈ S, s.ok (roN rws) ∧ s.had < 4294967296 ∧ ∀ x ∈ s.xs, x < 256 := fun s hs => by
    obtain ⟨j, hj, rfl⟩ := List.mem_iff_getElem.1 hs
    obtain ⟨r, A2, e1, e2, e3⟩ := sh1 j _ (List.getElem?_eq_getElem hj)
    have g := gR r (List.mem_of_getElem? e1)
    rw [e2]
    exact ⟨⟨key g (rowA j r e1) e3, g.s1, g.m1⟩, g.h1, g.b8⟩
  have shS : ShS (roN rws) (.slice A' len cap) S := by
    refine ⟨A', cap, by rw [S1, hR, hlen], fun h => ?_, by omega, fun hne => ?_, fun s hs => (okS s hs).1⟩
    · rcases a1 with ⟨_, _, h2⟩ | h2
      · exact h2
      · rw [h] at h2; cases h2
    · rcases a1 with ⟨_, h1, _⟩ | rfl
      · exact absurd (List.eq_nil_of_length_eq_zero (by omega)) hne
      · exact ⟨0, 0, true, 0, _, rfl, roN_get (by rw [hrw]; rfl), .inl rfl, slots_full _ (shc_len S).symm⟩
  have mx : maxLen = 9223372036854775807 := by decide
  obtain ⟨h', cc⟩ := c (roN rws) _ S shS (by omega) (fun s hs => (okS s hs).2)
  refine calls_init cc (ρ := rhoN pls) ?_ (roN_models plen ?_) (fun i hi => rhoN_out (by rw [roN_size] at hi; omega)) roN_only
  · exact ARel.of_list ((plain_arel pre p1).append ((lrel_one (a3 _ (rhoN_at (by rw [hpl]; rfl)))).append (plain_arel post p3)))
  · intro i cs p h1 h2
    match i with
    | 0 =>
      rw [hrw] at h1
      rw [hpl] at h2
      simp at h1 h2
      subst h1
      exact ⟨_, a2 p h2, lr1 _ rhoA⟩
    | i + 1 =>
      rw [hrw, List.getElem?_cons_succ, List.getElem?_map] at h1
      rw [hpl, List.getElem?_cons_succ] at h2
      obtain ⟨r, hr, rfl⟩ := Option.map_eq_some_iff.1 h1
      refine ⟨_, ?_, bys_lrel _ _⟩
      obtain ⟨r', e1, e2⟩ := pr1 i p h2
      rw [hr] at e1
      cases e1
      exact e2
theorem wf_u8 {k : Int} (h : (Lit.int .u8 k).wf = true) : 0 ≤ k ∧ k < 256 := by
  simp [Lit.wf, IntKind.min, IntKind.max, IntKind.signed, IntKind.bits] at h
  omega
theorem walkBack (a0 : Int) (b : Bool) (A : Option Addr) (len cap : Nat) (rows : List (List Value)) (a3 : Int) (W : World) (w0 : (Lit.int .u32 a0).wf = true)
    (w5 : rows.length = len ∧ len ≤ cap ∧ (A = none → len = 0 ∧ cap = 0) ∧ cap ≤ maxLen ∧ (∀ r ∈ rows, Leaves W [.int .u32, .int .u32, .int .u32, .bytes] r) ∧ Cells W A rows.flatten) (t5 : ∀ x, A = some x → cap ≠ 0 → ∃ v, W.cell? x = some v) (w3 : (Lit.int .u8 a3).wf = true) :
    Calls Try.prog 3 #[.int .u32 a0, .bool b, .slice A len cap, .int .u8 a3] W fun e W' => e = .returned (.bool true) ∧ Below W.heap.size W W' := by
  have w3 := wf_u8 w3
  have w0 := wf_u32 w0
  refine calls_shots1 (pre := [.int .u32 a0, .bool b]) (post := [.int .u8 a3]) rfl rfl w5 t5 fun h va S x hS hh => ?_
  have e1 : ((a3.toNat : Nat) : Int) = a3 := by omega
  have e2 : ((a0.toNat : Nat) : Int) = a0 := by omega
  obtain ⟨v, h', cc, hv⟩ := back_c (most := a0.toNat) (high := b) (part := a3.toNat) x hS (fun s hs => (hh s hs).1) (by omega) (by omega)
  rw [e1, e2] at cc
  obtain rfl : v = .bool true := hv
  exact ⟨h', cc⟩
end Go.Proofs.Ytkpbdhfaobmbpaa.Ideal
