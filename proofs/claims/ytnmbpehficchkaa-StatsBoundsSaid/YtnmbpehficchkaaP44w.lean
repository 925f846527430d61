import Derived.Test.YtnmbpehficchkaaP44v
import Derived.Test.YtnmbpehficchkaaBase
noncomputable section
open Go.Proofs
namespace Go.Proofs.Ytnmbpehficchkaa.Ideal
open Go.RowKit
set_option linter.unusedSimpArgs false
set_option linter.unusedVariables false
set_option linter.unusedSectionVars false
set_option maxRecDepth 100000
set_option maxHeartbeats 4000000
/-- Zeros behind bytes. -/
def zerosB : Nat → ByteArray → ByteArray
  | 0, acc => acc
  | n + 1, acc => zerosB n (acc.push 0)
theorem add_add (a : Addr) (i : Nat) : (a.add 1).add i = a.add (i + 1) := by
  unfold Addr.add
  by_cases h : i = 0
  · subst h
    simp
  · simp [h]
    omega
theorem run_loadZ {P : Program} {w : World} : ∀ (n : Nat) (a : Addr) (acc : ByteArray), (∀ i, i < n → w.cell? (a.add i) = some (.int .u8 0)) → (Extern.Bytes.loadBytes a n acc).run P w = .ok (zerosB n acc) w
  | 0, a, acc, _ => rfl
  | n + 1, a, acc, h => by
    have h0 := h 0 (by omega)
    have e0 : a.add 0 = a := rfl
    rw [e0] at h0
    have ih := run_loadZ (P := P) n (a.add 1) (acc.push 0) (fun i hi => by rw [add_add]; exact h (i + 1) (by omega))
    unfold Extern.Bytes.loadBytes
    simp only [Sem.run_bind, run_load, h0, Result.andThen]
    exact ih
theorem cmp_zero : Extern.BytealgCompare.cmp (zerosB 16 .empty) (zerosB 16 .empty) = 0 := by kernel_rfl
theorem run_cmpZ {P : Program} {w : World} {a b : Addr} {c d : Nat} (ha : ∀ i, i < 16 → w.cell? (a.add i) = some (.int .u8 0)) (hb : ∀ i, i < 16 → w.cell? (b.add i) = some (.int .u8 0)) : (Extern.BytealgCompare.compare #[.slice (some a) 16 c, .slice (some b) 16 d]).run P w = .ok (.int .i64 0) w := by
  change Sem.run P (do pure (goInt (Extern.BytealgCompare.cmp (← Extern.Bytes.loadBytes a 16 .empty) (← Extern.Bytes.loadBytes b 16 .empty)))) w = _
  simp only [Sem.run_bind, Sem.run_pure, Result.andThen, run_loadZ 16 a .empty ha, run_loadZ 16 b .empty hb, cmp_zero]
  rfl
theorem bcmp_calls (a b : Addr) (c d : Nat) (w : World) (ha : ∀ i, i < 16 → w.cell? (a.add i) = some (.int .u8 0)) (hb : ∀ i, i < 16 → w.cell? (b.add i) = some (.int .u8 0)) : Calls Try.prog 56 #[.slice (some a) 16 c, .slice (some b) 16 d] w fun e w' => e = .returned (.int .i64 0) ∧ w' = w := by
  go_enter Try.func56, Try.ntmps56
  go_wp2
  rw [run_callFunc_extern Try.func72 (by kernel_rfl) (by kernel_rfl) (by kernel_rfl) (e := Extern.BytealgCompare.compare) (by kernel_rfl), run_cmpZ ha hb]
  simp only [Result.andThen]
  rw [Oper.upon_value]
  go_wp2
  go_ret
  exact ⟨rfl, rfl⟩
theorem arg16 {ρ : Rho} {h : IHeap} {w : World} {p q z : Nat} {cs : List Value} {v' : Value} (hp : h.get p = some (.row false z cs)) (hs : slots cs q 16 = some z16) (rb : VRel ρ (.slice (some ⟨p, q, none⟩) 16 16) v') (hm : Models ρ h w) :
    ∃ a c, v' = .slice (some a) 16 c ∧ ∀ i, i < 16 → w.cell? (a.add i) = some (.int .u8 0) := by
  rcases rb.slc_inv with ⟨R, c', hR, hc, e0⟩ | ⟨h0, _⟩
  · refine ⟨⟨R.block, R.off + q, none⟩, c', e0, fun i hi => ?_⟩
    obtain ⟨ob, hob, ho⟩ := hm.obj p R _ hp hR
    obtain ⟨c, e, fr, rfl, _, _, _, _, hcs⟩ := ho.cells
    have hv : cs[q + i]? = some (.int .u8 0) := by
      unfold slots at hs
      split at hs
      · have h2 := Option.some.inj hs
        have h3 : ((cs.drop q).take 16)[i]? = z16[i]? := by rw [h2]
        rw [List.getElem?_take_of_lt hi, List.getElem?_drop] at h3
        rw [h3]
        unfold z16
        rw [List.getElem?_replicate, if_pos hi]
      · cases hs
    obtain ⟨v2, g1, g2⟩ := hcs (q + i) _ hv
    rw [Addr.add_mid, cell_of hob]
    rw [g2.int_inv] at g1
    simpa [Nat.add_assoc] using g1
  · omega
theorem bcmp_c {h : IHeap} {p q p' q' : Nat} {z z' : Nat} {cs cs' : List Value} (hp : h.get p = some (.row false z cs)) (hs : slots cs q 16 = some z16) (hp' : h.get p' = some (.row false z' cs')) (hs' : slots cs' q' 16 = some z16) : ICall Try.prog 56 #[.slice (some ⟨p, q, none⟩) 16 16, .slice (some ⟨p', q', none⟩) 16 16] h (.int .i64 0) h := by
  refine ICall.of_below rfl fun ρ w args' ha hm => ?_
  obtain ⟨a, ga, ra⟩ := ha.get (i := 0) (v := .slice (some ⟨p, q, none⟩) 16 16) rfl
  obtain ⟨b, gb, rb⟩ := ha.get (i := 1) (v := .slice (some ⟨p', q', none⟩) 16 16) rfl
  have hsz : args'.size = 2 := ha.1.symm
  obtain ⟨x, c, rfl, hx⟩ := arg16 hp hs ra hm
  obtain ⟨y, d, rfl, hy⟩ := arg16 hp' hs' rb hm
  have e : args' = #[.slice (some x) 16 c, .slice (some y) 16 d] := by
    rcases args' with ⟨l0⟩
    match l0, hsz, ga, gb with
    | [u, v], _, ga, gb => simp at ga gb; rw [ga, gb]
  subst e
  exact (bcmp_calls x y c d w hx hy).mono fun e w' ⟨h1, h2⟩ => ⟨h1, by subst h2; exact Below.refl _ _⟩
end Go.Proofs.Ytnmbpehficchkaa.Ideal
