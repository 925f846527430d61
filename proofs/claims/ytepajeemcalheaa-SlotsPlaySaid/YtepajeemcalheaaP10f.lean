import Derived.Test.YtepajeemcalheaaP10e
import Derived.Test.YtepajeemcalheaaI35
noncomputable section
open Go.Proofs
namespace Go.Proofs.Ytepajeemcalheaa.Ideal
open Go.RowKit
set_option linter.unusedSimpArgs false
set_option linter.unusedVariables false
set_option linter.unusedSectionVars false
set_option maxRecDepth 100000
set_option maxHeartbeats 4000000
def kfns : List Nat := [6, 7, 8, 9, 10, 11, 12, 23, 24, 25, 26, 27, 33, 35]
theorem kfns_ok : ∀ g ∈ kfns, fnB Try.prog g = true := by
  have : kfns.all (fnB Try.prog) = true := by kernel_rfl
  rwa [List.all_eq_true] at this
theorem known_c {h : IHeap} : ICall Try.prog 7 #[] h (.bool true) h := by
  refine ICall.of_below rfl fun ρ w args' ha hm => ?_
  obtain rfl : args' = #[] := Array.eq_empty_of_size_eq_zero ha.1.symm
  exact calls_run kfns_ok mixed (m := 100000) (n := 200) (by kernel_rfl) (by kernel_rfl) w
theorem fb_known : fnB Try.prog 7 = true := by kernel_rfl
theorem ki : KeyT Try.prog 3 (fun n : Int => Value.int .i64 n) := KeyT.of_int (d := .i64) (by kernel_rfl) (fun b a => by cases b <;> kernel_rfl)
theorem mp30 : mapOf Try.prog 30 = some (3, 4) := by kernel_rfl
theorem zv4 : zeroV Try.prog 4 = some (.bool false) := by kernel_rfl
/-- A slice of whole numbers, in a row of its own. -/
def ints (w : List Nat) : List Value := w.map fun c => .int .i64 (c : Nat)
theorem ints_len (w : List Nat) : (ints w).length = w.length := by simp [ints]
theorem ints_all (w : List Nat) : (ints w).all (·.oneCell') = true := by
  rw [List.all_eq_true]
  intro v hv
  obtain ⟨j, _, rfl⟩ := List.mem_map.1 hv
  rfl
theorem ints_get {w : List Nat} {i c : Nat} (h : w[i]? = some c) : (ints w)[i]? = some (.int .i64 c) := by simp [ints, h]
theorem ints_app (l m : List Nat) : ints l ++ ints m = ints (l ++ m) := by simp [ints]
theorem slots_ints (l : List Nat) (n : Nat) (h : n = l.length) : slots (ints l) 0 n = some (ints l) := by
  rw [h, ← ints_len]; simp [slots]
def slcN (w : List Nat) (r : Nat) : Value := if w = [] then .slice none 0 0 else .slice (some ⟨r, 0, none⟩) w.length w.length
def adrN (w : List Nat) (r : Nat) : Option Addr := if w = [] then none else some ⟨r, 0, none⟩
theorem slcN_eq (w : List Nat) (r : Nat) : slcN w r = .slice (adrN w r) w.length w.length := by
  unfold slcN adrN
  split
  · rename_i h; subst h; rfl
  · rfl
theorem adrN_at {w : List Nat} (r : Nat) (h : w ≠ []) : adrN w r = some ⟨r, 0, none⟩ := by simp [adrN, h]
theorem app29 {h : IHeap} {j r : Nat} {l : List Nat} {x : Nat} (hi : l ≠ [] → h.get r = some (.row false 1 (ints l))) (hj : h.get j = some (.row false 1 [.int .i64 x])) (hl : l.length < 100000) :
    ∃ h', iappend Try.prog h 29 29 (slcN l r) (.slice (some ⟨j, 0, none⟩) 1 1) = some (slcN (l ++ [x]) h.size, h') ∧ h'.size = h.size + 1 ∧ h'.get h.size = some (.row false 1 (ints (l ++ [x]))) ∧ ∀ i, i < h.size → (l ≠ [] → i ≠ r) → h'.get i = h.get i := by
  have hj : h.get j = some (.row false 1 (ints [x])) := hj
  have h4 := ints_all [x]
  have h5 := slots_ints [x] 1 rfl
  by_cases hc : l = []
  · subst hc
    refine ⟨h.push (.row false 1 (ints [x])), ?_, by simp only [IHeap.size_push'], IHeap.get_pushed _ rfl, fun i hi _ => IHeap.get_push_ne _ (by omega)⟩
    simp [slcN, iappend, asrcOf, srcOf, ni29, hj, h4, h5]
  · have hr := hi hc
    have hrz := IHeap.get_lt hr
    refine ⟨(h.set r .dead).push (.row false 1 (ints (l ++ [x]))), ?_, by simp only [IHeap.size_push', IHeap.size_set'], IHeap.get_pushed _ (by simp only [IHeap.size_set']), fun i hi hir => ?_⟩
    · have h1 : ¬ l.length + 1 ≤ l.length := by omega
      have h2 : (l.length + 1) * 8 ≤ 140737488355328 ∧ l.length + 1 ≤ 4611686018427387904 := by omega
      have h3 := slots_ints l l.length rfl
      simp [slcN, hc, iappend, asrcOf, srcOf, ni29, hj, hr, h4, h5, h1, h2, h3, ints_app]
    · have := hir hc
      rw [IHeap.get_push_ne _ (by simp only [IHeap.size_set']; omega), IHeap.get_set_ne _ (Ne.symm this)]
/-- All cells in the second of two lists. -/
def L1 (w : List Nat) : Nat → List Nat := putL (fun _ => []) 1 w
theorem L1_put (w v : List Nat) : putL (L1 w) 1 v = L1 v := by
  funext y
  unfold L1 putL
  split <;> simp_all
theorem L1_one (w : List Nat) : L1 w 1 = w := by simp [L1, putL]
theorem L1_zero (w : List Nat) : L1 w 0 = [] := by simp [L1, putL]
theorem L1_nil : L1 [] = fun _ => [] := by
  funext y
  unfold L1 putL
  split <;> rfl
theorem free_iff {n : Nat} {w : List Nat} {b f : Nat → Nat} {t : Nat → Int} (r : SRep n 2 (L1 w) b f t) {c : Nat} (hc : c < n) : t c < 0 ↔ c ∉ w := by
  constructor
  · intro h
    have := r.free h 1 (by omega)
    rwa [L1_one] at this
  · intro h
    have := r.out c hc (fun l hl => by
      rcases (show l = 0 ∨ l = 1 by omega) with e | e <;> subst e
      · rw [L1_zero]; simp
      · rw [L1_one]; exact h)
    omega
theorem getk {l : List Nat} {i : Nat} (h : i < l.length) : l[i]? = some l[i] := by simp [h]
end Go.Proofs.Ytepajeemcalheaa.Ideal
