/- CaptureNone: the law's call on the ideal heap, run in the kernel. -/
import Derived.Test.YtkpbdhfaobmbpaaOpen
import Derived.Test.YtkpbdhfaobmbpaaI22
namespace Go.Proofs.Ytkpbdhfaobmbpaa.CaptureNoneK
open Go.RowKit Go.Proofs.Ytkpbdhfaobmbpaa.Ideal
set_option linter.unusedVariables false

noncomputable def fns : List Nat := [4, 8, 9, 10, 11, 13, 14, 23, 24, 25, 26, 27, 28, 29, 32, 33]
theorem ok4 : fnB Try.prog 4 = true := by kernel_rfl
theorem ok8 : fnB Try.prog 8 = true := by kernel_rfl
theorem ok9 : fnB Try.prog 9 = true := by kernel_rfl
theorem ok10 : fnB Try.prog 10 = true := by kernel_rfl
theorem ok11 : fnB Try.prog 11 = true := by kernel_rfl
theorem ok13 : fnB Try.prog 13 = true := by kernel_rfl
theorem ok14 : fnB Try.prog 14 = true := by kernel_rfl
theorem ok23 : fnB Try.prog 23 = true := by kernel_rfl
theorem ok24 : fnB Try.prog 24 = true := by kernel_rfl
theorem ok25 : fnB Try.prog 25 = true := by kernel_rfl
theorem ok26 : fnB Try.prog 26 = true := by kernel_rfl
theorem ok27 : fnB Try.prog 27 = true := by kernel_rfl
theorem ok28 : fnB Try.prog 28 = true := by kernel_rfl
theorem ok29 : fnB Try.prog 29 = true := by kernel_rfl
theorem ok32 : fnB Try.prog 32 = true := by kernel_rfl
theorem ok33 : fnB Try.prog 33 = true := by kernel_rfl
theorem oks : ∀ g ∈ fns, fnB Try.prog g = true := by
  intro g hg
  simp only [fns, List.mem_cons, List.not_mem_nil, or_false] at hg
  rcases hg with rfl | rfl | rfl | rfl | rfl | rfl | rfl | rfl | rfl | rfl | rfl | rfl | rfl | rfl | rfl | rfl
  · exact ok4
  · exact ok8
  · exact ok9
  · exact ok10
  · exact ok11
  · exact ok13
  · exact ok14
  · exact ok23
  · exact ok24
  · exact ok25
  · exact ok26
  · exact ok27
  · exact ok28
  · exact ok29
  · exact ok32
  · exact ok33
noncomputable def C : Code := (Try.f4.body).getD .skip
noncomputable def R : Code := sqR (sqR C)
noncomputable def B : Code := sqL (sqR C)
noncomputable def D : Code := sqR B
theorem body : Try.f4.body = some C := by kernel_rfl
theorem shape : C = .seq (sqL C) (.seq (.seq (sqL B) (.cond (cdO D) (cdT D) (cdF D))) R) := by kernel_rfl
theorem run1 (len cap : Nat) : isT (xcall Try.prog (inL fns) 100000 (199 + 1) 4 #[.slice (some ⟨0, 0, none⟩) len cap] dead1) = true := by
  rw [xcall_body (fn := Try.f4) (c := C) (by kernel_rfl) Try.func4 body]
  rw [shape, xcode_seq (by kernel_rfl), xcode_assoc, xcode_seq (by kernel_rfl), xcode_cond (b := decide ((len : Int) > 200)) (by kernel_rfl)]
  cases decide ((len : Int) > 200)
  · kernel_rfl
  · kernel_rfl
theorem run0 : isT (xcall Try.prog (inL fns) 100000 (199 + 1) 4 #[.slice (some ⟨0, 0, none⟩) 0 0] noHeap) = true := by kernel_rfl
theorem walk (A : Option Addr) (len cap : Nat) (zs : List Int) (W : World) (w0 : (A = none ∧ len = 0 ∧ cap = 0 ∧ zs = []) ∨ ∃ x, A = some x ∧ len ≤ cap ∧ cap ≤ maxLen ∧ zs.length = cap ∧ (∀ i, i < zs.length → W.cell? (x.add i) = some (.int .u8 (zs.getD i 0))) ∧ ∀ n ∈ zs, (Lit.int .u8 n).wf = true) : Calls Try.prog 4 #[.slice A len cap] W fun e W' => e = .returned (.bool true) ∧ Below W.heap.size W W' := by
  rcases w0 with ⟨rfl, rfl, rfl, rfl⟩ | ⟨x, rfl, hl, hm, hz, hc, _⟩
  · exact calls_run oks (by kernel_rfl) (m := 100000) (n := 200) (by kernel_rfl) (by kernel_rfl) W
  · by_cases h0 : cap = 0
    · subst h0
      obtain rfl : len = 0 := by omega
      exact calls_dead0 oks (by kernel_rfl) run0 ⟨rfl, fun i hi => by
        have : i = 0 := by have : i < 1 := hi; omega
        subst this
        exact VRel.slc0⟩
    · have h1 := hc 0 (by omega)
      obtain ⟨b, q, s⟩ := x
      have hs : s = none ∧ b < W.heap.size := by
        unfold World.cell? Addr.add at h1
        dsimp only at h1
        split at h1
        · rename_i c e fr hb
          refine ⟨?_, ?_⟩
          · cases s with
            | none => rfl
            | some u => simp at h1
          · exact (Array.getElem?_eq_some_iff.1 hb).1
        · cases h1
      exact calls_dead1 oks (by kernel_rfl) (run1 len cap) (x := ⟨b, q, s⟩) hs.2 ⟨rfl, fun i hi => by
        have : i = 0 := by have : i < 1 := hi; omega
        subst this
        exact rho1_slice hs.1 len cap⟩
end Go.Proofs.Ytkpbdhfaobmbpaa.CaptureNoneK
