import Derived.Test.YtnmbpehficchkaaP44k
import Derived.Test.YtnmbpehficchkaaP44q
import Derived.Test.YtnmbpehficchkaaI40
noncomputable section
open Go.Proofs
namespace Go.Proofs.Ytnmbpehficchkaa.Ideal
open Go.RowKit
set_option linter.unusedSimpArgs false
set_option linter.unusedVariables false
set_option linter.unusedSectionVars false
set_option maxRecDepth 100000
set_option maxHeartbeats 4000000
def z16 : List Value := List.replicate 16 (.int .u8 0)
/-- A key's cells. -/
def keyC (d : Nat) : List Value := .bool false :: .int .u8 0 :: (z16 ++ (z16 ++ [.int .u16 0, .int .u16 (d : Nat)]))
theorem keyC_len (d : Nat) : (keyC d).length = 36 := rfl
def keyV (d : Nat) : Value := .agg (keyC d).toArray
theorem st45 : Try.prog.stoodInHeld 45 = false := by kernel_rfl
theorem eg45 : Try.prog.eqGuardType Try.prog.depth 45 = false := by kernel_rfl
theorem sg45 : (fldsOf Try.prog 45).map (fun l => l.map fldSig) = some [(true, 4, 0), (true, 5, 1), (true, 43, 2), (true, 43, 18), (true, 42, 34), (true, 42, 35)] := by kernel_rfl
theorem eqF_k {d : Nat} {xs ys : Array Value} {f : Field} {t n : Nat} {a b : Value} {r : Bool} (h : fldSig f = (true, t, n)) (hx : pureVal Try.prog (part t xs n) = some a) (hy : pureVal Try.prog (part t ys n) = some b) (he : pureVal Try.prog (Op.equalIn d t a b) = some r) : EqF Try.prog d xs ys f r := by
  simp only [fldSig, Prod.mk.injEq, bne_iff_ne, ne_eq] at h
  obtain ⟨h1, h2, h3⟩ := h
  exact ⟨h1, _, _, by rw [h2, h3]; exact hx, by rw [h2, h3]; exact hy, by rw [h2]; exact he⟩
theorem e4 : pureVal Try.prog (Op.equalIn 9999 4 (.bool false) (.bool false)) = some true := by kernel_rfl
theorem e5 : pureVal Try.prog (Op.equalIn 9999 5 (.int .u8 0) (.int .u8 0)) = some true := by kernel_rfl
theorem un43' : Try.prog.underlying 43 = some (.array 16 5) := by kernel_rfl
theorem ag5 : pureVal Try.prog (isAgg 5) = some false := by kernel_rfl
theorem sz5 : pureVal Try.prog (sizeOf 5) = some 1 := by kernel_rfl
theorem e43 : pureVal Try.prog (Op.equalIn 9999 43 (.agg z16.toArray) (.agg z16.toArray)) = some true := by
  have := pv_eqArr (P := Try.prog) 9997 43 5 16 .u8 .u8 (List.replicate 16 0) (List.replicate 16 0) un43' un5 ag5 sz5 rfl rfl
  rw [decide_eq_true rfl] at this
  exact this
theorem p45_4 (d : Nat) : pureVal Try.prog (part 4 (keyC d).toArray 0) = some (.bool false) := by kernel_rfl
theorem p45_5 (d : Nat) : pureVal Try.prog (part 5 (keyC d).toArray 1) = some (.int .u8 0) := by kernel_rfl
theorem p45_a (d : Nat) : pureVal Try.prog (part 43 (keyC d).toArray 2) = some (.agg z16.toArray) := by kernel_rfl
theorem p45_b (d : Nat) : pureVal Try.prog (part 43 (keyC d).toArray 18) = some (.agg z16.toArray) := by kernel_rfl
theorem p45_s (d : Nat) : pureVal Try.prog (part 42 (keyC d).toArray 34) = some (.int .u16 0) := by kernel_rfl
theorem p45_d (d : Nat) : pureVal Try.prog (part 42 (keyC d).toArray 35) = some (.int .u16 (d : Nat)) := by kernel_rfl
theorem eqk (d e : Nat) : pureVal Try.prog (Op.equal 45 (keyV d) (keyV e)) = some (decide (d = e)) := by
  show pureVal Try.prog (Op.equalIn 10000 45 _ _) = _
  have sg := sg45
  cases hf : fldsOf Try.prog 45 with
  | none => rw [hf] at sg; cases sg
  | some fs =>
    rw [hf] at sg
    simp only [Option.map_some, Option.some.injEq] at sg
    match fs, sg with
    | [f0, f1, f2, f3, f4, f5], sg =>
      simp only [List.map_cons, List.map_nil, List.cons.injEq, and_true] at sg
      obtain ⟨s0, s1, s2, s3, s4, s5⟩ := sg
      have u16 : ∀ a b : Nat, pureVal Try.prog (Op.equalIn 9999 42 (.int .u16 (a : Nat)) (.int .u16 (b : Nat))) = some (decide (a = b)) := fun a b => by
        rw [pv_eqInt 9998 42 .u16 .u16 _ _ un42]
        congr 1
        by_cases h : a = b
        · subst h
          simp
        · have h2 : ¬ (a : Int) = b := by omega
          simp [h, h2]
      have := pv_eqStructL (P := Try.prog) 9999 45 [f0, f1, f2, f3, f4, f5] (keyC d).toArray (keyC e).toArray [true, true, true, true, true, decide (d = e)] (fldsOf_inv hf) st45
        (.cons (eqF_k s0 (p45_4 d) (p45_4 e) e4) (.cons (eqF_k s1 (p45_5 d) (p45_5 e) e5) (.cons (eqF_k s2 (p45_a d) (p45_a e) e43) (.cons (eqF_k s3 (p45_b d) (p45_b e) e43) (.cons (eqF_k s4 (p45_s d) (p45_s e) (u16 0 0)) (.cons (eqF_k s5 (p45_d d) (p45_d e) (u16 d e)) .nil))))))
      have h2 : [true, true, true, true, true, decide (d = e)].all id = decide (d = e) := by simp
      rw [h2] at this
      exact this
theorem keyV_plain (d : Nat) : plainV (keyV d) = true := by kernel_rfl
theorem eq45 (d e : Nat) : aggEq Try.prog 45 .eql (keyV d) (keyV e) = some (.bool (decide (d = e))) := by
  unfold aggEq keyV
  rw [if_pos ⟨eg45, keyV_plain d, keyV_plain e⟩]
  have := eqk d e
  unfold keyV at this
  simp only [this, Option.map_some]
section
variable {α : Type} {f : α → List Value} {w : Nat}
theorem fm_len (hf : ∀ a, (f a).length = w) : ∀ L : List α, (L.flatMap f).length = L.length * w
  | [] => by simp
  | a :: L => by rw [List.flatMap_cons, List.length_append, hf, fm_len hf L, List.length_cons, Nat.add_mul, Nat.one_mul, Nat.add_comm]
theorem fm_split (L : List α) (i : Nat) (hi : i < L.length) : L.flatMap f = (L.take i).flatMap f ++ f L[i] ++ (L.drop (i + 1)).flatMap f := by
  conv => lhs; rw [← List.take_append_drop i L, List.drop_eq_getElem_cons hi]
  rw [List.flatMap_append, List.flatMap_cons, List.append_assoc]
theorem fm_take (hf : ∀ a, (f a).length = w) (L : List α) (i : Nat) (hi : i < L.length) : ((L.take i).flatMap f).length = i * w := by
  rw [fm_len hf, List.length_take, Nat.min_eq_left (by omega)]
theorem slots_mid {A X B : List Value} {k n : Nat} {vs : List Value} (h : slots X k n = some vs) : slots (A ++ X ++ B) (A.length + k) n = some vs := by
  unfold slots at h ⊢
  split at h
  · rename_i hk
    rw [if_pos (by simp only [List.length_append]; omega)]
    rw [← h]
    congr 1
    rw [List.append_assoc, ← List.drop_drop, List.drop_left, List.drop_append_of_le_length (by omega), List.take_append_of_le_length (by rw [List.length_drop]; omega)]
  · cases h
theorem fm_slots (hf : ∀ a, (f a).length = w) (L : List α) (i : Nat) (hi : i < L.length) {k n : Nat} {vs : List Value} (h : slots (f L[i]) k n = some vs) : slots (L.flatMap f) (i * w + k) n = some vs := by
  rw [fm_split L i hi, ← fm_take hf L i hi]
  exact slots_mid h
theorem fm_at (hf : ∀ a, (f a).length = w) (L : List α) (i : Nat) (hi : i < L.length) : slots (L.flatMap f) (i * w) w = some (f L[i]) := by
  have := fm_slots hf L i hi (k := 0) (n := w) (vs := f L[i]) (slots_full _ (hf _).symm)
  simpa using this
theorem fm_get (hf : ∀ a, (f a).length = w) (L : List α) (i : Nat) (hi : i < L.length) {k : Nat} {v : Value} (h : (f L[i])[k]? = some v) : (L.flatMap f)[i * w + k]? = some v := by
  have hk := (List.getElem?_eq_some_iff.1 h).1
  rw [fm_split L i hi, ← fm_take hf L i hi, List.append_assoc, List.getElem?_append_right (by omega), Nat.add_sub_cancel_left, List.getElem?_append_left hk]
  exact h
theorem splice_mid {A X B vs : List Value} {k : Nat} (h : k + vs.length ≤ X.length) : splice (A ++ X ++ B) (A.length + k) vs = A ++ splice X k vs ++ B := by
  have t : (A ++ X ++ B).take (A.length + k) = A ++ X.take k := by
    rw [List.append_assoc, List.take_length_add_append, List.take_append_of_le_length (by omega)]
  have t2 : (A ++ X ++ B).drop (A.length + k + vs.length) = X.drop (k + vs.length) ++ B := by
    rw [List.append_assoc, Nat.add_assoc, List.drop_length_add_append, List.drop_append_of_le_length h]
  unfold splice
  rw [t, t2]
  simp only [List.append_assoc]
theorem fm_splice (hf : ∀ a, (f a).length = w) (L : List α) (i : Nat) (hi : i < L.length) {k : Nat} {vs : List Value} {c : α} (hk : k + vs.length ≤ w) (h : splice (f L[i]) k vs = f c) : splice (L.flatMap f) (i * w + k) vs = (L.set i c).flatMap f := by
  rw [fm_split L i hi, fm_split (L.set i c) i (by simpa using hi), ← fm_take hf L i hi, splice_mid (by rw [hf]; exact hk), h, List.getElem_set_self]
  rw [List.take_set_of_le (Nat.le_refl _), List.drop_set_of_lt (by omega)]
end
def CN.cells (c : CN) : List Value := keyC c.d ++ [.int .u64 (c.count : Nat), .int .u64 (c.err : Nat), .int .u64 (c.turn : Nat)]
theorem cn_len (c : CN) : c.cells.length = 39 := rfl
def CN.tal (c : CN) : List Value := keyC c.d ++ [.int .u64 (c.count : Nat), .int .u64 (c.err : Nat)]
theorem tal_len (c : CN) : c.tal.length = 38 := rfl
theorem cn_key (c : CN) : slots c.cells 0 36 = some (keyC c.d) := rfl
theorem cn_tal (c : CN) : slots c.cells 0 38 = some c.tal := rfl
theorem tal_key (c : CN) : slots c.tal 0 36 = some (keyC c.d) := rfl
theorem cn36 (c : CN) : c.cells[36]? = some (.int .u64 (c.count : Nat)) := rfl
theorem cn37 (c : CN) : c.cells[37]? = some (.int .u64 (c.err : Nat)) := rfl
theorem cn38 (c : CN) : c.cells[38]? = some (.int .u64 (c.turn : Nat)) := rfl
theorem tal36 (c : CN) : c.tal[36]? = some (.int .u64 (c.count : Nat)) := rfl
theorem tal37 (c : CN) : c.tal[37]? = some (.int .u64 (c.err : Nat)) := rfl
theorem cn_set36 (c : CN) (v : Nat) : splice c.cells 36 [.int .u64 (v : Nat)] = CN.cells ⟨c.d, v, c.err, c.turn⟩ := rfl
theorem cn_set (c c' : CN) : splice c.cells 0 c'.cells = c'.cells := rfl
theorem tal_set (c c' : CN) : splice c.tal 0 c'.tal = c'.tal := rfl
def ccs (L : List CN) : List Value := L.flatMap CN.cells
def tcs (L : List CN) : List Value := L.flatMap CN.tal
theorem one_key (d : Nat) : (keyC d).all (·.oneCell') = true := rfl
theorem one_cn (c : CN) : c.cells.all (·.oneCell') = true := rfl
theorem one_tal (c : CN) : c.tal.all (·.oneCell') = true := rfl
end Go.Proofs.Ytnmbpehficchkaa.Ideal
