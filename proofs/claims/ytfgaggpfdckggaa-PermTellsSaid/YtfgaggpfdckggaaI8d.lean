/- Strings and bytes. -/
import Derived.Test.YtfgaggpfdckggaaI8c
import Derived.Laws.IdiomStrings
noncomputable section
namespace Go.Proofs.Ytfgaggpfdckggaa.Ideal
set_option linter.unusedVariables false
set_option linter.unusedSimpArgs false
set_option linter.unnecessarySimpa false

def isU8 (P : Program) (e : TypeId) : Bool := match P.underlying e with | some (.int .u8) => true | _ => false
theorem isU8_inv {P : Program} {e : TypeId} (h : isU8 P e = true) : P.underlying e = some (.int .u8) := by
  unfold isU8 at h
  split at h
  · assumption
  · cases h
/-- A string's bytes as cells. -/
def bytesL (s : ByteArray) : List Value := s.data.toList.map fun b => .int .u8 (b.toNat : Int)
/-- Cells that are bytes. -/
def intsOf : List Value → Option (List Int)
  | [] => some []
  | .int .u8 n :: l => (match intsOf l with | some m => some (n :: m) | none => none)
  | _ :: _ => none
theorem intsOf_inv : ∀ {l : List Value} {m : List Int}, intsOf l = some m → l = m.map (Value.int .u8)
  | [], m, h => by cases h; rfl
  | v :: l, m, h => by
    unfold intsOf at h
    split at h
    · rename_i heq; cases heq
    · rename_i n l' heq
      cases heq
      split at h
      · rename_i m' hm
        cases h
        rw [intsOf_inv hm]; rfl
      · cases h
    · cases h
def strOf (m : List Int) : ByteArray := ⟨(m.map fun n => UInt8.ofNat n.toNat).toArray⟩
theorem foldl_strOf : ∀ (m : List Int) (r : ByteArray), m.foldl (fun r n => r.push (UInt8.ofNat n.toNat)) r = ⟨r.data ++ (m.map fun n => UInt8.ofNat n.toNat).toArray⟩
  | [], r => by simp
  | n :: m, r => by
    simp only [List.foldl_cons]
    rw [foldl_strOf m]
    simp [ByteArray.push]
theorem strOf_eq (m : List Int) : m.foldl (fun r n => r.push (UInt8.ofNat n.toNat)) ByteArray.empty = strOf m := by
  rw [foldl_strOf]
  simp [strOf, ByteArray.empty, ByteArray.emptyWithCapacity]
  rfl

theorem alloc_bytes {P : Program} {o : Oper} {a : Act} {id : Nat} {src dst e : TypeId} {x : Operand} {s : ByteArray} (ho : o.op = .convert src dst x) (hx : a.eval x = .string s) (hs : P.underlying src = some .string) (hd : P.underlying dst = some (.slice e)) (he : isU8 P e = true) :
    AOp P o a id (.slice (some ⟨id, 0, none⟩) s.size s.size) (.row false 1 (bytesL s)) := by
  intro ρ ar w hfr hrel
  have gx := hrel x (by simp [ho, Op.operands])
  have ex := scal_eq (by rw [hx]; rfl) gx
  rw [hx] at ex
  have hrun := run_bytes_of_string w src dst e s hs hd (isU8_inv he)
  have hcap := grownCap_ge w s.size 0 e
  generalize grownCap w s.size 0 e = cap at hrun hcap
  have hsize : (bytesRow s cap).size = cap := by
    unfold bytesRow
    rw [Array.size_append, Array.size_map, Array.size_replicate]
    show s.size + (cap - s.size) = cap
    omega
  refine ⟨.slice (some ⟨w.heap.size, 0, none⟩) s.size cap, .cells (bytesRow s cap) e ((bytesRow s cap).size, (bytesRow s cap).size + 1), ⟨w.heap.size, 0, (bytesRow s cap).size, 1⟩, w.drew.alloc (.cells (bytesRow s cap) e ((bytesRow s cap).size, (bytesRow s cap).size + 1)), ?_, rfl, rfl, rfl, rfl, rfl, ?_, ?_⟩
  · simp only [execOp, ho, ex, Sem.run_bind, hrun, Result.andThen_ok]; rfl
  · refine .row (fun _ => ⟨fun h0 => by simp at h0, fun k hk => ?_⟩) rfl rfl ?_ (fun i v hv => ?_)
    · simp; omega
    · simp [bytesL, bytesRow]
    · refine ⟨v, ?_, ?_⟩
      · have hi : i < (bytesL s).length := (List.getElem?_eq_some_iff.1 hv).1
        have hi' : i < s.data.size := by simpa [bytesL] using hi
        unfold bytesRow
        rw [Nat.zero_add, Array.getElem?_append_left (by simpa using hi')]
        rw [← hv, bytesL, List.getElem?_map, Array.getElem?_map, Array.getElem?_toList]
      · unfold bytesL at hv
        rw [List.getElem?_map] at hv
        obtain ⟨b, _, rfl⟩ := Option.map_eq_some_iff.mp hv
        exact .base rfl
  · have := VRel.slc (o := 0) (n := s.size) (c := s.size) (c' := cap) (upd_same ρ id ⟨w.heap.size, 0, (bytesRow s cap).size, 1⟩) (.inr ⟨hcap, Nat.one_pos, by show 0 + 0 + cap * 1 ≤ (bytesRow s cap).size; omega⟩)
    simpa using this

theorem pure_string0 {P : Program} {o : Oper} {a : Act} {src dst e : TypeId} {x : Operand} {A : Option Addr} {c : Nat} (ho : o.op = .convert src dst x) (hx : a.eval x = .slice A 0 c) (hA : A = none → c = 0) (hs : P.underlying src = some (.slice e)) (hd : P.underlying dst = some .string) (he : isU8 P e = true) :
    PureOp P o a (.string ByteArray.empty) := by
  intro ρ ar w hrel
  have gx := hrel x (by simp [ho, Op.operands])
  rw [hx] at gx
  have ex : ∃ A' c', ar.eval x = .slice A' 0 c' := by
    cases A with
    | none => rw [hA rfl] at gx; exact ⟨_, _, scal_eq rfl gx⟩
    | some q => obtain ⟨q', c', e⟩ := gx.someslc; exact ⟨_, _, e⟩
  obtain ⟨A', c', ex⟩ := ex
  refine ⟨.string ByteArray.empty, ?_, .base rfl⟩
  have h1 := run_convert_bytes_string (P := P) w src dst e A' 0 c' hs (isU8_inv he) hd
  have h2 : (Conv.bytesToString (.slice A' 0 c')).run P w = .ok (.string ByteArray.empty) w := by
    cases A' with
    | none => rfl
    | some q =>
      have := run_bytesToString (P := P) w q 0 c' [] (by simp [loadCells, loadCellsFrom])
      simpa using this
  simp only [execOp, ho, ex, Sem.run_bind, h1, h2, Result.andThen_ok]; rfl
theorem read_string {P : Program} {o : Oper} {a : Act} {h : IHeap} {src dst e : TypeId} {x : Operand} {i q n c esz : Nat} {ro : Bool} {cs vs : List Value} {m : List Int} (ho : o.op = .convert src dst x) (hx : a.eval x = .slice (some ⟨i, q, none⟩) n c) (hn : n ≠ 0) (hs : P.underlying src = some (.slice e)) (hd : P.underlying dst = some .string) (he : isU8 P e = true)
    (hg : h.get i = some (.row ro esz cs)) (hv : slots cs q n = some vs) (hm : intsOf vs = some m) : ROp P o a h (.string (strOf m)) [i] := by
  intro ρ ar w hmod hrel
  have gx := hrel x (by simp [ho, Op.operands])
  rw [hx] at gx
  rcases gx.slc_inv with ⟨R, c', hR, hc, ex⟩ | ⟨h0, _⟩
  · obtain ⟨ob, hb, hor⟩ := hmod i (by simp) R _ hg hR
    obtain ⟨vs', k1, k2, k3⟩ := slots_run (P := P) hb hor hv
    have hvs : vs' = m.map (Value.int .u8) := by
      have h1 := intsOf_inv hm
      apply List.ext_getElem?
      intro j
      by_cases hj : j < vs.length
      · obtain ⟨v', a1, a2⟩ := k2.2 j vs[j] (by simp [hj])
        rw [a1, ← h1]
        have hsc : scal vs[j] = true := by
          have : vs[j] ∈ m.map (Value.int .u8) := by rw [← h1]; exact List.getElem_mem hj
          obtain ⟨n, _, hn⟩ := List.mem_map.1 this
          rw [← hn]; rfl
        rw [scal_eq hsc a2]
        simp [hj]
      · rw [List.getElem?_eq_none (by rw [← k2.1]; omega), List.getElem?_eq_none (by rw [← h1]; omega)]
    refine ⟨.string (strOf m), ?_, .base rfl⟩
    have h1 := run_convert_bytes_string (P := P) w src dst e (some ⟨R.block, R.off + q, none⟩) n c' hs (isU8_inv he) hd
    have h2 := run_bytesToString (P := P) w ⟨R.block, R.off + q, none⟩ n c' m (by rw [k1, hvs])
    rw [strOf_eq] at h2
    simp only [execOp, ho, ex, Sem.run_bind, h1, h2, Result.andThen_ok]; rfl
  · exact absurd h0 hn

/-- A conversion between strings and bytes. -/
def icvt (P : Program) (h : IHeap) (src dst : TypeId) (x : Value) : Option (Value × IHeap × Option (Option Nat)) :=
  match x, P.underlying src, P.underlying dst with
  | .string s, some .string, some (.slice e) => if isU8 P e then pushH h (.row false 1 (bytesL s)) fun h' => some (.slice (some ⟨h.size, 0, none⟩) s.size s.size, h', none) else none
  | .slice none 0 0, some (.slice e), some .string => if isU8 P e then some (.string ByteArray.empty, h, some none) else none
  | .slice (some ⟨i, q, none⟩) n _, some (.slice e), some .string => if isU8 P e then
      (if n = 0 then some (.string ByteArray.empty, h, some none) else
        (match h.get i with
        | some (.row _ _ cs) => (match slots cs q n with
          | some vs => (match intsOf vs with
            | some m => some (.string (strOf m), h, some (some i))
            | none => none)
          | none => none)
        | _ => none)) else none
  | .slice (some ⟨_, _, some _⟩) 0 0, some (.slice e), some .string => if isU8 P e then some (.string ByteArray.empty, h, some none) else none
  | _, _, _ => none
theorem icvt_ok {P : Program} {o : Oper} {a : Act} {h h' : IHeap} {src dst : TypeId} {x : Operand} {v : Value} {r : Option (Option Nat)} (ho : o.op = .convert src dst x) (hv : icvt P h src dst (a.eval x) = some (v, h', r)) :
    match r with
    | none => ∃ n, n ≠ .dead ∧ (∀ L, n ≠ .loop L) ∧ h' = h.push n ∧ AOp P o a h.size v n
    | some none => h' = h ∧ PureOp P o a v
    | some (some i) => h' = h ∧ ROp P o a h v [i] := by
  unfold icvt at hv
  split at hv
  · rename_i s e hx hs hd
    split at hv
    · rename_i he
      rw [pushH_eq] at hv
      cases hv
      exact ⟨_, by simp, by simp, rfl, alloc_bytes ho hx hs hd he⟩
    · cases hv
  · rename_i e hx hs hd
    split at hv
    · rename_i he
      cases hv
      exact ⟨rfl, pure_string0 ho hx (fun _ => rfl) hs hd he⟩
    · cases hv
  · rename_i i q n c e hx hs hd
    split at hv
    · rename_i he
      split at hv
      · rename_i hn
        cases hv
        subst hn
        exact ⟨rfl, pure_string0 ho hx (fun h => by cases h) hs hd he⟩
      · rename_i hn
        split at hv
        · rename_i ro esz cs hg
          split at hv
          · rename_i vs hsl
            split at hv
            · rename_i m hm
              cases hv
              exact ⟨rfl, read_string ho hx hn hs hd he hg hsl hm⟩
            · cases hv
          · cases hv
        · cases hv
    · cases hv
  · rename_i e hx hs hd
    split at hv
    · rename_i he
      cases hv
      exact ⟨rfl, pure_string0 ho hx (fun h => by cases h) hs hd he⟩
    · cases hv
  · cases hv
end Go.Proofs.Ytfgaggpfdckggaa.Ideal
