/- Words that all walks of this seat use: Hd keeps a fact out of the walk's reach. -/
import Derived.Test.YtmobpbhbllhdcaaProg
import Derived.WalkKit
import Derived.KernelRfl
import Derived.WalkLawsBesides
import Derived.WalkSpells
import Derived.Lib.ConvBytes
import Derived.Laws.BytesArg
import Derived.Lib.SlBytesConst
import Derived.OwnWalk
import Derived.Deep.LoopGhost
import Derived.Deep.DeepCutAuto
import Derived.Deep.CutBlock
import Derived.Deep.RegionHeld3
import Derived.Deep.QuietTactic
import Derived.BigQuiet
import Derived.Deep.MidRow
import Derived.StillTailTactics
import Derived.Deep.RegionLaw
namespace Go.Proofs.Ytmobpbhbllhdcaa
set_option linter.unusedVariables false
set_option linter.unusedSimpArgs false

/-- A fact that the walk does not see. -/
structure Hd (p : Prop) : Prop where mk :: (out : p)

theorem ret_int {k : IntKind} {a b : Int} (h : a = b) : Ending.returned (.int k a) = .returned (.int k b) := by rw [h]
theorem ret_bool {a b : Bool} (h : a = b) : Ending.returned (.bool a) = .returned (.bool b) := by rw [h]
theorem ret_int_bool {k : IntKind} {a a' : Int} {b b' : Bool} (h : a = a') (h' : b = b') : Ending.returned (.tuple #[.int k a, .bool b]) = .returned (.tuple #[.int k a', .bool b']) := by rw [h, h']
theorem ret_int_int {k k' : IntKind} {a a' b b' : Int} (h : a = a') (h' : b = b') : Ending.returned (.tuple #[.int k a, .int k' b]) = .returned (.tuple #[.int k a', .int k' b']) := by rw [h, h']

open Go.RowKit

/-- A row of cells: from address A on memory holds the values cs (nothing is said of A where cs is empty). -/
def Cells (w : World) (A : Option Addr) (cs : List Value) : Prop :=
  0 < cs.length → ∃ b o, A = some ⟨b, o, none⟩ ∧ ∀ (i : Nat) (v : Value), cs[i]? = some v → w.cell? ⟨b, o + i, none⟩ = some v
theorem Cells.nil (w : World) (A : Option Addr) : Cells w A [] := fun h => absurd h (Nat.lt_irrefl 0)
theorem Cells.below {w w' : World} {A : Option Addr} {cs : List Value} (h : Cells w A cs) (hb : Below w.heap.size w w') : Cells w' A cs := fun hc => by
  obtain ⟨b, o, e, hv⟩ := h hc
  exact ⟨b, o, e, fun i v hi => (hb.cell (p := ⟨b, o + i, none⟩) (World.block_lt_of_cell? w _ (hv i v hi))).trans (hv i v hi)⟩
theorem Cells.drewN {w : World} {A : Option Addr} {cs : List Value} (h : Cells w A cs) (n : Nat) : Cells (w.drewN n) A cs := h
theorem Cells.at {w : World} {A : Option Addr} {cs : List Value} (h : Cells w A cs) (i : Nat) (v : Value) (hi : cs[i]? = some v) : ∃ b o, A = some ⟨b, o, none⟩ ∧ w.cell? ⟨b, o + i, none⟩ = some v := by
  have : i < cs.length := by
    refine Nat.lt_of_not_le (fun c => ?_)
    rw [List.getElem?_eq_none c] at hi
    exact absurd hi (by simp)
  obtain ⟨b, o, e, hv⟩ := h (by omega)
  exact ⟨b, o, e, hv i v hi⟩
/-- The cells of a new block. -/
theorem cell_new (w : World) (C : Array Value) (e : Nat) (fr : Nat × Nat) (i : Nat) : (w.alloc (.cells C e fr)).cell? ⟨w.heap.size, i, none⟩ = C[i]? := by
  have h : (w.alloc (.cells C e fr)).heap[w.heap.size]? = some (.cells C e fr) := by
    show (w.heap.push _)[w.heap.size]? = _
    simp
  unfold World.cell?
  simp only [h]
  rfl
theorem Cells.new (w : World) (C : Array Value) (e : Nat) (fr : Nat × Nat) (b : Nat) (hb : b = w.heap.size) (cs : List Value) (hc : ∀ (i : Nat) (v : Value), cs[i]? = some v → C[i]? = some v) : Cells (w.alloc (.cells C e fr)) (some ⟨b, 0, none⟩) cs := fun _ => by
  subst hb
  exact ⟨_, 0, rfl, fun i v hi => by rw [Nat.zero_add, cell_new]; exact hc i v hi⟩

/-- Bytes as values. -/
def encB (xs : List UInt8) : List Value := xs.map fun x => .int .u8 (x.toNat : Int)
theorem encB_length (xs : List UInt8) : (encB xs).length = xs.length := by simp [encB]
theorem encB_get (xs : List UInt8) (i : Nat) (h : i < xs.length) : (encB xs)[i]? = some (.int .u8 (xs[i].toNat : Int)) := by simp [encB, h]

/-- The world behind a string's conversion to bytes. -/
theorem bytes_below (w : World) (e : TypeId) (s : ByteArray) : Below w.heap.size w (Lib.bytesWorld w e s) := by
  have h := Lib.bytesWorld_size w e s
  refine ⟨?_, ?_, ?_, by omega, fun k hk => Lib.bytesWorld_at_old w e s k hk⟩
  all_goals
    unfold Lib.bytesWorld World.freeze
    split <;> rfl
theorem bytes_cells (w : World) (e : TypeId) (s : ByteArray) : Cells (Lib.bytesWorld w e s) (some ⟨w.heap.size, 0, none⟩) (encB s.data.toList) := fun _ => by
  refine ⟨_, 0, rfl, fun i v hi => ?_⟩
  have hlt : i < s.data.toList.length := by
    refine Nat.lt_of_not_le (fun c => ?_)
    rw [List.getElem?_eq_none (by rw [encB_length]; exact c)] at hi
    exact absurd hi (by simp)
  rw [encB_get _ i hlt] at hi
  have hlt' : i < s.size := by
    rw [Array.length_toList] at hlt
    exact hlt
  rw [Nat.zero_add, Lib.bytesWorld_cell w e s i hlt', ← hi]
  rw [List.getD_eq_getElem?_getD, List.getElem?_eq_getElem hlt]
  rfl

theorem below_then {B : Nat} {w w1 w2 : World} (h : Below B w w1) (hB : B ≤ w1.heap.size) (k : Below w1.heap.size w1 w2) : Below B w w2 :=
  ⟨k.os.trans h.os, k.tape.trans h.tape, k.output.trans h.output, Nat.le_trans h.size k.size, fun i hi => (k.block i (Nat.lt_of_lt_of_le hi hB)).trans (h.block i hi)⟩
theorem below_step {w w1 w2 : World} (h : Below w.heap.size w w1) (k : Below w1.heap.size w1 w2) : Below w.heap.size w w2 := below_then h h.size k
theorem below_alloc {w w1 : World} (h : Below w.heap.size w w1) (o : Obj) : Below w.heap.size w (w1.alloc o) := h.alloc h.size o
theorem below_drewN {B : Nat} {w w1 : World} (h : Below B w w1) (n : Nat) : Below B w (w1.drewN n) := ⟨h.os, h.tape, h.output, h.size, h.block⟩
theorem below_drew {B : Nat} {w w1 : World} (h : Below B w w1) : Below B w w1.drew := ⟨h.os, h.tape, h.output, h.size, h.block⟩

theorem addr_add (b o j : Nat) : (⟨b, o, none⟩ : Addr).add j = ⟨b, o + j, none⟩ := by unfold Addr.add; split <;> simp_all

/-- Bytes converted to a string. -/
theorem conv_str {P : Program} (W : World) (src dst e : TypeId) (hs : P.underlying src = some (.slice e)) (he : P.underlying e = some (.int .u8)) (hd : P.underlying dst = some .string)
    (A : Option Addr) (c : Nat) (xs : List UInt8) (h : Cells W A (encB xs)) : (convert src dst (.slice A xs.length c)).run P W = .ok (.string ⟨xs.toArray⟩) W := by
  cases A with
  | none =>
    have e0 : xs = [] := by
      cases xs with
      | nil => rfl
      | cons x xs =>
        obtain ⟨b, o, e, _⟩ := h (by simp [encB])
        exact absurd e (by simp)
    subst e0
    exact run_convert_bytes_nil W src e hs he 0 c dst hd
  | some ad =>
    have hl : (loadCells ad xs.length).run P W = .ok ((xs.map fun x => (x.toNat : Int)).map (Value.int .u8)).toArray W := by
      have := run_loadCells_list (P := P) W ad ((xs.map fun x => (x.toNat : Int)).map (Value.int .u8)) (fun j v hj => by
        have hj' : (encB xs)[j]? = some v := by
          rw [← hj, List.map_map]; rfl
        obtain ⟨b, o, e, hc⟩ := h.at j v hj'
        obtain rfl := Option.some.inj e
        rw [addr_add]; exact hc)
      simpa using this
    rw [run_convert_bytes_string W src dst e _ xs.length c hs he hd, run_bytesToString W _ xs.length c (xs.map fun x => (x.toNat : Int)) hl, foldl_push_bytes]
    simp [ByteArray.empty, ByteArray.emptyWithCapacity]
    have e1 : (fun n : Int => UInt8.ofNat n.toNat) ∘ (fun x : UInt8 => (x.toNat : Int)) = id := by
      funext x; simp
    rw [e1, List.map_id]; rfl

/-- An append to a row that the call owns, of a row of cells wherever it lies. -/
theorem run_append_cells {P : Program} (w : World) (base : Nat) (t ty e : TypeId) (i : TypeInfo) (z : Value) (size bytes : Nat) (ht : P.underlying t = some (.slice e)) (hi : P.info? e = some i) (hz : i.zero = some z)
    (hsize : i.size = size) (hby : i.bytes = bytes) (hzs : z.cells.size = size) (hsz : 0 < size)
    (v : Value) (n : Nat) (xs : List Value) (hown : w.ownsRow base e size v n xs)
    (A : Option Addr) (m c : Nat) (news : List Value) (hl : news.length = m * size) (hA : A = none → m = 0 ∧ c = 0) (hc : Cells w A news) (h1 : ∀ u ∈ news, u.oneCell' = true)
    (h63 : n + m ≤ maxLen) (hbytes : (n + m) * bytes ≤ 140737488355328) (hbase : base ≤ w.heap.size) :
    ∃ v' w', (Builtin.append_ #[t, t] ty #[v, .slice A m c]).run P w = .ok v' w' ∧ w'.ownsRow base e size v' (n + m) (xs ++ news) ∧ w.grownBy w' v.ownBlock ∧
      (v' = .slice none 0 0 ↔ v = .slice none 0 0 ∧ m = 0) := by
  cases A with
  | none =>
    obtain ⟨rfl, rfl⟩ := hA rfl
    have e0 : news = [] := List.eq_nil_of_length_eq_zero (by omega)
    subst e0
    refine ⟨v, w, run_append_owned_none w base t ty e i size ht hi v n xs hown, by simpa using hown, World.grownBy.refl _ _, by simp⟩
  | some ad =>
    exact run_append_own (P := P) w base t ty e i z size bytes ht hi hz hsize hby hzs hsz v n xs hown ad m c news hl (fun j u hu => by
      obtain ⟨b, o, e, hv⟩ := hc.at j u hu
      obtain rfl := Option.some.inj e
      rw [addr_add]; exact hv) h1 h63 hbytes hbase

/-- The walk over an append whose run is known. -/
theorem wpList_append_run {P : Program} {w w' : World} {ops : Array Oper} {rest : List Oper} {o : Oper} {a : Act} {Q : Exit → Act → World → Prop} (hgd : o.guard = none) (s x : Operand) (t : TypeId)
    (ho : o.op = .call { callee := .builtin .append, args := #[s, x], argTypes := #[t, t] }) (vs vx v' : Value) (hs : a.eval s = vs) (hx : a.eval x = vx)
    (hr : (Builtin.append_ #[t, t] o.type #[vs, vx]).run P w = .ok v' w') (h : wpList P ops Q rest (a.put o.dst v') w') : wpList P ops Q (o :: rest) a w :=
  wpList_plain hgd fun K hK => by
    unfold Oper.wp execOp
    simp only [ho, resolve, invoke, builtin, Sem.run_bind, Sem.run_pure, Result.andThen_ok, List.map_toArray, List.map_cons, List.map_nil, hs, hx, hr]
    exact hK _ _ h
/-- The cells of an owned row. -/
theorem owns_cells {w : World} {base e size n : Nat} {v : Value} {xs : List Value} (h : w.ownsRow base e size v n xs) (hs : 0 < size) : ∃ A c, v = .slice A n c ∧ n ≤ c ∧ (A = none → n = 0 ∧ c = 0) ∧ Cells w A xs := by
  rcases h.2 with ⟨rfl, rfl⟩ | ⟨g, cap, cur, rfl, hb, hg, hn, hm, hsz, ht⟩
  · refine ⟨none, 0, rfl, Nat.le_refl _, fun _ => ⟨rfl, rfl⟩, fun hc => ?_⟩
    have := h.1
    omega
  · refine ⟨some ⟨g, 0, none⟩, cap, rfl, hn, fun c => absurd c (by simp), fun _ => ⟨g, 0, rfl, fun i v hi => ?_⟩⟩
    rw [Nat.zero_add]
    have hlt : i < n * size := by
      refine Nat.lt_of_not_le (fun c => ?_)
      rw [List.getElem?_eq_none (by rw [h.1]; exact c)] at hi
      exact absurd hi (by simp)
    rw [h.cellAt i hlt]; exact hi
theorem encB_one (xs : List UInt8) : ∀ u ∈ encB xs, u.oneCell' = true := by
  intro u hu
  simp only [encB, List.mem_map] at hu
  obtain ⟨x, _, rfl⟩ := hu
  rfl

/-- W lies behind w0: what was there is there. -/
structure Behind (w0 W : World) : Prop where mk :: (out : Below w0.heap.size w0 W)
theorem Behind.refl (w : World) : Behind w w := ⟨Below.refl _ _⟩
theorem Behind.step {w0 w1 w2 : World} (h : Behind w0 w1) (k : Below w1.heap.size w1 w2) : Behind w0 w2 := ⟨below_step h.out k⟩
theorem Behind.drew {w0 w1 : World} (h : Behind w0 w1) : Behind w0 w1.drew := ⟨below_drew h.out⟩
theorem Behind.drewN {w0 w1 : World} (h : Behind w0 w1) (n : Nat) : Behind w0 (w1.drewN n) := ⟨below_drewN h.out n⟩
theorem Behind.alloc {w0 w1 : World} (h : Behind w0 w1) (o : Obj) : Behind w0 (w1.alloc o) := ⟨below_alloc h.out o⟩
theorem Cells.behind {w w' : World} {A : Option Addr} {cs : List Value} (h : Cells w A cs) (hb : Behind w w') : Cells w' A cs := h.below hb.out

/-- Numbers in memory that are bytes. -/
theorem row_some (x : Addr) (len : Nat) (zs : List Int) (w : World) (hl : len ≤ zs.length) (hm : zs.length ≤ maxLen) (hcell : ∀ i, i < zs.length → w.cell? (x.add i) = some (.int .u8 (zs.getD i 0))) (hwf : ∀ n ∈ zs, (Lit.int .u8 n).wf = true) :
    ∃ xs : List UInt8, xs.length = len ∧ Cells w (some x) (encB xs) ∧ xs.length ≤ 9223372036854775807 := by
  have hln : ((zs.take len).map fun n => UInt8.ofNat n.toNat).length = len := by simp; omega
  refine ⟨(zs.take len).map fun n => UInt8.ofNat n.toNat, hln, ?_, ?_⟩
  · intro hpos
    have hp : 0 < zs.length := by
      rw [encB_length, hln] at hpos
      omega
    have hspot : x.spot = none := by
      have h0 := hcell 0 hp
      unfold World.cell? at h0
      cases hs : x.spot with
      | none => rfl
      | some sp =>
        have hadd : (x.add 0).spot.isSome = true := by
          unfold Addr.add
          split <;> simp_all
        rw [hadd] at h0
        split at h0 <;> simp at h0
    obtain ⟨b, o, sp⟩ := x
    obtain rfl : sp = none := hspot
    refine ⟨b, o, rfl, fun i v hi => ?_⟩
    have hlt : i < len := by
      refine Nat.lt_of_not_le (fun c => ?_)
      rw [List.getElem?_eq_none (by rw [encB_length, hln]; exact c)] at hi
      exact absurd hi (by simp)
    have hi' : i < zs.length := by omega
    have hc := hcell i hi'
    rw [addr_add] at hc
    rw [hc]
    have hw := hwf zs[i] (List.getElem_mem hi')
    simp [Lit.wf, IntKind.min, IntKind.max, IntKind.signed, IntKind.bits] at hw
    rw [encB_get _ i (by rw [hln]; exact hlt)] at hi
    rw [← hi, List.getD_eq_getElem?_getD, List.getElem?_eq_getElem hi']
    simp
    omega
  · rw [hln]; unfold maxLen at hm; omega
/-- An argument's bytes. -/
theorem row_bytes (A : Option Addr) (len cap : Nat) (zs : List Int) (w : World)
    (hr : (A = none ∧ len = 0 ∧ cap = 0 ∧ zs = []) ∨ ∃ x, A = some x ∧ len ≤ cap ∧ cap ≤ maxLen ∧ zs.length = cap ∧ (∀ i, i < zs.length → w.cell? (x.add i) = some (.int .u8 (zs.getD i 0))) ∧ ∀ n ∈ zs, (Lit.int .u8 n).wf = true) :
    ∃ xs : List UInt8, xs.length = len ∧ Cells w A (encB xs) ∧ (A = none → xs.length = 0 ∧ cap = 0) ∧ xs.length ≤ 9223372036854775807 := by
  rcases hr with ⟨rfl, rfl, rfl, rfl⟩ | ⟨x, rfl, hl, hm, hz, hcell, hwf⟩
  · exact ⟨[], rfl, Cells.nil _ _, fun _ => ⟨rfl, rfl⟩, by simp⟩
  · obtain ⟨xs, a, b, c⟩ := row_some x len zs w (by omega) (by omega) hcell hwf
    exact ⟨xs, a, b, fun h => absurd h (by simp), c⟩

/-- A block known whole. -/
def Blk (w : World) (b : Nat) (C : Array Value) (t : TypeId) : Prop := w.heap[b]? = some (.cells C t (0, 0))
theorem Blk.lt {w : World} {b : Nat} {C : Array Value} {t : TypeId} (h : Blk w b C t) : b < w.heap.size := (Array.getElem?_eq_some_iff.1 h).1
theorem Blk.cell {w : World} {b : Nat} {C : Array Value} {t : TypeId} (h : Blk w b C t) (i : Nat) : w.cell? ⟨b, i, none⟩ = C[i]? := cell_of_row w b i C t (0, 0) h
theorem Blk.frozen {w : World} {b : Nat} {C : Array Value} {t : TypeId} (h : Blk w b C t) (i : Nat) : w.frozen? ⟨b, i, none⟩ = false := frozen_of_row w b i C t h
theorem Blk.below {w w' : World} {b : Nat} {C : Array Value} {t : TypeId} (h : Blk w b C t) (hb : Below w.heap.size w w') : Blk w' b C t := (hb.block b h.lt).trans h
theorem Blk.behind {w w' : World} {b : Nat} {C : Array Value} {t : TypeId} (h : Blk w b C t) (hb : Behind w w') : Blk w' b C t := h.below hb.out
theorem Blk.new (w : World) (C : Array Value) (t : TypeId) : Blk (w.alloc (.cells C t)) w.heap.size C t := by
  show (w.heap.push _)[w.heap.size]? = _
  simp
theorem Blk.newAt (w : World) (b : Nat) (C : Array Value) (t : TypeId) (hb : b = w.heap.size) : Blk (w.alloc (.cells C t)) b C t := by subst hb; exact Blk.new w C t
theorem Blk.alloc {w : World} {b : Nat} {C : Array Value} {t : TypeId} (h : Blk w b C t) (o : Obj) : Blk (w.alloc o) b C t := h.below (below_alloc (Below.refl _ _) o)
theorem Blk.cells {w : World} {b : Nat} {C : Array Value} {t : TypeId} (h : Blk w b C t) : Cells w (some ⟨b, 0, none⟩) C.toList := fun _ => ⟨b, 0, rfl, fun i v hi => by rw [Nat.zero_add, h.cell]; simpa using hi⟩
theorem Blk.setCell {w : World} {b : Nat} {C : Array Value} {t : TypeId} (h : Blk w b C t) (i : Nat) (v : Value) : Blk (w.setCell ⟨b, i, none⟩ v) b (C.setIfInBounds i v) t := by
  have := heap_setCell_same w b i C t v h
  exact this
theorem Blk.setCell_other {w : World} {b : Nat} {C : Array Value} {t : TypeId} (h : Blk w b C t) (a : Addr) (v : Value) (hne : b ≠ a.block) : Blk (w.setCell a v) b C t := (heap_setCell_other w a b v hne).trans h

/-- Gates: an arm behind one is tried at that operation alone. -/
theorem gate_store {P : Program} {ops : Array Oper} {Q : Exit → Act → World → Prop} {rest : List Oper} {o : Oper} {a : Act} {w : World} {ty : TypeId} {x y : Operand} (h : o.op = .store ty x y) (g : wpList P ops Q (o :: rest) a w) : wpList P ops Q (o :: rest) a w := g
theorem gate_load {P : Program} {ops : Array Oper} {Q : Exit → Act → World → Prop} {rest : List Oper} {o : Oper} {a : Act} {w : World} {ty : TypeId} {x : Operand} (h : o.op = .load ty x) (g : wpList P ops Q (o :: rest) a w) : wpList P ops Q (o :: rest) a w := g
theorem gate_dst {P : Program} {ops : Array Oper} {Q : Exit → Act → World → Prop} {rest : List Oper} {o : Oper} {a : Act} {w : World} {n : Nat} (h : o.dst = some n) (g : wpList P ops Q (o :: rest) a w) : wpList P ops Q (o :: rest) a w := g

theorem setCells_other (b k : Nat) (hne : k ≠ b) : ∀ (vs : List Value) (o : Nat) (w : World), (w.setCells b o vs).heap[k]? = w.heap[k]?
  | [], o, w => rfl
  | v :: vs, o, w => by
    have := setCells_other b k hne vs (o + 1) (w.setCell ⟨b, o, none⟩ v)
    exact this.trans (heap_setCell_other w ⟨b, o, none⟩ k v hne)
theorem setCells_grown (b o : Nat) (vs : List Value) (w : World) : World.grownBy w (w.setCells b o vs) (some b) := by
  have key : ∀ (vs : List Value) (o : Nat) (w : World), (w.setCells b o vs).os = w.os ∧ (w.setCells b o vs).tape = w.tape ∧ (w.setCells b o vs).output = w.output ∧ (w.setCells b o vs).heap.size = w.heap.size := by
    intro vs
    induction vs with
    | nil => intro o w; exact ⟨rfl, rfl, rfl, rfl⟩
    | cons v vs ih =>
      intro o w
      obtain ⟨h1, h2, h3, h4⟩ := ih (o + 1) (w.setCell ⟨b, o, none⟩ v)
      exact ⟨h1, h2, h3, h4.trans (by simp [World.setCell])⟩
  obtain ⟨h1, h2, h3, h4⟩ := key vs o w
  exact ⟨h1, h2, h3, by omega, fun k _ hne => setCells_other b k (fun e => hne (by rw [e])) vs o w⟩
theorem setCells_blk (b : Nat) (t : TypeId) : ∀ (vs : List Value) (o : Nat) (w : World) (C : Array Value), Blk w b C t → o + vs.length ≤ C.size →
    ∃ C2, Blk (w.setCells b o vs) b C2 t ∧ C2.size = C.size ∧ ∀ i, C2[i]? = if o ≤ i ∧ i < o + vs.length then vs[i - o]? else C[i]?
  | [], o, w, C, h, hl => ⟨C, h, rfl, fun i => by
    have e : ¬ (o ≤ i ∧ i < o + ([] : List Value).length) := by simp
    rw [if_neg e]⟩
  | v :: vs, o, w, C, h, hl => by
    rw [List.length_cons] at hl
    obtain ⟨C2, h1, h2, h3⟩ := setCells_blk b t vs (o + 1) (w.setCell ⟨b, o, none⟩ v) (C.setIfInBounds o v) (h.setCell o v) (by simp; omega)
    refine ⟨C2, h1, by rw [h2]; simp, fun i => ?_⟩
    rw [h3 i]
    by_cases e : i = o
    · subst e
      have hlt : i < C.size := by omega
      rw [if_neg (by omega), if_pos (by simp), Array.getElem?_setIfInBounds, if_pos rfl, if_pos hlt]
      simp
    · by_cases hi : o + 1 ≤ i ∧ i < o + 1 + vs.length
      · rw [if_pos hi, if_pos (by rw [List.length_cons]; omega), show i - o = (i - (o + 1)) + 1 by omega, List.getElem?_cons_succ]
      · rw [if_neg hi, if_neg (by rw [List.length_cons]; omega)]
        rw [Array.getElem?_setIfInBounds, if_neg (by omega)]
/-- A whole struct (or array) stored into a block of its own. -/
theorem wpList_store_whole {P : Program} {w : World} {ops : Array Oper} {rest : List Oper} {o : Oper} {a : Act} {Q : Exit → Act → World → Prop} (hgd : o.guard = none) (ty : TypeId) (x y : Operand) (ho : o.op = .store ty x y)
    (g : Nat) (C C' : Array Value) (t : TypeId) (hx : a.eval x = .pointer (some ⟨g, 0, none⟩)) (hy : a.eval y = .agg C') (hb : Blk w g C t) (hs : C.size = C'.size) (hi : (P.info? ty).map (·.size) = some C'.size) (h1 : C'.all (·.oneCell') = true)
    (h : ∀ w', Blk w' g C' t → World.grownBy w w' (some g) → wpList P ops Q rest (a.put o.dst undef) w') : wpList P ops Q (o :: rest) a w := by
  refine wpList_store_mid hgd ty x y ho g 0 C' hx hy (fun j hj => ⟨?_, ?_⟩) hi h1 ?_
  · rw [Nat.zero_add, hb.cell, Array.getElem?_eq_getElem (by omega)]; rfl
  · rw [hb.frozen]
  · obtain ⟨C2, h2, h3, h4⟩ := setCells_blk g t C'.toList 0 w C hb (by simp; omega)
    have e : C2 = C' := by
      apply Array.ext_getElem?
      intro i
      rw [h4 i]
      by_cases hi' : i < C'.size
      · rw [if_pos ⟨by omega, by simp; omega⟩]; simp
      · rw [if_neg (by simp; omega), Array.getElem?_eq_none (by omega), Array.getElem?_eq_none (by omega)]
    rw [e] at h2
    exact h _ h2 (setCells_grown g 0 _ w)
theorem Blk.grown {w w' : World} {b : Nat} {C : Array Value} {t : TypeId} {row : Option Nat} (h : Blk w b C t) (hg : World.grownBy w w' row) (hne : some b ≠ row) : Blk w' b C t := (hg.block b h.lt hne).trans h
theorem Behind.grown {w0 w w' : World} {g : Nat} (h : Behind w0 w) (hg : World.grownBy w w' (some g)) (hge : w0.heap.size ≤ g) : Behind w0 w' := ⟨h.out.grown hg h.out.size (fun k e => by cases e; exact hge)⟩
/-- A function's results: a whole struct's or row's variable, and a slot. -/
theorem results_row_slot {P : Program} (w : World) (fn : Func) (tmps : Array Value) (s ty s' b : Nat) (C : Array Value) (t : TypeId) (d : TypeDesc) (r : Value)
    (hr : fn.results = #[.cell s ty, .tmp s']) (hs : tmps[s]?.getD undef = .pointer (some ⟨b, 0, none⟩)) (hs' : tmps[s']?.getD undef = r) (hb : Blk w b C t)
    (hu : P.underlying ty = some d) (hd : d.isRow = true) (hi : (P.info? ty).map (·.size) = some C.size) :
    (results fn tmps).run P w = .ok (.tuple #[.agg C, r]) w := by
  have h := run_loadVar_row (P := P) w b t ty C (0, 0) d hb hu (by cases d <;> simp_all) hi
  simp [results, hr, hs, hs', asAddr, Sem.run_bind, h]
/-- One result: a whole struct's or row's variable. -/
theorem results_row {P : Program} (w : World) (fn : Func) (tmps : Array Value) (s ty b : Nat) (C : Array Value) (t : TypeId) (d : TypeDesc)
    (hr : fn.results = #[.cell s ty]) (hs : tmps[s]?.getD undef = .pointer (some ⟨b, 0, none⟩)) (hb : Blk w b C t)
    (hu : P.underlying ty = some d) (hd : d.isRow = true) (hi : (P.info? ty).map (·.size) = some C.size) :
    (results fn tmps).run P w = .ok (.agg C) w := by
  have h := run_loadVar_row (P := P) w b t ty C (0, 0) d hb hu (by cases d <;> simp_all) hi
  simp [results, hr, hs, asAddr, Sem.run_bind, h]
/-- The quiet head and the forced tail of a region that draws: the world bears a name of its own. -/
theorem still_tail {P : Program} {id : Nat} {Q : Exit → Act → World → Prop} {a : Act} {w : World} {l : List Oper} (n : Nat) (hm : P.follows .mixedOrders = true) (hB : Region.lexTailB .any l.toArray n = true)
    (h : ∀ w2, w2 = w.drew → wpStill P l.toArray w2 (fun a' => wpList P l.toArray Q (l.drop n) a' w2) (l.take n) a) : (Code.region id l.toArray true).wp P Q a w :=
  wp_region_still_tail n hm hB (h _ rfl)
/-- A whole block's load. -/
theorem wpList_load_whole {P : Program} {w : World} {ops : Array Oper} {rest : List Oper} {o : Oper} {a : Act} {Q : Exit → Act → World → Prop} (hgd : o.guard = none) (ty : TypeId) (x : Operand) (ho : o.op = .load ty x)
    (b : Nat) (hx : a.eval x = .pointer (some ⟨b, 0, none⟩)) (C : Array Value) (t : TypeId) (d : TypeDesc) (hb : Blk w b C t) (hu : P.underlying ty = some d) (hd : d.isRow = true) (hi : (P.info? ty).map (·.size) = some C.size)
    (h : wpList P ops Q rest (a.put o.dst (.agg C)) w) : wpList P ops Q (o :: rest) a w := by
  refine wpList_load_mid hgd ty x ho b 0 hx C.toList d (fun j v hv => ?_) hu hd (by simpa using hi) (by simpa using h)
  rw [Nat.zero_add, hb.cell]
  simpa using hv
/-- .. where the operation bears a guard that lets it run. -/
theorem wpList_load_wanted {P : Program} {w : World} {ops : Array Oper} {rest : List Oper} {o : Oper} {a : Act} {Q : Exit → Act → World → Prop} (hw : Region.wanted o (yielded ops a.tmps) = true) (ty : TypeId) (x : Operand) (ho : o.op = .load ty x)
    (b : Nat) (hx : a.eval x = .pointer (some ⟨b, 0, none⟩)) (C : Array Value) (t : TypeId) (d : TypeDesc) (hb : Blk w b C t) (hu : P.underlying ty = some d) (hd : d.isRow = true) (hi : (P.info? ty).map (·.size) = some C.size)
    (h : wpList P ops Q rest (a.put o.dst (.agg C)) w) : wpList P ops Q (o :: rest) a w := by
  unfold wpList
  rw [if_pos hw]
  refine Or.inl (wp_load_mid ty x ho b 0 hx C.toList d (fun j v hv => ?_) hu hd (by simpa using hi) (by simpa using h))
  rw [Nat.zero_add, hb.cell]
  simpa using hv
/-- append onto an owned row, in a region that draws its order. -/
theorem step_append_own {P : Program} {ops : Array Oper} {o : Oper} {a : Act} {w : World} {K : Act → World → Prop} {Q : Exit → Act → World → Prop} {E : Prop} (hgd : o.guard = none) (s x : Operand) (t : TypeId)
    (ho : o.op = .call { callee := .builtin .append, args := #[s, x], argTypes := #[t, t] })
    (base : Nat) (e : TypeId) (i : TypeInfo) (z : Value) (size bytes : Nat) (ht : P.underlying t = some (.slice e)) (hi : P.info? e = some i) (hz : i.zero = some z)
    (hsize : i.size = size) (hby : i.bytes = bytes) (hzs : z.cells.size = size) (hsz : 0 < size)
    (v : Value) (n : Nat) (xs : List Value) (hs : a.eval s = v) (hown : w.ownsRow base e size v n xs)
    (A : Option Addr) (m c : Nat) (news : List Value) (hx : a.eval x = .slice A m c) (hl : news.length = m * size) (hA : A = none → m = 0 ∧ c = 0) (hc : Cells w A news) (h1 : ∀ u ∈ news, u.oneCell' = true)
    (h63 : n + m ≤ maxLen) (hbytes : (n + m) * bytes ≤ 140737488355328) (hbase : base ≤ w.heap.size)
    (h : ∀ v' w', w'.ownsRow base e size v' (n + m) (xs ++ news) → w.grownBy w' v.ownBlock → K (a.put o.dst v') w') : if Region.wanted o (yielded ops a.tmps) = true then Oper.wp P o a w K Q else E := by
  have hw : Region.wanted o (yielded ops a.tmps) = true := by simp [Region.wanted, hgd]
  rw [if_pos hw]
  obtain ⟨v', w', hr, h2, h3, _⟩ := run_append_cells w base t o.type e i z size bytes ht hi hz hsize hby hzs hsz v n xs hown A m c news hl hA hc h1 h63 hbytes hbase
  unfold Oper.wp execOp
  simp only [ho, resolve, invoke, builtin, Sem.run_bind, Sem.run_pure, Result.andThen_ok, List.map_toArray, List.map_cons, List.map_nil, hs, hx, hr]
  exact h v' w' h2 h3
/-- .. at the list of a plain region. -/
theorem wpList_append_cells {P : Program} {ops : Array Oper} {rest : List Oper} {o : Oper} {a : Act} {w : World} {Q : Exit → Act → World → Prop} (hgd : o.guard = none) (s x : Operand) (t : TypeId)
    (ho : o.op = .call { callee := .builtin .append, args := #[s, x], argTypes := #[t, t] })
    (base : Nat) (e : TypeId) (i : TypeInfo) (z : Value) (size bytes : Nat) (ht : P.underlying t = some (.slice e)) (hi : P.info? e = some i) (hz : i.zero = some z)
    (hsize : i.size = size) (hby : i.bytes = bytes) (hzs : z.cells.size = size) (hsz : 0 < size)
    (v : Value) (n : Nat) (xs : List Value) (hs : a.eval s = v) (hown : w.ownsRow base e size v n xs)
    (A : Option Addr) (m c : Nat) (news : List Value) (hx : a.eval x = .slice A m c) (hl : news.length = m * size) (hA : A = none → m = 0 ∧ c = 0) (hc : Cells w A news) (h1 : ∀ u ∈ news, u.oneCell' = true)
    (h63 : n + m ≤ maxLen) (hbytes : (n + m) * bytes ≤ 140737488355328) (hbase : base ≤ w.heap.size)
    (h : ∀ v' w', w'.ownsRow base e size v' (n + m) (xs ++ news) → w.grownBy w' v.ownBlock → wpList P ops Q rest (a.put o.dst v') w') : wpList P ops Q (o :: rest) a w := by
  obtain ⟨v', w', hr, h2, h3, _⟩ := run_append_cells w base t o.type e i z size bytes ht hi hz hsize hby hzs hsz v n xs hown A m c news hl hA hc h1 h63 hbytes hbase
  exact wpList_append_run hgd s x t ho v (.slice A m c) v' hs hx hr (h v' w' h2 h3)
/-- Behind an append onto a row of one's own. -/
theorem Behind.own {w0 w w' : World} {b e size n : Nat} {v : Value} {xs : List Value} (h : Behind w0 w) (hown : w.ownsRow b e size v n xs) (hb : w0.heap.size ≤ b) (hg : w.grownBy w' v.ownBlock) : Behind w0 w' :=
  ⟨h.out.grown hg h.out.size fun k hk => Nat.le_trans hb (hown.lt k hk).1⟩
end Go.Proofs.Ytmobpbhbllhdcaa
