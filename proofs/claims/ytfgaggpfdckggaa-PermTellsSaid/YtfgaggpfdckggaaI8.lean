/- Appends, on the ideal heap. -/
import Derived.Test.YtfgaggpfdckggaaI7
noncomputable section
namespace Go.Proofs.Ytfgaggpfdckggaa.Ideal
set_option linter.unusedVariables false
set_option linter.unusedSimpArgs false
set_option linter.unnecessarySimpa false

/-- A row is dead; a new number takes its place in the world (or a part of it). -/
theorem Models.regrow {ρ : Rho} {h : IHeap} {w w' : World} {i : Nat} {R R' : Ren} {o n : IObj} {ob : Obj} (hm : Models ρ h w) (hg : h.get i = some o) (hro : o.isRo = false) (hd : o ≠ .dead) (hi : ρ i = some R) (hf : ρ h.size = none)
    (hz : w'.heap.size = w.heap.size) (hos : w'.os = w.os) (ht : w'.tape = w.tape) (hou : w'.output = w.output) (hb : w'.heap[R.block]? = some ob) (hother : ∀ b, b ≠ R.block → w'.heap[b]? = w.heap[b]?)
    (hR : R'.block = R.block) (ho : ORel (ρ.upd h.size R') R' n ob) : Step ρ h w (ρ.upd h.size R') ((h.set i .dead).push n) w' ∧ Models (ρ.upd h.size R') ((h.set i .dead).push n) w' := by
  have hlt := IHeap.get_lt hg
  obtain ⟨s1, m1⟩ := hm.write (o' := .dead) hg hro hd hi hz hos ht hou hb .dead hother
  have hup : ∀ j S, ρ.upd h.size R' j = some S → (j = h.size ∧ S = R') ∨ (j ≠ h.size ∧ ρ j = some S) := by
    intro j S hj
    unfold Rho.upd at hj
    split at hj
    · exact .inl ⟨by assumption, (Option.some.inj hj).symm⟩
    · exact .inr ⟨by assumption, hj⟩
  have hgp : ∀ j, ((h.set i .dead).push n).get j = if j = h.size then some n else (h.set i .dead).get j := fun j => by rw [IHeap.get_push]; rfl
  -- no other live block shares the world's block
  have alone : ∀ j S, j ≠ h.size → ρ j = some S → S.block = R.block → (h.set i .dead).get j ≠ some .dead → False := by
    intro j S hne hj hbk hdj
    rw [IHeap.get_set _ _ _ _ hlt] at hdj
    by_cases e : i = j
    · subst e; simp at hdj
    · rw [if_neg e] at hdj
      exact e (hm.inj i j R S hi hj hbk.symm (by rw [hg]; simpa using hd) hdj)
  refine ⟨⟨s1.grow.trans (Grow.push _ _), by rw [hz]; exact Nat.le_refl _, hos, ht, hou, ?_, ?_, s1.keep⟩, ⟨?_, ?_, ?_⟩⟩
  · intro j hj
    simp only [IHeap.size_push, IHeap.size_set] at hj
    unfold Rho.upd
    rw [if_neg (by omega)]
  · intro j S h1 h2 hj
    rcases hup j S hj with ⟨_, rfl⟩ | ⟨h3, _⟩
    · exact .inr ⟨i, R, o, hg, hro, hd, hi, hR.symm⟩
    · simp only [IHeap.size_push, IHeap.size_set] at h2; omega
  · intro j S o1 h1 h2
    rw [hgp] at h1
    rcases hup j S h2 with ⟨rfl, rfl⟩ | ⟨h3, h4⟩
    · rw [if_pos rfl] at h1
      cases h1
      exact ⟨ob, by rw [hR]; exact hb, ho⟩
    · rw [if_neg h3] at h1
      obtain ⟨b, h5, h6⟩ := m1.obj j S o1 h1 h4
      exact ⟨b, h5, h6.mono (upd_le hf)⟩
  · intro j k S1 S2 h1 h2 he hd1 hd2
    rw [hgp] at hd1 hd2
    rcases hup j S1 h1 with ⟨rfl, rfl⟩ | ⟨h3, h4⟩ <;> rcases hup k S2 h2 with ⟨rfl, rfl⟩ | ⟨h5, h6⟩
    · rfl
    · rw [if_neg h5] at hd2
      exact (alone k S2 h5 h6 (he.symm.trans hR) hd2).elim
    · rw [if_neg h3] at hd1
      exact (alone j S1 h3 h4 (he.trans hR) hd1).elim
    · rw [if_neg h3] at hd1
      rw [if_neg h5] at hd2
      exact m1.inj j k S1 S2 h4 h6 he hd1 hd2
  · intro j S h1
    rcases hup j S h1 with ⟨rfl, rfl⟩ | ⟨h3, h4⟩
    · rw [hR, hz]; exact hm.lt i R hi
    · exact m1.lt j S h4

/-- A row of ours dies. -/
theorem Models.kill {ρ : Rho} {h : IHeap} {w : World} {i : Nat} {o : IObj} (hm : Models ρ h w) (hg : h.get i = some o) (hro : o.isRo = false) (hd : o ≠ .dead) : Step ρ h w ρ (h.set i .dead) w ∧ Models ρ (h.set i .dead) w := by
  have hlt := IHeap.get_lt hg
  cases hi : ρ i with
  | some R =>
    obtain ⟨ob, hb, _⟩ := hm.obj i R o hg hi
    exact hm.write (o' := .dead) hg hro hd hi rfl rfl rfl rfl hb .dead (fun _ _ => rfl)
  | none =>
    refine ⟨⟨Grow.set hg hro hd, Nat.le_refl _, rfl, rfl, rfl, fun _ _ => rfl, fun j R a b => by simp only [IHeap.size_set] at b; omega, fun _ _ _ => rfl⟩, ⟨?_, ?_, hm.lt⟩⟩
    · intro j R o1 h1 h2
      rw [IHeap.get_set _ _ _ _ hlt] at h1
      by_cases e : i = j
      · subst e; rw [hi] at h2; cases h2
      · rw [if_neg e] at h1
        exact hm.obj j R o1 h1 h2
    · intro j k R1 R2 h1 h2 he hd1 hd2
      have nd : ∀ x, (h.set i .dead).get x ≠ some .dead → h.get x ≠ some .dead := by
        intro x hx
        rw [IHeap.get_set _ _ _ _ hlt] at hx
        by_cases e : i = x
        · subst e; rw [hg]; simpa using hd
        · rw [if_neg e] at hx; exact hx
      exact hm.inj j k R1 R2 h1 h2 he (nd j hd1) (nd k hd2)
/-- What is appended: a slice's elements, or so many zeros. -/
def asrcOf (P : Program) (h : IHeap) (t2 : TypeId) (z : Array Value) (bytes size : Nat) (x : Value) : Option (Nat × List Value) :=
  if notInt P t2 then srcOf h size x else
    match x, P.underlying t2 with
    | .int _ l, some (.int _) => if 0 ≤ l ∧ l * bytes ≤ 281474976710656 ∧ l < 9223372036854775808 then some (l.toNat, zeros z l.toNat) else none
    | _, _ => none
theorem asrc_run {P : Program} {ρ : Rho} {h : IHeap} {w : World} {t t2 ty e : TypeId} {size m : Nat} {x x' : Value} {news : List Value} {i0 : TypeInfo} {z0 : Value} (hs : asrcOf P h t2 z0.cells i0.bytes size x = some (m, news)) (hm : Models ρ h w) (hx : VRel ρ x x')
    (hu : P.underlying t = some (.slice e)) (hi0 : P.info? e = some i0) (hisz : i0.size = size) (hzs : z0.cells.size = size) (hsc : z0.cells.all scal = true) (hzr : ∀ w, (zeroValue e).run P w = .ok z0 w) :
    ∃ vs', LRel ρ news vs' ∧ news.length = m * size ∧
      (∀ {base : Option Addr} {n c : Nat} {w' : World}, n + m ≤ c → (∀ b, base = some b → (storeCells (b.add (n * i0.size)) vs').run P w = .ok () w') → (base = none → w' = w) → (Builtin.append_ #[t, t2] ty #[.slice base n c, x']).run P w = .ok (.slice base (n + m) c) w') ∧
      (∀ {base : Option Addr} {n c : Nat} {olds : Array Value}, (Builtin.firstCells i0.size n (.slice base n c)).run P w.drew = .ok olds w.drew → c < n + m → n + m ≤ 4611686018427387904 → (n + m) * i0.bytes ≤ 140737488355328 →
        (Builtin.append_ #[t, t2] ty #[.slice base n c, x']).run P w = .ok (.slice (some ⟨w.heap.size, 0, none⟩) (n + m) (grownCap w (n + m) c e)) (w.drew.alloc (.cells (olds ++ vs'.toArray ++ Builtin.zeroCells z0.cells (grownCap w (n + m) c e - (n + m))) e))) := by
  unfold asrcOf at hs
  split at hs
  · rename_i hni
    obtain ⟨d2, hu2, hd2⟩ := notInt_inv hni
    obtain ⟨vs', k1, k2, k3, k4⟩ := src_run (P := P) hs hm hx
    have k5 := k4 m (Nat.le_refl _)
    have hvl : vs'.length = m * size := by rw [← k2.1]; exact k3
    rw [List.take_of_length_le (by omega)] at k5
    refine ⟨vs', k2, k3, fun hle hst hb => ?_, fun ho hle h63 hfit => ?_⟩
    · exact app_room (P := P) hu hu2 hd2 hi0 (news := vs'.toArray) k1 (by rw [hisz]; exact k5 w rfl) hle hst hb
    · exact app_grow (P := P) hu hu2 hd2 hi0 hzr (news := vs'.toArray) k1 (by rw [hisz]; exact k5 w.drew rfl) ho hle h63 hfit
  · split at hs
    · rename_i k l kk hu2
      split at hs
      · rename_i hb
        cases hs
        have hzc : Builtin.zeroCells z0.cells l.toNat = (zeros z0.cells l.toNat).toArray := zeros_cells z0.cells l.toNat
        have hpl := ARel.plain (ρ := ρ) (zeros_plain hsc l.toNat)
        rw [hx.int_inv]
        refine ⟨zeros z0.cells l.toNat, ⟨rfl, fun i v hv => ?_⟩, ?_, fun hle hst hb' => ?_, fun ho hle h63 hfit => ?_⟩
        · obtain ⟨v', h1, h2⟩ := hpl.get (i := i) (v := v) (by simpa using hv)
          exact ⟨v', by simpa using h1, h2⟩
        · have := congrArg Array.size hzc
          rw [size_zeroCells, hzs] at this
          simpa using this.symm
        · exact app_roomZ (P := P) hu hu2 hi0 hzr (by rw [hzs, hisz]) hb.1 hb.2.2 hb.2.1 hle (by rw [hzc]; exact hst) hb'
        · rw [← hzc]
          exact app_growZ (P := P) hu hu2 hi0 hzr (by rw [hzs, hisz]) hb.1 hb.2.2 hb.2.1 ho hle h63 hfit
      · cases hs
    · cases hs
/-- An append. -/
def iappend (P : Program) (h : IHeap) (t t2 : TypeId) (s x : Value) : Option (Value × IHeap) :=
  match slcOf P t with
  | none => none
  | some (e, size) =>
  match zeroOf P e, (P.info? e).map (·.bytes) with
  | some z, some bytes =>
    match asrcOf P h t2 z bytes size x with
    | none => none
    | some (m, news) =>
    if z.size == size && size != 0 && news.all (·.oneCell') then
      match s with
      | .slice none 0 0 => if m = 0 then some (s, h) else if m * bytes ≤ 140737488355328 ∧ m ≤ 4611686018427387904 then some (.slice (some ⟨h.size, 0, none⟩) m m, h.push (.row false size news)) else none
      | .slice (some ⟨_, _, some _⟩) 0 0 => if m = 0 then some (s, h) else if m * bytes ≤ 140737488355328 ∧ m ≤ 4611686018427387904 then some (.slice (some ⟨h.size, 0, none⟩) m m, h.push (.row false size news)) else none
      | .slice (some ⟨i, q, none⟩) n c =>
        if n + m ≤ c then
          (if m = 0 then some (s, h) else match h.get i with
            | some (.row false esz cs) => if q + n * size + news.length ≤ cs.length then some (.slice (some ⟨i, q, none⟩) (n + m) c, h.set i (.row false esz (splice cs (q + n * size) news))) else none
            | _ => none)
        else if (n + m) * bytes ≤ 140737488355328 ∧ n + m ≤ 4611686018427387904 then
          (match h.get i with
            | some (.row false esz cs) => if esz = 0 ∨ esz = size then (slots cs q (n * size)).map fun olds => (.slice (some ⟨h.size, 0, none⟩) (n + m) (n + m), (h.set i .dead).push (.row false size (olds ++ news))) else none
            | _ => none)
        else none
      | _ => none
    else none
  | _, _ => none

theorem LRel.append {ρ : Rho} {a a' b b' : List Value} (h : LRel ρ a a') (k : LRel ρ b b') : LRel ρ (a ++ b) (a' ++ b') := by
  refine ⟨by simp [h.1, k.1], fun i v hv => ?_⟩
  by_cases hi : i < a.length
  · rw [List.getElem?_append_left hi] at hv
    rw [List.getElem?_append_left (by rw [← h.1]; exact hi)]
    exact h.2 i v hv
  · rw [List.getElem?_append_right (by omega)] at hv
    rw [List.getElem?_append_right (by rw [← h.1]; omega), ← h.1]
    exact k.2 _ v hv
theorem LRel.nil (ρ : Rho) : LRel ρ [] [] := ⟨rfl, fun i v hv => by simp at hv⟩

/-- The new row of an append that grows. -/
theorem grown_row {ρ : Rho} {id b size cap : Nat} {xs xs' : List Value} {zs : Array Value} {e : TypeId} {cells : Array Value} (hf : ρ id = none) (h : LRel ρ xs xs') (hc : cells = xs'.toArray ++ zs) :
    ORel (ρ.upd id ⟨b, 0, cells.size, size⟩) ⟨b, 0, cells.size, size⟩ (.row false size xs) (.cells cells e (0, 0)) := by
  subst hc
  refine .row (fun _ => ⟨fun _ => rfl, fun k _ => by simp⟩) rfl rfl (by simp [h.1]) (fun i v hv => ?_)
  obtain ⟨v', h1, h2⟩ := h.2 i v hv
  refine ⟨v', ?_, h2.mono (upd_le hf)⟩
  have hi : i < xs'.length := (List.getElem?_eq_some_iff.1 h1).1
  rw [Nat.zero_add, Array.getElem?_append_left (by simpa using hi)]
  simpa using h1
theorem size_grown {z : Array Value} {size need cap : Nat} {xs : List Value} (hz : z.size = size) (hl : xs.length = need * size) (hc : need ≤ cap) : (xs.toArray ++ Builtin.zeroCells z (cap - need)).size = cap * size := by
  rw [Array.size_append, size_zeroCells, hz]
  simp only [List.size_toArray, hl]
  rw [← Nat.add_mul]; congr 1; omega
theorem drew_heap (w : World) : w.drew.heap = w.heap := rfl
theorem mem_append {P : Program} {o : Oper} {a : Act} {h h' : IHeap} {c : Call} {t t2 : TypeId} {s x : Operand} {v : Value} (ho : o.op = .call c) (hc : c.callee = .builtin .append) (ha : c.args = #[s, x]) (hat : c.argTypes = #[t, t2])
    (hv : iappend P h t t2 (a.eval s) (a.eval x) = some (v, h')) : MOp P o a h v h' := by
  intro ρ ar w hm hfr hrel
  have gs := hrel s (by simp [ho, Op.operands, Call.operands, hc, ha])
  have gx := hrel x (by simp [ho, Op.operands, Call.operands, hc, ha])
  have hexec : ∀ (v' : Value) (w' : World), (Builtin.append_ #[t, t2] o.type #[ar.eval s, ar.eval x]).run P w = .ok v' w' → (execOp ar.eval o).run P w = .ok (.value v') w' := by
    intro v' w' hr
    simp only [execOp, ho, resolve, hc, ha, hat, Sem.run_bind, Sem.run_pure, Result.andThen_ok, invoke, builtin, List.map_toArray, List.map_cons, List.map_nil, hr]
  unfold iappend at hv
  split at hv
  · cases hv
  rename_i e size hslc
  obtain ⟨hu, hsz⟩ := slcOf_inv hslc
  split at hv
  case h_2 => cases hv
  rename_i z bytes hz hby
  split at hv
  case h_1 => cases hv
  rename_i m news hsrc
  split at hv
  case isFalse => cases hv
  rename_i hcond
  simp only [Bool.and_eq_true, bne_iff_ne, ne_eq, beq_iff_eq] at hcond
  obtain ⟨⟨hzs, hs0⟩, hone⟩ := hcond
  obtain ⟨i0, hi0, hbb⟩ := Option.map_eq_some_iff.mp hby
  have hisz : i0.size = size := by
    have : tsize P e = some i0.size := by simp [tsize, hi0]
    rw [hsz] at this
    exact (Option.some.inj this).symm
  obtain ⟨z0, rfl, hsc, hzr⟩ := zeroOf_inv hz
  rw [← hbb] at hsrc
  obtain ⟨vs', k2, k3, RM, GR⟩ := asrc_run (P := P) (t := t) (ty := o.type) hsrc hm gx hu hi0 hisz hzs hsc hzr
  have hvl : vs'.length = m * size := by rw [← k2.1]; exact k3
  have grow : ∀ (base : Option Addr) (n c' : Nat) (olds olds' : List Value), ar.eval s = .slice base n c' → (∀ w1, w1.heap = w.heap → (Builtin.firstCells size n (.slice base n c')).run P w1 = .ok olds'.toArray w1) → olds.length = n * size → LRel ρ olds olds' → c' < n + m → (n + m) * bytes ≤ 140737488355328 → n + m ≤ 4611686018427387904 →
      ρ h.size = none → ∀ (h1 : IHeap), h1.size = h.size → Step ρ h w ρ h1 w → Models ρ h1 w →
      ∃ nx w' ρ' v', (execOp ar.eval o).run P w = .ok nx w' ∧ (nx = .value v' ∨ (nx = .skip ∧ v' = undef)) ∧ Step ρ h w ρ' (h1.push (.row false size (olds ++ news))) w' ∧ Models ρ' (h1.push (.row false size (olds ++ news))) w' ∧ VRel ρ' (.slice (some ⟨h.size, 0, none⟩) (n + m) (n + m)) v' := by
    intro base n c' olds olds' es ho1 hol hro hlt hby2 h62 hf h1 hsz1 s1 m1
    have hrun := GR (base := base) (n := n) (c := c') (olds := olds'.toArray) (by rw [hisz]; exact ho1 w.drew rfl) hlt h62 (by rw [hbb]; exact hby2)
    rw [← es] at hrun
    have hcap := grownCap_ge w (n + m) c' e
    generalize grownCap w (n + m) c' e = cap at hrun hcap
    have hrel2 := hro.append k2
    have hsize := size_grown (z := z0.cells) (size := size) (need := n + m) (cap := cap) (xs := olds' ++ vs') hzs (by rw [List.length_append, ← hro.1, hol, hvl, Nat.add_mul]) hcap
    have hcells : olds'.toArray ++ vs'.toArray ++ Builtin.zeroCells z0.cells (cap - (n + m)) = (olds' ++ vs').toArray ++ Builtin.zeroCells z0.cells (cap - (n + m)) := Array.ext' (by simp)
    rw [hcells] at hrun
    generalize hC : (olds' ++ vs').toArray ++ Builtin.zeroCells z0.cells (cap - (n + m)) = C at hrun hsize
    have hor := grown_row (ρ := ρ) (id := h1.size) (b := w.heap.size) (size := size) (cap := cap) (e := e) (by rw [hsz1]; exact hf) hrel2 hC.symm
    obtain ⟨s2, m2⟩ := m1.push (w' := w.drew.alloc (.cells C e)) (by rw [hsz1]; exact hf) rfl rfl rfl rfl rfl hor
    refine ⟨_, _, _, _, hexec _ _ hrun, .inl rfl, s1.trans s2, m2, ?_⟩
    rw [← hsz1]
    have hu := upd_same ρ h1.size ⟨w.heap.size, 0, C.size, size⟩
    have := VRel.slc (o := 0) (n := n + m) (c := n + m) (c' := cap) hu (.inr ⟨hcap, by show 0 < size; omega, by show 0 + 0 + cap * size ≤ C.size; omega⟩)
    simpa using this
  have room : ∀ (i q n c c' esz : Nat) (R : Ren) (cs : List Value) (ob : Obj), ar.eval s = .slice (some ⟨R.block, R.off + q, none⟩) n c' → w.heap[R.block]? = some ob → ORel ρ R (.row false esz cs) ob → n + m ≤ c' → q + n * size + news.length ≤ cs.length →
      ∃ w' ob', (execOp ar.eval o).run P w = .ok (.value (.slice (some ⟨R.block, R.off + q, none⟩) (n + m) c')) w' ∧ w'.heap.size = w.heap.size ∧ w'.os = w.os ∧ w'.tape = w.tape ∧ w'.output = w.output ∧ w'.heap[R.block]? = some ob' ∧ ORel ρ R (.row false esz (splice cs (q + n * size) news)) ob' ∧ ∀ b, b ≠ R.block → w'.heap[b]? = w.heap[b]? := by
    intro i q n c c' esz R cs ob es hb hor hle hfit
    obtain ⟨w', ob', g1, g2, g3, g4, g5, g6, g7, g8⟩ := storeCells_run (P := P) (q := q + n * size) hb hor k2 hfit hone
    refine ⟨w', ob', hexec _ _ ?_, g2, g3, g4, g5, g6, g7, g8⟩
    rw [es]
    exact RM hle (fun b hb => by cases hb; rw [add_none, hisz, Nat.add_assoc]; exact g1) (fun hb => by cases hb)
  split at hv
  · -- nil
    rename_i hsv
    have es := scal_eq (by rw [hsv]; rfl) gs
    rw [hsv] at es
    split at hv
    · rename_i hm0
      cases hv
      subst hm0
      refine ⟨_, w, ρ, .slice none 0 0, hexec _ _ (by rw [es]; exact RM (Nat.le_refl _) (fun b hb => by cases hb) (fun _ => rfl)), .inl rfl, Step.refl _ _ _, hm, by rw [hsv]; exact .base rfl⟩
    · rename_i hm0
      split at hv
      · rename_i hbd
        cases hv
        have hf := hfr h.size (Nat.le_refl _) (by simp)
        have := grow none 0 0 [] [] es (fun w1 _ => by simp [Builtin.firstCells]) (by simp) (LRel.nil ρ) (by omega) (by simpa using hbd.1) (by simpa using hbd.2) hf h rfl (Step.refl _ _ _) hm
        simpa using this
      · cases hv
  · -- an empty one of which nothing is left
    rename_i i q u hsv
    have es : ∃ a', ar.eval s = .slice (some a') 0 0 := by
      rw [hsv] at gs
      generalize ar.eval s = y at gs
      cases gs with
      | base h => simp [scal] at h
      | slcE => exact ⟨_, rfl⟩
    obtain ⟨a', es⟩ := es
    split at hv
    · rename_i hm0
      cases hv
      subst hm0
      have hn0 : vs' = [] := List.eq_nil_of_length_eq_zero (by omega)
      refine ⟨_, w, ρ, .slice (some a') 0 0, hexec _ _ (by rw [es]; exact RM (Nat.le_refl _) (fun b hb => by rw [hn0]; rfl) (fun hb => by cases hb)), .inl rfl, Step.refl _ _ _, hm, by rw [hsv]; exact .slcE⟩
    · rename_i hm0
      split at hv
      · rename_i hbd
        cases hv
        have hf := hfr h.size (Nat.le_refl _) (by simp)
        have := grow (some a') 0 0 [] [] es (fun w1 _ => by simp [Builtin.firstCells, loadCells, loadCellsFrom]) (by simp) (LRel.nil ρ) (by omega) (by simpa using hbd.1) (by simpa using hbd.2) hf h rfl (Step.refl _ _ _) hm
        simpa using this
      · cases hv
  · rename_i i q n c hsv
    rw [hsv] at gs
    split at hv
    · rename_i hle
      split at hv
      · -- nothing is appended
        rename_i hm0
        cases hv
        subst hm0
        have hn0 : vs' = [] := List.eq_nil_of_length_eq_zero (by omega)
        obtain ⟨a', c', es⟩ := gs.someslc
        have hle' : n + 0 ≤ c' := by
          rcases gs.slc_inv with ⟨R, c2, _, hc2, e2⟩ | ⟨h0, _, a2, e2⟩
          · rw [es] at e2; cases e2; omega
          · rw [es] at e2; cases e2; omega
        refine ⟨_, w, ρ, .slice (some a') n c', hexec _ _ (by rw [es]; exact RM hle' (fun b hb => by rw [hn0]; rfl) (fun hb => by cases hb)), .inl rfl, Step.refl _ _ _, hm, by rw [hsv, ← es]; exact gs⟩
      · rename_i hm0
        split at hv
        · rename_i esz cs hg
          split at hv
          · rename_i hfit
            cases hv
            rcases gs.slc_inv with ⟨R, c', hR, hc, es⟩ | ⟨h0, hc0, _⟩
            · obtain ⟨ob, hb, hor⟩ := hm.obj i R _ hg hR
              obtain ⟨w', ob', g1, g2, g3, g4, g5, g6, g7, g8⟩ := room i q n c c' esz R cs ob es hb hor (by omega) hfit
              obtain ⟨s1, m1⟩ := hm.write hg rfl (by simp) hR g2 g3 g4 g5 g6 g7 g8
              exact ⟨_, w', ρ, _, g1, .inl rfl, s1, m1, .slc hR hc⟩
            · omega
          · cases hv
        · cases hv
    · rename_i hle
      split at hv
      · rename_i hbd
        split at hv
        · rename_i esz cs hg
          split at hv
          · rename_i hez
            obtain ⟨olds, hsl, he⟩ := Option.map_eq_some_iff.mp hv
            cases he
            have hf := hfr h.size (Nat.le_refl _) (by simp)
            rcases gs.slc_inv with ⟨R, c', hR, hc, es⟩ | ⟨h0, hc0, a', es⟩
            · obtain ⟨ob, hb, hor⟩ := hm.obj i R _ hg hR
              obtain ⟨olds', j1, j2, j3⟩ := slots_run (P := P) hb hor hsl
              by_cases hin : n + m ≤ c'
              · -- in place
                obtain ⟨c2, e2, fr, rfl, hfrz, hesz, hroom, hz, hcl⟩ := hor.cells
                rcases hc with rfl | ⟨hc1, hc2, hc3⟩
                · omega
                have hes : R.esz = size := by omega
                rw [hes] at hc3
                have hmul : (n + m) * size ≤ c' * size := Nat.mul_le_mul_right _ hin
                rw [Nat.add_mul] at hmul
                obtain ⟨cur', g1, g2, g3, g4, g5, g6, g7, g8⟩ := setCells_heap R.block e2 fr vs' (R.off + q + n * size) w c2 hb (by omega)
                have hst := run_storeCells_cells (P := P) R.block (R.off + q + n * size) vs' 0 w (fun j hj => by
                  rw [Nat.add_zero, cell_of hb]
                  have : R.off + q + n * size + j < c2.size := by omega
                  simp [this]) (fun j hj => by
                  rw [Nat.add_zero, frozen_of hb]
                  exact (hfrz rfl).2 _ (by omega)) (fun v hv => by
                  obtain ⟨j, hj⟩ := List.getElem?_of_mem hv
                  have hj' : j < news.length := by
                    have := (List.getElem?_eq_some_iff.1 hj).1
                    omega
                  obtain ⟨v2, a1, a2⟩ := k2.2 j news[j] (by simp [hj'])
                  rw [hj] at a1; cases a1
                  rw [a2.one]
                  exact List.all_eq_true.1 hone _ (List.getElem_mem hj'))
                rw [Nat.add_zero] at hst
                have holdg : ∀ (k : Nat) (v : Value), olds[k]? = some v → k < n * size ∧ ∃ v', c2[R.off + q + k]? = some v' ∧ VRel ρ v v' := by
                  intro k v hk
                  have hk' : k < n * size := by
                    have := (List.getElem?_eq_some_iff.1 hk).1
                    omega
                  refine ⟨hk', ?_⟩
                  unfold slots at hsl
                  split at hsl
                  · cases hsl
                    rw [List.getElem?_take, if_pos hk', List.getElem?_drop] at hk
                    rw [Nat.add_assoc]
                    exact hcl _ _ hk
                  · cases hsl
                have hor2 : ORel (ρ.upd h.size ⟨R.block, R.off + q, R.room, size⟩) ⟨R.block, R.off + q, R.room, size⟩ (.row false size (olds ++ news)) (.cells cur' e2 fr) := by
                  refine .row (fun _ => ⟨fun h0 => absurd h0 hs0, fun k hk => (hfrz rfl).2 k (by omega)⟩) rfl (by rw [g2]; exact hroom) (by rw [List.length_append, j3, k3, g2]; show R.off + q + _ ≤ _; omega) (fun k v hk => ?_)
                  show ∃ v', cur'[R.off + q + k]? = some v' ∧ _
                  rw [g3]
                  by_cases hkn : k < olds.length
                  · rw [List.getElem?_append_left hkn] at hk
                    obtain ⟨b1, v', b2, b3⟩ := holdg k v hk
                    exact ⟨v', by rw [if_neg (by omega)]; exact b2, b3.mono (upd_le hf)⟩
                  · rw [List.getElem?_append_right (by omega)] at hk
                    obtain ⟨v', b2, b3⟩ := k2.2 _ _ hk
                    have hlt : k - olds.length < vs'.length := (List.getElem?_eq_some_iff.1 b2).1
                    refine ⟨v', ?_, b3.mono (upd_le hf)⟩
                    rw [if_pos (by omega), show R.off + q + k - (R.off + q + n * size) = k - olds.length by omega]
                    exact b2
                obtain ⟨s2, m2⟩ := hm.regrow (R' := ⟨R.block, R.off + q, R.room, size⟩) (w' := w.setCells R.block (R.off + q + n * size) vs') hg rfl (by simp) hR hf g4 g6 g7 g8 g1 g5 rfl hor2
                have hrun := RM (base := some ⟨R.block, R.off + q, none⟩) (n := n) (c := c') hin (fun b hb => by cases hb; rw [add_none, hisz]; exact hst) (fun hb => by cases hb)
                rw [← es] at hrun
                refine ⟨_, _, _, _, hexec _ _ hrun, .inl rfl, s2, m2, ?_⟩
                have hup := upd_same ρ h.size ⟨R.block, R.off + q, R.room, size⟩
                have := VRel.slc (o := 0) (n := n + m) (c := n + m) (c' := c') hup (.inr ⟨hin, by show 0 < size; omega, by show R.off + q + 0 + c' * size ≤ R.room; omega⟩)
                simpa using this
              · obtain ⟨s1, m1⟩ := hm.write (o' := .dead) hg rfl (by simp) hR rfl rfl rfl rfl hb .dead (fun _ _ => rfl)
                have hold := src_run (P := P) (ρ := ρ) (h := h) (w := w) (size := size) (m := n) (x := .slice (some ⟨i, q, none⟩) n c) (x' := ar.eval s) (vs := olds) (by
                  unfold srcOf
                  by_cases hn0 : n = 0
                  · subst hn0
                    have : olds = [] := List.eq_nil_of_length_eq_zero (by omega)
                    simp [this]
                  · simp [hn0, hg, hsl]) hm gs
                obtain ⟨olds2, _, l2, l3, l4⟩ := hold
                have l5 : ∀ w1, w1.heap = w.heap → (Builtin.firstCells size n (ar.eval s)).run P w1 = .ok olds2.toArray w1 := fun w1 hw1 => by
                  have := l4 n (Nat.le_refl _) w1 hw1
                  rwa [List.take_of_length_le (by rw [← l2.1, l3]; exact Nat.le_refl _)] at this
                exact grow _ n c' olds olds2 es (by rw [← es]; exact l5) l3 l2 (by omega) hbd.1 hbd.2 hf _ rfl s1 m1
            · subst h0 hc0
              have holds : olds = [] := List.eq_nil_of_length_eq_zero (by
                unfold slots at hsl
                split at hsl
                · cases hsl; simp
                · cases hsl)
              subst holds
              obtain ⟨s1, m1⟩ := hm.kill hg rfl (by simp)
              exact grow (some a') 0 0 [] [] es (fun w1 _ => by simp [Builtin.firstCells, loadCells, loadCellsFrom]) (by simp) (LRel.nil ρ) (by omega) hbd.1 hbd.2 hf _ rfl s1 m1
          · cases hv
        · cases hv
      · cases hv
  · cases hv
end Go.Proofs.Ytfgaggpfdckggaa.Ideal
