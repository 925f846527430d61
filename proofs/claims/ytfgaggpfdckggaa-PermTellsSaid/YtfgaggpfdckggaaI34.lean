/- Ranges over functions: the frame at a round's begin. -/
import Derived.Test.YtfgaggpfdckggaaI33
noncomputable section
namespace Go.Proofs.Ytfgaggpfdckggaa.Ideal
open Go.RowKit
set_option linter.unusedVariables false
set_option linter.unusedSimpArgs false
set_option linter.unnecessarySimpa false
theorem envOf_arr (e : XEnv) : (envOf e.arr.toList e.arr.toList.length).n = e.n ∧ (envOf e.arr.toList e.arr.toList.length).dfr = [] ∧ ∀ t, (envOf e.arr.toList e.arr.toList.length).get t = e.get t := by
  have h1 := envOf_rel e.arr.toList 0
  simp only [Nat.add_zero, List.replicate_zero, List.append_nil, Array.toArray_toList] at h1
  have h2 := XEnv.act_rel e
  refine ⟨?_, rfl, fun t => ?_⟩
  · rw [← h1.size, ← h2.size]; rfl
  · rw [← h1.get t, ← h2.get t]; rfl
theorem roundE_one (e : XEnv) {t0 : Tmp} {L : Loop} (hL : L.params = #[t0]) (hT : L.tmps = e.arr) (v : Value) : ∃ r : XEnv, roundE L #[v] = r.put (some t0) v ∧ r.n = e.n ∧ r.dfr = [] ∧ ∀ t, r.get t = e.get t := by
  obtain ⟨h1, h2, h3⟩ := envOf_arr e
  refine ⟨_, ?_, h1, h2, h3⟩
  unfold roundE
  rw [hL, hT, show (#[t0].zip #[v]).toList = [(t0, v)] by simp]
  rfl
theorem roundE_two (e : XEnv) {t0 t1 : Tmp} {L : Loop} (hL : L.params = #[t0, t1]) (hT : L.tmps = e.arr) (v u : Value) : ∃ r : XEnv, roundE L #[v, u] = (r.put (some t0) v).put (some t1) u ∧ r.n = e.n ∧ r.dfr = [] ∧ ∀ t, r.get t = e.get t := by
  obtain ⟨h1, h2, h3⟩ := envOf_arr e
  refine ⟨_, ?_, h1, h2, h3⟩
  unfold roundE
  rw [hL, hT, show (#[t0, t1].zip #[v, u]).toList = [(t0, v), (t1, u)] by simp]
  rfl
theorem WPR.gen {P : Program} {rd : Option Nat} {g : Operand} {ps : Array Tmp} {assign body : Code} {e : XEnv} {h : IHeap} {Q : Hid XQ} (x : ∀ E H, E = e → H = h → WPR P rd g ps assign body E H (Q := Q)) : WPR P rd g ps assign body e h (Q := Q) := x e h rfl rfl
theorem WPR.intro2 {P : Program} {g : Operand} {ps : Array Tmp} {assign body : Code} {e : XEnv} {h : IHeap} {Q : Hid XQ} {f : FuncId} {fs cs : Array Value} (hok : operandOk g = true) (hg : e.ev g = .func (.func f) fs cs) (hf : fnB P f = true) {args : Array Value} (ha : args = fs ++ #[.func (.yield (h.size + 1)) #[] #[]] ++ cs)
    (hx : ∀ L : Loop, L.params = ps → L.tmps = e.arr → L.assign = assign → L.body = body → L.state = .ready → L.pending = none → FN P f args ((h.push .defs).push (.loop L)) (Q := ⟨fun _ h3 => rngQ Q e (h.size + 1) h.size h3⟩)) : WPR P none g ps assign body e h (Q := Q) :=
  WPR.intro hok hg hf (by rw [← ha]; exact hx _ rfl rfl rfl rfl rfl rfl)
/-- A round: assign, then body, in frames that are known. -/
theorem RN.one {P : Program} (hm : P.follows .mixedOrders = true) {l : Nat} {v : Value} {h : IHeap} {Q : Hid VQ} {L : Loop} {t0 : Tmp} {E : XEnv} {A B : Code} (hg : h.get l = some (.loop L)) (hp : L.params = #[t0]) (ht : L.tmps = E.arr) (hA : L.assign = A) (hB : L.body = B) (ha : codeOk A = true) (hb : codeOk B = true)
    (hx : ∀ r : XEnv, r.n = E.n → r.dfr = [] → (∀ t, r.get t = E.get t) → WP P (some l) A (r.put (some t0) v) h (Q := ⟨assignQ P l B Q⟩)) : RN P l #[v] h (Q := Q) := by
  subst hA; subst hB
  obtain ⟨r, h1, h2, h3, h4⟩ := roundE_one E hp ht v
  exact RN.intro hm hg (by rw [hp]; rfl) ha hb (by rw [h1]; exact hx r h2 h3 h4)
theorem RN.two {P : Program} (hm : P.follows .mixedOrders = true) {l : Nat} {v u : Value} {h : IHeap} {Q : Hid VQ} {L : Loop} {t0 t1 : Tmp} {E : XEnv} {A B : Code} (hg : h.get l = some (.loop L)) (hp : L.params = #[t0, t1]) (ht : L.tmps = E.arr) (hA : L.assign = A) (hB : L.body = B) (ha : codeOk A = true) (hb : codeOk B = true)
    (hx : ∀ r : XEnv, r.n = E.n → r.dfr = [] → (∀ t, r.get t = E.get t) → WP P (some l) A ((r.put (some t0) v).put (some t1) u) h (Q := ⟨assignQ P l B Q⟩)) : RN P l #[v, u] h (Q := Q) := by
  subst hA; subst hB
  obtain ⟨r, h1, h2, h3, h4⟩ := roundE_two E hp ht v u
  exact RN.intro hm hg (by rw [hp]; rfl) ha hb (by rw [h1]; exact hx r h2 h3 h4)
theorem finD_one {P : Program} {rs : List ResultVar} {Q : VQ} {e : XEnv} {h : IHeap} {b : Nat} (hb : h.get b = some .defs) : finD P rs Q [markOf b] e h = atSome (iresultsE P e.get (h.set b .dead) rs) (K := ⟨fun v => Q v (h.set b .dead)⟩) := by
  have : marksOf [markOf b] = some [b] := by simp [marksOf, markOf]
  simp only [finD, this, closeMarks, hb]
  cases iresultsE P e.get (h.set b .dead) rs <;> rfl
theorem dfr_get (e : XEnv) (d : List Deferred) (t : Nat) : ({ e with dfr := d } : XEnv).get t = e.get t := by rw [XEnv.get_def, XEnv.get_def]
theorem XEnv.withd (e : XEnv) (d : List Deferred) : ∃ E : XEnv, ({ n := e.n, t := e.t, dfr := d } : XEnv) = E ∧ E.n = e.n ∧ E.dfr = d ∧ ∀ t, E.get t = e.get t := ⟨_, rfl, rfl, rfl, dfr_get e d⟩
theorem one_slc (a : Option Addr) (n c : Nat) : (Value.slice a n c).oneCell' = true := byEq rfl
theorem one_bool (b : Bool) : (Value.bool b).oneCell' = true := byEq rfl
theorem one_ptr (a : Option Addr) : (Value.pointer a).oneCell' = true := byEq rfl
theorem one_map (a : Option Nat) : (Value.map a).oneCell' = true := byEq rfl
theorem one_str (s : ByteArray) : (Value.string s).oneCell' = true := byEq rfl
end Go.Proofs.Ytfgaggpfdckggaa.Ideal
