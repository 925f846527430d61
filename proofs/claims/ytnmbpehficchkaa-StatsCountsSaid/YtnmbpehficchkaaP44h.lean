import Derived.Test.YtnmbpehficchkaaP44g
noncomputable section
open Go.Proofs
namespace Go.Proofs.Ytnmbpehficchkaa.Ideal
open Go.RowKit
set_option linter.unusedSimpArgs false
set_option linter.unusedVariables false
set_option maxRecDepth 100000
set_option maxHeartbeats 4000000
attribute [-simp] IHeap.size_set IHeap.size_push
attribute [local simp ↓] Hid.ap_mk
attribute [local simp] scopeQ_normal scopeQ_ret scopeQ_exit WP_skip WP_label WP_exit WP_goto WP_ret WP_region WP_seq WP_cond WP_block WP_scope WP_loop WP_range thenQ_normal thenQ_ret thenQ_exit thenQ_goto loopQ_normal loopQ_ret loopQ_exit invQ_normal invQ_ret invQ_exit outOf_normal outOf_ret outOf_goto outOf_exit ev_tmp ev_const ev_func
  wops_nil wops_cons wantedE_none wantedE_some jgd_some wnx_eq niC_false wdo_move wdo_assign wdo_pick wdo_load wdo_store wdo_alloc wdo_box wdo_fieldAddr wdo_indexAddr wdo_field wdo_extract wdo_build wdo_buildSlice wdo_makeSlice wdo_binOp wdo_unOp wdo_makeFunc wdo_nilCheck wdo_callV wdo_len wdo_append wdo_copy wdo_delete wdo_max wdo_min wdo_convert jcvt_int
  xput_get put_n put_none put_dfr ibin finQ_n finQ_r finD_nil splice_one ires_nil ires_one ires_two ires_three ires1_tmp ires1_cell jcell_ptr rowLoad_row wrap64 wrapU64 wrapU8 wrapU16 wrapU32 callV_fn buildOf Instr.fill Value.cells Value.oneCell' kindOf slots_all splice_all IHeap.size_set' IHeap.size_push' IHeap.get_set_same IHeap.get_set_ne IHeap.get_pushed IHeap.get_push_ne IHeap.set_set IHeap.set_push IHeap.set_pushed IHeap.set_set3 getU_nil getU_same getU_ne jif_true jif_false pushH_eq setH_eq forceL_eq forceV_eq ibuildSlice
attribute [local simp] wdo_index jopt_some
theorem take_set_sum2 : ∀ (l : List Int) (k i : Nat) (v : Int), k < l.length → ((l.set k (l.getD k 0 + v)).take i).sum = (l.take i).sum + if k < i then v else 0
  | [], k, i, v, h => by simp at h
  | a :: l, 0, 0, v, h => by simp
  | a :: l, 0, i + 1, v, h => by simp; omega
  | a :: l, k + 1, 0, v, h => by simp
  | a :: l, k + 1, i + 1, v, h => by
    have := take_set_sum2 l k i v (by simpa using h)
    simp only [List.set_cons_succ, List.getD_cons_succ, List.take_succ_cons, List.sum_cons, this]
    by_cases c : k < i
    · rw [if_pos c, if_pos (by omega)]; omega
    · rw [if_neg c, if_neg (by omega)]; omega
/-- The first j counts of another one added. -/
def mixN (a b : List Int) : Nat → List Int
  | 0 => a
  | j + 1 => (mixN a b j).set j ((mixN a b j).getD j 0 + b.getD j 0)
theorem mixN_len (a b : List Int) : ∀ j, (mixN a b j).length = a.length
  | 0 => rfl
  | j + 1 => by simp [mixN, mixN_len a b j]
theorem mixN_takes {a b : List Int} (ha : a.length = 65) (hb : b.length = 65) : ∀ j, j ≤ 65 → ∀ i, ((mixN a b j).take i).sum = (a.take i).sum + (b.take (min i j)).sum
  | 0, _, i => by simp [mixN]
  | j + 1, hj, i => by
    have ih := mixN_takes ha hb j (by omega) i
    rw [mixN, take_set_sum2 _ _ _ _ (by rw [mixN_len]; omega), ih]
    by_cases c : j < i
    · rw [if_pos c, show min i j = j by omega, show min i (j + 1) = j + 1 by omega, sum_take_succ (by omega)]
      have : b.getD j 0 = b[j]'(by omega) := by simp [show j < b.length by omega]
      rw [this]; omega
    · rw [if_neg c, show min i j = i by omega, show min i (j + 1) = i by omega]; omega
theorem mixN_pos {a b : List Int} (ha : ∀ x ∈ a, 0 ≤ x) (hb : ∀ x ∈ b, 0 ≤ x) : ∀ j, ∀ x ∈ mixN a b j, 0 ≤ x
  | 0, x, hx => ha x hx
  | j + 1, x, hx => by
    rcases List.mem_or_eq_of_mem_set hx with hx | rfl
    · exact mixN_pos ha hb j x hx
    · have gd : ∀ (l : List Int), (∀ x ∈ l, 0 ≤ x) → 0 ≤ l.getD j 0 := by
        intro l hl
        rw [List.getD_eq_getElem?_getD]
        cases h : l[j]? with
        | none => simp
        | some v => exact hl v (List.mem_of_getElem? h)
      have := gd _ (mixN_pos ha hb j)
      have := gd _ hb
      omega
def HG.mfirst (x o : HG) : HG := if x.by'.sum = 0 then { x with least := o.least, greatest := o.greatest } else x
def HG.mwide (x o : HG) : HG := { x with least := if o.least < x.least then o.least else x.least, greatest := if o.greatest > x.greatest then o.greatest else x.greatest }
def HG.mix (x : HG) (b : List Int) (j : Nat) : HG := { x with by' := mixN x.by' b j, hl := by rw [mixN_len]; exact x.hl }
def HG.withSum (x : HG) (v : Int) : HG := { x with sum := v }
theorem HG.mix_by (x : HG) (b : List Int) (j : Nat) : (x.mix b j).by' = mixN x.by' b j := rfl
theorem HG.mix_sum (x : HG) (b : List Int) (j : Nat) : (x.mix b j).sum = x.sum := rfl
theorem HG.mix_least (x : HG) (b : List Int) (j : Nat) : (x.mix b j).least = x.least := rfl
theorem HG.mix_greatest (x : HG) (b : List Int) (j : Nat) : (x.mix b j).greatest = x.greatest := rfl
theorem HG.ws_by (x : HG) (v : Int) : (x.withSum v).by' = x.by' := rfl
theorem HG.ws_sum (x : HG) (v : Int) : (x.withSum v).sum = v := rfl
theorem HG.ws_least (x : HG) (v : Int) : (x.withSum v).least = x.least := rfl
theorem HG.ws_greatest (x : HG) (v : Int) : (x.withSum v).greatest = x.greatest := rfl
theorem HG.mwide_by (x o : HG) : (x.mwide o).by' = x.by' := rfl
/-- Both together. -/
def HG.mrg (x o : HG) : HG := if o.by'.sum = 0 then x else (((x.mfirst o).mwide o).mix o.by' 65).withSum (IntKind.u64.wrap (x.sum + o.sum))
theorem HG.mfirst_by (x o : HG) : (x.mfirst o).by' = x.by' := by unfold HG.mfirst; split <;> rfl
theorem HG.mfirst_sum (x o : HG) : (x.mfirst o).sum = x.sum := by unfold HG.mfirst; split <;> rfl
theorem HG.Is.mrg {x o : HG} {l m : List Nat} (hx : x.Is l) (ho : o.Is m) : (x.mrg o).Is (l ++ m) := by
  unfold HG.mrg
  by_cases c : o.by'.sum = 0
  · rw [if_pos c]
    rw [ho.tot] at c
    have : m = [] := List.eq_nil_of_length_eq_zero (by omega)
    subst this
    simpa using hx
  rw [if_neg c]
  have hm : m ≠ [] := by
    intro e; subst e
    exact c ho.tot
  have hby : ((((x.mfirst o).mwide o).mix o.by' 65).withSum (IntKind.u64.wrap (x.sum + o.sum))).by' = mixN x.by' o.by' 65 := by
    rw [HG.ws_by, HG.mix_by, HG.mwide_by, HG.mfirst_by]
  have key : ∀ i, ((mixN x.by' o.by' 65).take i).sum = cnt (l ++ m) i := by
    intro i
    rw [mixN_takes x.hl o.hl 65 (by omega) i, hx.takes, ho.takes]
    have : cnt m (min i 65) = cnt m i := by
      rcases Nat.le_total i 65 with h | h
      · rw [Nat.min_eq_left h]
      · have h1 := ho.takes i
        have h2 := ho.takes (min i 65)
        rw [List.take_of_length_le (by rw [o.hl]; omega)] at h1 h2
        omega
    rw [this]
    simp [cnt, List.countP_append]
  refine ⟨by rw [hby]; exact key, ?_, ?_, fun _ => ?_⟩
  · rw [hby]
    have h1 := key 65
    rw [List.take_of_length_le (by rw [mixN_len, x.hl]; omega)] at h1
    have h2 := hx.takes 65
    have h3 := ho.takes 65
    rw [List.take_of_length_le (by rw [x.hl]; omega), hx.tot] at h2
    rw [List.take_of_length_le (by rw [o.hl]; omega), ho.tot] at h3
    rw [h1]
    simp [cnt, List.countP_append] at h2 h3 ⊢
    omega
  · rw [hby]
    exact mixN_pos hx.pos ho.pos 65
  · rw [HG.ws_least, HG.ws_greatest, HG.mix_least, HG.mix_greatest]
    show (∀ n ∈ l ++ m, ((x.mfirst o).mwide o).least ≤ n ∧ (n : Int) ≤ ((x.mfirst o).mwide o).greatest) ∧ (∃ n ∈ l ++ m, (n : Int) = ((x.mfirst o).mwide o).least) ∧ ∃ n ∈ l ++ m, (n : Int) = ((x.mfirst o).mwide o).greatest
    obtain ⟨g1, ⟨a, ha, ea⟩, ⟨b, hb, eb⟩⟩ := ho.ends hm
    by_cases hl : l = []
    · subst hl
      have : x.by'.sum = 0 := hx.tot
      simp only [HG.mfirst, HG.mwide, this, if_true, List.nil_append]
      refine ⟨fun n hn => ?_, ⟨a, ha, ?_⟩, ⟨b, hb, ?_⟩⟩
      · have := g1 n hn
        constructor <;> split <;> omega
      · split <;> omega
      · split <;> omega
    · have hpos := List.length_pos_iff.2 hl
      have : ¬ x.by'.sum = 0 := by rw [hx.tot]; omega
      obtain ⟨f1, ⟨a2, ha2, ea2⟩, ⟨b2, hb2, eb2⟩⟩ := hx.ends hl
      simp only [HG.mfirst, HG.mwide, this, if_false]
      refine ⟨fun n hn => ?_, ?_, ?_⟩
      · rcases List.mem_append.1 hn with hn | hn
        · have := f1 n hn
          constructor <;> split <;> omega
        · have := g1 n hn
          constructor <;> split <;> omega
      · split
        · exact ⟨a, by simp [ha], ea⟩
        · exact ⟨a2, by simp [ha2], ea2⟩
      · split
        · exact ⟨b, by simp [hb], eb⟩
        · exact ⟨b2, by simp [hb2], eb2⟩
theorem wrapU_add (a b : Int) : IntKind.u64.wrap (IntKind.u64.wrap a + b) = IntKind.u64.wrap (a + b) := by
  simp [IntKind.wrap, IntKind.signed, IntKind.bits]
theorem wrapU_add2 (a b : Int) : IntKind.u64.wrap (a + IntKind.u64.wrap b) = IntKind.u64.wrap (a + b) := by
  simp [IntKind.wrap, IntKind.signed, IntKind.bits]
theorem wsum_app (l m : List Nat) : wsum (l ++ m) = IntKind.u64.wrap (wsum l + wsum m) := by
  have h0 : ∀ (m : List Nat) (a : Int), m.foldl (fun a n => IntKind.u64.wrap (a + (n : Nat))) (IntKind.u64.wrap a) = IntKind.u64.wrap (a + wsum m) := by
    intro m
    induction m with
    | nil => intro a; simp [wsum]
    | cons n m ih =>
      intro a
      have e1 : wsum (n :: m) = IntKind.u64.wrap (n + wsum m) := by
        have := ih (0 + n)
        simp only [wsum, List.foldl_cons] at this ⊢
        rw [this]; simp
      rw [List.foldl_cons, wrapU_add, ih, e1, wrapU_add2, Int.add_assoc]
  have h1 : wsum l = IntKind.u64.wrap (wsum l) := by
    have := h0 l 0
    simp [wrapU_add2] at this
    exact this
  have h2 := h0 m (wsum l)
  rw [← h1] at h2
  rw [← h2]
  unfold wsum
  rw [List.foldl_append]
end Go.Proofs.Ytnmbpehficchkaa.Ideal
