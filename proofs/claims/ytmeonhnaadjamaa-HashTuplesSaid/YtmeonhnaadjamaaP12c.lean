import Derived.Test.YtmeonhnaadjamaaP12b
import Derived.Test.YtmeonhnaadjamaaHashLawB
noncomputable section
open Go.Proofs
namespace Go.Proofs.Ytmeonhnaadjamaa.Ideal
open Go.RowKit
set_option linter.unusedSimpArgs false
set_option linter.unusedVariables false
set_option linter.unusedSectionVars false
set_option linter.unnecessarySimpa false
set_option maxRecDepth 100000
set_option maxHeartbeats 2000000
attribute [-simp] IHeap.size_set IHeap.size_push
attribute [local simp ↓] Hid.ap_mk
attribute [local simp] scopeQ_normal scopeQ_ret scopeQ_exit WP_skip WP_label WP_exit WP_goto WP_ret WP_region WP_seq WP_cond WP_block WP_scope WP_loop WP_range thenQ_normal thenQ_ret thenQ_exit thenQ_goto loopQ_normal loopQ_ret loopQ_exit invQ_normal invQ_ret invQ_exit outOf_normal outOf_ret outOf_goto outOf_exit ev_tmp ev_const ev_func
  wops_nil wops_cons wantedE_none wantedE_some jgd_some wnx_eq niC_false wdo_move wdo_assign wdo_pick wdo_load wdo_store wdo_alloc wdo_box wdo_fieldAddr wdo_indexAddr wdo_field wdo_extract wdo_build wdo_buildSlice wdo_makeSlice wdo_binOp wdo_unOp wdo_makeFunc wdo_nilCheck wdo_callV wdo_len wdo_append wdo_copy wdo_delete wdo_max wdo_min wdo_convert jcvt_int
  xput_get put_n put_none put_dfr ibin finQ_n finQ_r finD_nil splice_one ires_nil ires_one ires_two ires_three ires1_tmp ires1_cell jcell_ptr rowLoad_row wrap64 wrapU64 wrapU8 wrapU16 wrapU32 callV_fn buildOf Instr.fill Value.cells Value.oneCell' kindOf slots_all splice_all IHeap.size_set' IHeap.size_push' IHeap.get_set_same IHeap.get_set_ne IHeap.get_pushed IHeap.get_push_ne IHeap.set_set IHeap.set_push IHeap.set_pushed IHeap.set_set3 getU_nil getU_same getU_ne jif_true jif_false pushH_eq setH_eq forceL_eq forceV_eq ibuildSlice
attribute [local simp] wdo_arrCut jopt_some u8_5 ni26
attribute [local simp high] wdo_str
def toB (l : List Int) : List UInt8 := l.map fun n => UInt8.ofNat n.toNat
theorem enc_toB {l : List Int} (hb : ∀ n ∈ l, 0 ≤ n ∧ n < 256) : Ytmeonhnaadjamaa.encB (toB l) = nums l := by
  simp only [Ytmeonhnaadjamaa.encB, toB, nums, List.map_map]
  refine List.map_congr_left fun n hn => ?_
  have := hb n hn
  simp only [Function.comp, UInt8.toNat_ofNat']
  congr 1
  omega
theorem toB_len (l : List Int) : (toB l).length = l.length := by simp [toB]
theorem hash_args {ρ : Rho} {h : IHeap} {w : World} {q : Nat} {l : List Int} {args' : Array Value} (hq : h.get q = some (.row false 1 (nums l))) (hl : l ≠ []) (ha : ARel ρ #[.int .u64 0, .slice (some ⟨q, 0, none⟩) l.length l.length] args') (hm : Models ρ h w) (hb : ∀ n ∈ l, 0 ≤ n ∧ n < 256) :
    ∃ A c, args' = #[.int .u64 ((0 : Nat) : Int), .slice A (toB l).length c] ∧ Ytmeonhnaadjamaa.Cells w A (Ytmeonhnaadjamaa.encB (toB l)) := by
  obtain ⟨a, ga, ra⟩ := ha.get (i := 0) (v := .int .u64 0) rfl
  obtain ⟨b, gb, rb⟩ := ha.get (i := 1) (v := .slice (some ⟨q, 0, none⟩) l.length l.length) rfl
  have hs : args'.size = 2 := ha.1.symm
  have e1 := ra.int_inv
  have hln : l.length ≠ 0 := fun h => hl (List.eq_nil_of_length_eq_zero h)
  rcases rb.slc_inv with ⟨R, c', hR, hc, e0⟩ | ⟨h0, _⟩
  · refine ⟨some ⟨R.block, R.off + 0, none⟩, c', ?_, ?_⟩
    · rw [toB_len, ← e0, show ((0 : Nat) : Int) = 0 from rfl, ← e1]
      rcases args' with ⟨l0⟩
      match l0, hs, ga, gb with
      | [x, y], _, ga, gb => simp at ga gb; rw [ga, gb]
    · intro _
      refine ⟨R.block, R.off + 0, rfl, fun i v hv => ?_⟩
      obtain ⟨ob, hob, ho⟩ := hm.obj q R _ hq hR
      obtain ⟨c, e, fr, rfl, _, _, _, _, hcs⟩ := ho.cells
      rw [enc_toB hb] at hv
      obtain ⟨v', g1, g2⟩ := hcs i v hv
      rw [cell_of hob]
      obtain ⟨m, hm1, rfl⟩ := List.mem_map.1 (List.mem_of_getElem? hv)
      rw [g2.int_inv] at g1
      simpa using g1
  · exact absurd h0 hln
def hsh (l : List Int) : Int := ((Ytmeonhnaadjamaa.Hash.seededN 0 (toB l) : Nat) : Int)
theorem seeded_c {h : IHeap} {q : Nat} {l : List Int} (hq : h.get q = some (.row false 1 (nums l))) (hl : l ≠ []) (hl2 : l.length < 1000) (hb : ∀ n ∈ l, 0 ≤ n ∧ n < 256) : ICall Try.prog 12 #[.int .u64 0, .slice (some ⟨q, 0, none⟩) l.length l.length] h (.int .u64 (hsh l)) h := by
  refine ICall.of_below rfl fun ρ w args' ha hm => ?_
  obtain ⟨A, c, rfl, hc⟩ := hash_args hq hl ha hm hb
  exact Ytmeonhnaadjamaa.Hash.seeded_calls A c 0 (toB l) w (by omega) hc (by rw [toB_len]; omega)
theorem rseeded_c {h : IHeap} {q : Nat} {l : List Int} (hq : h.get q = some (.row false 1 (nums l))) (hl : l ≠ []) (hl2 : l.length < 1000) (hb : ∀ n ∈ l, 0 ≤ n ∧ n < 256) : ICall Try.prog 13 #[.int .u64 0, .slice (some ⟨q, 0, none⟩) l.length l.length] h (.int .u64 (hsh l)) h := by
  refine ICall.of_below rfl fun ρ w args' ha hm => ?_
  obtain ⟨A, c, rfl, hc⟩ := hash_args hq hl ha hm hb
  exact (Ytmeonhnaadjamaa.Hash.rseeded_calls A c 0 (toB l) w (by omega) hc (by rw [toB_len]; omega)).mono fun e w' ⟨h1, h2⟩ => ⟨h1, by subst h2; exact Below.refl _ _⟩
theorem known_c {h : IHeap} : ICall Try.prog 8 #[] h (.bool true) h := by
  refine ICall.of_below rfl fun ρ w args' ha hm => ?_
  obtain rfl : args' = #[] := Array.eq_empty_of_size_eq_zero ha.1.symm
  exact Ytmeonhnaadjamaa.Hash.known_calls w
end Go.Proofs.Ytmeonhnaadjamaa.Ideal
