/-
  No cell of these rows narrows 'for every input' (looked for: loops, veiled, ifaces, maps, wideKeys, modest, calm, conditions, laid).
  DERIVED. THE GIVEN ROWS OF THIS SEAT. 5 by the template 'for every input the law returns true; each argument reads behind the call as it read before'; 0 by the template 'total and deterministic' (their statements: YtnmbpehficchkaaTotals.lean).
  GIVEN WITH THE SEED: the statements are not yours to turn. If you find one false, say at which input.
  Laid BY PROGRAM, IN A SANDBOX (cutbox-rows.mjs): the forced cells as the released guide's own fill.sh prints them over the translation 96086568c5616e74… (all of the seat's roots in one cut). By AI agents, Wed Nov 11 2026. No macro, syntax, notation, axiom, sorry.
-/
import Derived.Test.YtnmbpehficchkaaChecked
import GoSem.Claim
import GoSem.ClaimJoined
import GoSem.ClaimMapViews
import Derived.JoinedTies
import Derived.KernelRfl
namespace Go.Proofs.Ytnmbpehficchkaa
/- THE CELL 'sum', in the pinned program and in every row, IS THE sha256 OF THE DUMP (.gsa) THAT YtnmbpehficchkaaProg.lean LOADS. Nothing in Lean hashes anything: it is a label: what it is worth is what the hold of that sum in a sandbox is worth. -/
noncomputable def Try.pinned : Pinned := { name := "ytnmbpehficchkaa", sum := "96086568c5616e748bd21aa172307ab209fa62a04463b34c94628f840d680d88", checked := Try.checked }
namespace Rows
def none {H : Type} : Left H := { results := [], args := [] }

/-- 'weighbridgelaw44.StatsQuantiles': WHATEVER THE INPUT: true; the input reads as it did. -/
def statsQuantilesSpec : ChangeSpec := { name := "statsQuantiles", fn := fun _ => fun
  | [d] => { results := [.lit (.bool true)], args := [d] }
  | _ => none }
def statsQuantilesRow : OpenClaim := { program := "ytnmbpehficchkaa", sum := "96086568c5616e748bd21aa172307ab209fa62a04463b34c94628f840d680d88", func := "weighbridge/weighbridgelaw44.StatsQuantiles", spec := "statsQuantiles", inPlace := ["math/bits.Add64", "internal/bytealg.Compare"], unfollowed := true, recurses := true, named := ["math/bits.divideError", "math/bits.overflowError"], apart := false }
def StatsQuantilesSaid : Prop := statsQuantilesRow.holds Try.pinned (OpenSpec.ofChange statsQuantilesSpec)

/-- ITS FALSE NEIGHBOUR: 'it returns false'. Refute it at one input. -/
def statsQuantilesWrong : ChangeSpec := { name := "statsQuantiles", fn := fun _ => fun
  | [d] => { results := [.lit (.bool false)], args := [d] }
  | _ => none }
def StatsQuantilesWrongFalsely : Prop := statsQuantilesRow.holds Try.pinned (OpenSpec.ofChange statsQuantilesWrong)

/-- 'weighbridgelaw44.StatsBounds': WHATEVER THE INPUT: true; the input reads as it did. -/
def statsBoundsSpec : ChangeSpec := { name := "statsBounds", fn := fun _ => fun
  | [d1, d2, d3] => { results := [.lit (.bool true)], args := [d1, d2, d3] }
  | _ => none }
def statsBoundsRow : OpenClaim := { program := "ytnmbpehficchkaa", sum := "96086568c5616e748bd21aa172307ab209fa62a04463b34c94628f840d680d88", func := "weighbridge/weighbridgelaw44.StatsBounds", spec := "statsBounds", inPlace := ["math/bits.Add64", "internal/bytealg.Compare"], unfollowed := true, recurses := true, named := ["math/bits.divideError", "math/bits.overflowError"], apart := false }
def StatsBoundsSaid : Prop := statsBoundsRow.holds Try.pinned (OpenSpec.ofChange statsBoundsSpec)

/-- ITS FALSE NEIGHBOUR: 'it returns false'. Refute it at one input. -/
def statsBoundsWrong : ChangeSpec := { name := "statsBounds", fn := fun _ => fun
  | [d1, d2, d3] => { results := [.lit (.bool false)], args := [d1, d2, d3] }
  | _ => none }
def StatsBoundsWrongFalsely : Prop := statsBoundsRow.holds Try.pinned (OpenSpec.ofChange statsBoundsWrong)

/-- 'weighbridgelaw44.StatsCounts': WHATEVER THE INPUT: true; the input reads as it did. -/
def statsCountsSpec : ChangeSpec := { name := "statsCounts", fn := fun _ => fun
  | [d1, d2, d3, d4] => { results := [.lit (.bool true)], args := [d1, d2, d3, d4] }
  | _ => none }
def statsCountsRow : OpenClaim := { program := "ytnmbpehficchkaa", sum := "96086568c5616e748bd21aa172307ab209fa62a04463b34c94628f840d680d88", func := "weighbridge/weighbridgelaw44.StatsCounts", spec := "statsCounts", inPlace := ["math/bits.Add64", "internal/bytealg.Compare"], unfollowed := true, recurses := true, named := ["math/bits.divideError", "math/bits.overflowError"], apart := false }
def StatsCountsSaid : Prop := statsCountsRow.holds Try.pinned (OpenSpec.ofChange statsCountsSpec)

/-- ITS FALSE NEIGHBOUR: 'it returns false'. Refute it at one input. -/
def statsCountsWrong : ChangeSpec := { name := "statsCounts", fn := fun _ => fun
  | [d1, d2, d3, d4] => { results := [.lit (.bool false)], args := [d1, d2, d3, d4] }
  | _ => none }
def StatsCountsWrongFalsely : Prop := statsCountsRow.holds Try.pinned (OpenSpec.ofChange statsCountsWrong)

/-- 'weighbridgelaw44.StatsTalks': WHATEVER THE INPUT: true; the input reads as it did. -/
def statsTalksSpec : ChangeSpec := { name := "statsTalks", fn := fun _ => fun
  | [d1, d2, d3] => { results := [.lit (.bool true)], args := [d1, d2, d3] }
  | _ => none }
def statsTalksRow : OpenClaim := { program := "ytnmbpehficchkaa", sum := "96086568c5616e748bd21aa172307ab209fa62a04463b34c94628f840d680d88", func := "weighbridge/weighbridgelaw44.StatsTalks", spec := "statsTalks", inPlace := ["math/bits.Add64", "internal/bytealg.Compare"], unfollowed := true, recurses := true, named := ["math/bits.divideError", "math/bits.overflowError"], apart := false }
def StatsTalksSaid : Prop := statsTalksRow.holds Try.pinned (OpenSpec.ofChange statsTalksSpec)

/-- ITS FALSE NEIGHBOUR: 'it returns false'. Refute it at one input. -/
def statsTalksWrong : ChangeSpec := { name := "statsTalks", fn := fun _ => fun
  | [d1, d2, d3] => { results := [.lit (.bool false)], args := [d1, d2, d3] }
  | _ => none }
def StatsTalksWrongFalsely : Prop := statsTalksRow.holds Try.pinned (OpenSpec.ofChange statsTalksWrong)

/-- 'weighbridgelaw44.StatsNone': WHATEVER THE INPUT: true; the input reads as it did. -/
def statsNoneSpec : ChangeSpec := { name := "statsNone", fn := fun _ => fun
  | [d1, d2] => { results := [.lit (.bool true)], args := [d1, d2] }
  | _ => none }
def statsNoneRow : OpenClaim := { program := "ytnmbpehficchkaa", sum := "96086568c5616e748bd21aa172307ab209fa62a04463b34c94628f840d680d88", func := "weighbridge/weighbridgelaw44.StatsNone", spec := "statsNone", inPlace := ["math/bits.Add64", "internal/bytealg.Compare"], unfollowed := true, recurses := true, named := ["math/bits.divideError", "math/bits.overflowError"], apart := false }
def StatsNoneSaid : Prop := statsNoneRow.holds Try.pinned (OpenSpec.ofChange statsNoneSpec)

/-- ITS FALSE NEIGHBOUR: 'it returns false'. Refute it at one input. -/
def statsNoneWrong : ChangeSpec := { name := "statsNone", fn := fun _ => fun
  | [d1, d2] => { results := [.lit (.bool false)], args := [d1, d2] }
  | _ => none }
def StatsNoneWrongFalsely : Prop := statsNoneRow.holds Try.pinned (OpenSpec.ofChange statsNoneWrong)

/- THE SECOND FORM. 'bulk': how many values and letters a reading holds, each counted each time it is reached (what is shared counts as often as it is met; a slice's spare places count too). A statement '..UptoSaid' is the law's where the arguments, and the package variables that the reading takes, are together of bulk at most 1048576: NARROWER than '..Said'. Prove '..Said' where nothing that the law and all that it calls make is longer than what came in: it says more and counts as full. Else prove '..UptoSaid'. A law counts once. -/
mutual
def uptoBulk {H : Type} : DataW H → Nat
  | .lit (.string bytes) => bytes.length + 1
  | .lit _ => 1
  | .nil => 1
  | .ptr d => uptoBulk d + 1
  | .slice elems spare => uptoBulkAll elems + uptoBulkAll spare + 1
  | .agg parts => uptoBulkAll parts + 1
  | .iface _ d => uptoBulk d + 1
  | .map entries => uptoBulkEntries entries + 1
  | .held _ => 1
def uptoBulkAll {H : Type} : List (DataW H) → Nat
  | [] => 0
  | d :: r => uptoBulk d + uptoBulkAll r
def uptoBulkEntries {H : Type} : List (Lit × DataW H) → Nat
  | [] => 0
  | x :: r => uptoBulkEntry x + uptoBulkEntries r
def uptoBulkEntry {H : Type} : Lit × DataW H → Nat
  | (.string bytes, d) => bytes.length + uptoBulk d + 1
  | (_, d) => uptoBulk d + 1
 end
def uptoSmall : (H : Type) → List (DataW H) → Bool := fun _ ds => decide (uptoBulkAll ds ≤ 1048576)
def OpenSpec.upto (s : _root_.Go.ChangeSpec) : _root_.Go.OpenSpec := { _root_.Go.OpenSpec.ofChange s with cond := some uptoSmall }

/-- 'weighbridgelaw44.StatsQuantiles', WHERE WHAT IT READS IS OF BULK AT MOST 1048576: true; the input reads as it did. -/
def statsQuantilesUptoRow : OpenClaim := { program := "ytnmbpehficchkaa", sum := "96086568c5616e748bd21aa172307ab209fa62a04463b34c94628f840d680d88", func := "weighbridge/weighbridgelaw44.StatsQuantiles", spec := "statsQuantiles", inPlace := ["math/bits.Add64", "internal/bytealg.Compare"], unfollowed := true, recurses := true, named := ["math/bits.divideError", "math/bits.overflowError"], apart := false, narrowed := true }
def StatsQuantilesUptoSaid : Prop := statsQuantilesUptoRow.holds Try.pinned (OpenSpec.upto statsQuantilesSpec)

/-- 'weighbridgelaw44.StatsBounds', WHERE WHAT IT READS IS OF BULK AT MOST 1048576: true; the input reads as it did. -/
def statsBoundsUptoRow : OpenClaim := { program := "ytnmbpehficchkaa", sum := "96086568c5616e748bd21aa172307ab209fa62a04463b34c94628f840d680d88", func := "weighbridge/weighbridgelaw44.StatsBounds", spec := "statsBounds", inPlace := ["math/bits.Add64", "internal/bytealg.Compare"], unfollowed := true, recurses := true, named := ["math/bits.divideError", "math/bits.overflowError"], apart := false, narrowed := true }
def StatsBoundsUptoSaid : Prop := statsBoundsUptoRow.holds Try.pinned (OpenSpec.upto statsBoundsSpec)

/-- 'weighbridgelaw44.StatsCounts', WHERE WHAT IT READS IS OF BULK AT MOST 1048576: true; the input reads as it did. -/
def statsCountsUptoRow : OpenClaim := { program := "ytnmbpehficchkaa", sum := "96086568c5616e748bd21aa172307ab209fa62a04463b34c94628f840d680d88", func := "weighbridge/weighbridgelaw44.StatsCounts", spec := "statsCounts", inPlace := ["math/bits.Add64", "internal/bytealg.Compare"], unfollowed := true, recurses := true, named := ["math/bits.divideError", "math/bits.overflowError"], apart := false, narrowed := true }
def StatsCountsUptoSaid : Prop := statsCountsUptoRow.holds Try.pinned (OpenSpec.upto statsCountsSpec)

/-- 'weighbridgelaw44.StatsTalks', WHERE WHAT IT READS IS OF BULK AT MOST 1048576: true; the input reads as it did. -/
def statsTalksUptoRow : OpenClaim := { program := "ytnmbpehficchkaa", sum := "96086568c5616e748bd21aa172307ab209fa62a04463b34c94628f840d680d88", func := "weighbridge/weighbridgelaw44.StatsTalks", spec := "statsTalks", inPlace := ["math/bits.Add64", "internal/bytealg.Compare"], unfollowed := true, recurses := true, named := ["math/bits.divideError", "math/bits.overflowError"], apart := false, narrowed := true }
def StatsTalksUptoSaid : Prop := statsTalksUptoRow.holds Try.pinned (OpenSpec.upto statsTalksSpec)

/-- 'weighbridgelaw44.StatsNone', WHERE WHAT IT READS IS OF BULK AT MOST 1048576: true; the input reads as it did. -/
def statsNoneUptoRow : OpenClaim := { program := "ytnmbpehficchkaa", sum := "96086568c5616e748bd21aa172307ab209fa62a04463b34c94628f840d680d88", func := "weighbridge/weighbridgelaw44.StatsNone", spec := "statsNone", inPlace := ["math/bits.Add64", "internal/bytealg.Compare"], unfollowed := true, recurses := true, named := ["math/bits.divideError", "math/bits.overflowError"], apart := false, narrowed := true }
def StatsNoneUptoSaid : Prop := statsNoneUptoRow.holds Try.pinned (OpenSpec.upto statsNoneSpec)

end Rows
end Go.Proofs.Ytnmbpehficchkaa
