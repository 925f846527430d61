/-
  No cell of these rows narrows 'for every input' (looked for: loops, veiled, ifaces, maps, wideKeys, modest, calm, conditions, laid).
  DERIVED. THE GIVEN ROWS OF THIS SEAT. 3 by the template 'for every input the law returns true; each argument reads behind the call as it read before'; 0 by the template 'total and deterministic' (their statements: YthfakodgnendcaaTotals.lean).
  GIVEN WITH THE SEED: the statements are not yours to turn. If you find one false, say at which input.
  Laid BY PROGRAM, IN A SANDBOX (cutbox-rows.mjs): the forced cells as the released guide's own fill.sh prints them over the translation 22c02b001cfb3850… (all of the seat's roots in one cut). By AI agents, Wed Nov 11 2026. No macro, syntax, notation, axiom, sorry.
-/
import Derived.Test.YthfakodgnendcaaChecked
import GoSem.Claim
import GoSem.ClaimJoined
import GoSem.ClaimMapViews
import Derived.JoinedTies
import Derived.KernelRfl
namespace Go.Proofs.Ythfakodgnendcaa
/- THE CELL 'sum', in the pinned program and in every row, IS THE sha256 OF THE DUMP (.gsa) THAT YthfakodgnendcaaProg.lean LOADS. Nothing in Lean hashes anything: it is a label: what it is worth is what the hold of that sum in a sandbox is worth. -/
noncomputable def Try.pinned : Pinned := { name := "ythfakodgnendcaa", sum := "22c02b001cfb38500a97a14440f9af05777680e953fe9d729eb9fff803dacc9f", checked := Try.checked }
namespace Rows
def none {H : Type} : Left H := { results := [], args := [] }

/-- 'weighbridgelaw20.BuildBound': WHATEVER THE INPUT: true; the input reads as it did. -/
def buildBoundSpec : ChangeSpec := { name := "buildBound", fn := fun _ => fun
  | [d1, d2, d3, d4] => { results := [.lit (.bool true)], args := [d1, d2, d3, d4] }
  | _ => none }
def buildBoundRow : OpenClaim := { program := "ythfakodgnendcaa", sum := "22c02b001cfb38500a97a14440f9af05777680e953fe9d729eb9fff803dacc9f", func := "weighbridge/weighbridgelaw20.BuildBound", spec := "buildBound", inPlace := ["internal/bytealg.abigen_runtime_cmpstring"], unfollowed := true, recurses := true, apart := false }
def BuildBoundSaid : Prop := buildBoundRow.holds Try.pinned (OpenSpec.ofChange buildBoundSpec)

/-- ITS FALSE NEIGHBOUR: 'it returns false'. Refute it at one input. -/
def buildBoundWrong : ChangeSpec := { name := "buildBound", fn := fun _ => fun
  | [d1, d2, d3, d4] => { results := [.lit (.bool false)], args := [d1, d2, d3, d4] }
  | _ => none }
def BuildBoundWrongFalsely : Prop := buildBoundRow.holds Try.pinned (OpenSpec.ofChange buildBoundWrong)

/-- 'weighbridgelaw20.BuildNone': WHATEVER THE INPUT: true; the input reads as it did. -/
def buildNoneSpec : ChangeSpec := { name := "buildNone", fn := fun _ => fun
  | [d1, d2] => { results := [.lit (.bool true)], args := [d1, d2] }
  | _ => none }
def buildNoneRow : OpenClaim := { program := "ythfakodgnendcaa", sum := "22c02b001cfb38500a97a14440f9af05777680e953fe9d729eb9fff803dacc9f", func := "weighbridge/weighbridgelaw20.BuildNone", spec := "buildNone", inPlace := ["internal/bytealg.abigen_runtime_cmpstring"], unfollowed := true, recurses := true, apart := false }
def BuildNoneSaid : Prop := buildNoneRow.holds Try.pinned (OpenSpec.ofChange buildNoneSpec)

/-- ITS FALSE NEIGHBOUR: 'it returns false'. Refute it at one input. -/
def buildNoneWrong : ChangeSpec := { name := "buildNone", fn := fun _ => fun
  | [d1, d2] => { results := [.lit (.bool false)], args := [d1, d2] }
  | _ => none }
def BuildNoneWrongFalsely : Prop := buildNoneRow.holds Try.pinned (OpenSpec.ofChange buildNoneWrong)

/-- 'weighbridgelaw20.BuildPlays': WHATEVER THE INPUT: true; the input reads as it did. -/
def buildPlaysSpec : ChangeSpec := { name := "buildPlays", fn := fun _ => fun
  | [d1, d2] => { results := [.lit (.bool true)], args := [d1, d2] }
  | _ => none }
def buildPlaysRow : OpenClaim := { program := "ythfakodgnendcaa", sum := "22c02b001cfb38500a97a14440f9af05777680e953fe9d729eb9fff803dacc9f", func := "weighbridge/weighbridgelaw20.BuildPlays", spec := "buildPlays", inPlace := ["internal/bytealg.abigen_runtime_cmpstring"], unfollowed := true, recurses := true, apart := false }
def BuildPlaysSaid : Prop := buildPlaysRow.holds Try.pinned (OpenSpec.ofChange buildPlaysSpec)

/-- ITS FALSE NEIGHBOUR: 'it returns false'. Refute it at one input. -/
def buildPlaysWrong : ChangeSpec := { name := "buildPlays", fn := fun _ => fun
  | [d1, d2] => { results := [.lit (.bool false)], args := [d1, d2] }
  | _ => none }
def BuildPlaysWrongFalsely : Prop := buildPlaysRow.holds Try.pinned (OpenSpec.ofChange buildPlaysWrong)

/- THE SECOND FORM. 'bulk': how many values and letters a reading holds, each counted each time it is reached (what is shared counts as often as it is met; a slice's spare places count too). A statement '..UptoSaid' is the law's where the arguments, and the package variables that the reading takes, are together of bulk at most 1048576: NARROWER than '..Said'. Prove '..Said' where nothing that the law and all that it calls make is longer than what came in: it says more and counts as full. Else prove '..UptoSaid'. A law counts once. -/
mutual
def uptoBulk {H : Type} : DataW H → Nat
  | .lit (.string bytes) => bytes.length + 1
  | .lit _ => 1
  | .nil => 1
  | .ptr d => uptoBulk d + 1
  | .slice elems spare => uptoBulkAll elems + uptoBulkAll spare + 1
  | .agg parts => uptoBulkAll parts + 1
  | .iface _ d => uptoBulk d + 1
  | .map entries => uptoBulkEntries entries + 1
  | .held _ => 1
def uptoBulkAll {H : Type} : List (DataW H) → Nat
  | [] => 0
  | d :: r => uptoBulk d + uptoBulkAll r
def uptoBulkEntries {H : Type} : List (Lit × DataW H) → Nat
  | [] => 0
  | x :: r => uptoBulkEntry x + uptoBulkEntries r
def uptoBulkEntry {H : Type} : Lit × DataW H → Nat
  | (.string bytes, d) => bytes.length + uptoBulk d + 1
  | (_, d) => uptoBulk d + 1
 end
def uptoSmall : (H : Type) → List (DataW H) → Bool := fun _ ds => decide (uptoBulkAll ds ≤ 1048576)
def OpenSpec.upto (s : _root_.Go.ChangeSpec) : _root_.Go.OpenSpec := { _root_.Go.OpenSpec.ofChange s with cond := some uptoSmall }

/-- 'weighbridgelaw20.BuildBound', WHERE WHAT IT READS IS OF BULK AT MOST 1048576: true; the input reads as it did. -/
def buildBoundUptoRow : OpenClaim := { program := "ythfakodgnendcaa", sum := "22c02b001cfb38500a97a14440f9af05777680e953fe9d729eb9fff803dacc9f", func := "weighbridge/weighbridgelaw20.BuildBound", spec := "buildBound", inPlace := ["internal/bytealg.abigen_runtime_cmpstring"], unfollowed := true, recurses := true, apart := false, narrowed := true }
def BuildBoundUptoSaid : Prop := buildBoundUptoRow.holds Try.pinned (OpenSpec.upto buildBoundSpec)

/-- 'weighbridgelaw20.BuildNone', WHERE WHAT IT READS IS OF BULK AT MOST 1048576: true; the input reads as it did. -/
def buildNoneUptoRow : OpenClaim := { program := "ythfakodgnendcaa", sum := "22c02b001cfb38500a97a14440f9af05777680e953fe9d729eb9fff803dacc9f", func := "weighbridge/weighbridgelaw20.BuildNone", spec := "buildNone", inPlace := ["internal/bytealg.abigen_runtime_cmpstring"], unfollowed := true, recurses := true, apart := false, narrowed := true }
def BuildNoneUptoSaid : Prop := buildNoneUptoRow.holds Try.pinned (OpenSpec.upto buildNoneSpec)

/-- 'weighbridgelaw20.BuildPlays', WHERE WHAT IT READS IS OF BULK AT MOST 1048576: true; the input reads as it did. -/
def buildPlaysUptoRow : OpenClaim := { program := "ythfakodgnendcaa", sum := "22c02b001cfb38500a97a14440f9af05777680e953fe9d729eb9fff803dacc9f", func := "weighbridge/weighbridgelaw20.BuildPlays", spec := "buildPlays", inPlace := ["internal/bytealg.abigen_runtime_cmpstring"], unfollowed := true, recurses := true, apart := false, narrowed := true }
def BuildPlaysUptoSaid : Prop := buildPlaysUptoRow.holds Try.pinned (OpenSpec.upto buildPlaysSpec)

end Rows
end Go.Proofs.Ythfakodgnendcaa
