/-
  No cell of these rows narrows 'for every input' (looked for: loops, veiled, ifaces, maps, wideKeys, modest, calm, conditions, laid).
  DERIVED. THE GIVEN ROWS OF THIS SEAT. 4 by the template 'for every input the law returns true; each argument reads behind the call as it read before'; 0 by the template 'total and deterministic' (their statements: YtkpbdhfaobmbpaaTotals.lean).
  GIVEN WITH THE SEED: the statements are not yours to turn. If you find one false, say at which input.
  Laid BY PROGRAM, IN A SANDBOX (cutbox-rows.mjs): the forced cells as the released guide's own fill.sh prints them over the translation 60d31654928fa342… (all of the seat's roots in one cut). By AI agents, Wed Nov 11 2026. No macro, syntax, notation, axiom, sorry.
-/
import Derived.Test.YtkpbdhfaobmbpaaChecked
import GoSem.Claim
import GoSem.ClaimJoined
import GoSem.ClaimMapViews
import Derived.JoinedTies
import Derived.KernelRfl
namespace Go.Proofs.Ytkpbdhfaobmbpaa
/- THE CELL 'sum', in the pinned program and in every row, IS THE sha256 OF THE DUMP (.gsa) THAT YtkpbdhfaobmbpaaProg.lean LOADS. Nothing in Lean hashes anything: it is a label: what it is worth is what the hold of that sum in a sandbox is worth. -/
noncomputable def Try.pinned : Pinned := { name := "ytkpbdhfaobmbpaa", sum := "60d31654928fa3423354263910edf665d7403dbf5113a89ba8f74233c68eb53c", checked := Try.checked }
namespace Rows
def none {H : Type} : Left H := { results := [], args := [] }

/-- 'weighbridgelaw43.CaptureBack': WHATEVER THE INPUT: true; the input reads as it did. -/
def captureBackSpec : ChangeSpec := { name := "captureBack", fn := fun _ => fun
  | [d1, d2, d3, d4] => { results := [.lit (.bool true)], args := [d1, d2, d3, d4] }
  | _ => none }
def captureBackRow : OpenClaim := { program := "ytkpbdhfaobmbpaa", sum := "60d31654928fa3423354263910edf665d7403dbf5113a89ba8f74233c68eb53c", func := "weighbridge/weighbridgelaw43.CaptureBack", spec := "captureBack", unfollowed := true, recurses := true, apart := false }
def CaptureBackSaid : Prop := captureBackRow.holds Try.pinned (OpenSpec.ofChange captureBackSpec)

/-- ITS FALSE NEIGHBOUR: 'it returns false'. Refute it at one input. -/
def captureBackWrong : ChangeSpec := { name := "captureBack", fn := fun _ => fun
  | [d1, d2, d3, d4] => { results := [.lit (.bool false)], args := [d1, d2, d3, d4] }
  | _ => none }
def CaptureBackWrongFalsely : Prop := captureBackRow.holds Try.pinned (OpenSpec.ofChange captureBackWrong)

/-- 'weighbridgelaw43.CaptureNone': WHATEVER THE INPUT: true; the input reads as it did. -/
def captureNoneSpec : ChangeSpec := { name := "captureNone", fn := fun _ => fun
  | [d] => { results := [.lit (.bool true)], args := [d] }
  | _ => none }
def captureNoneRow : OpenClaim := { program := "ytkpbdhfaobmbpaa", sum := "60d31654928fa3423354263910edf665d7403dbf5113a89ba8f74233c68eb53c", func := "weighbridge/weighbridgelaw43.CaptureNone", spec := "captureNone", unfollowed := true, recurses := true, apart := false }
def CaptureNoneSaid : Prop := captureNoneRow.holds Try.pinned (OpenSpec.ofChange captureNoneSpec)

/-- ITS FALSE NEIGHBOUR: 'it returns false'. Refute it at one input. -/
def captureNoneWrong : ChangeSpec := { name := "captureNone", fn := fun _ => fun
  | [d] => { results := [.lit (.bool false)], args := [d] }
  | _ => none }
def CaptureNoneWrongFalsely : Prop := captureNoneRow.holds Try.pinned (OpenSpec.ofChange captureNoneWrong)

/-- 'weighbridgelaw43.CaptureWrites': WHATEVER THE INPUT: true; the input reads as it did. -/
def captureWritesSpec : ChangeSpec := { name := "captureWrites", fn := fun _ => fun
  | [d1, d2, d3, d4, d5, d6] => { results := [.lit (.bool true)], args := [d1, d2, d3, d4, d5, d6] }
  | _ => none }
def captureWritesRow : OpenClaim := { program := "ytkpbdhfaobmbpaa", sum := "60d31654928fa3423354263910edf665d7403dbf5113a89ba8f74233c68eb53c", func := "weighbridge/weighbridgelaw43.CaptureWrites", spec := "captureWrites", unfollowed := true, recurses := true, apart := false }
def CaptureWritesSaid : Prop := captureWritesRow.holds Try.pinned (OpenSpec.ofChange captureWritesSpec)

/-- ITS FALSE NEIGHBOUR: 'it returns false'. Refute it at one input. -/
def captureWritesWrong : ChangeSpec := { name := "captureWrites", fn := fun _ => fun
  | [d1, d2, d3, d4, d5, d6] => { results := [.lit (.bool false)], args := [d1, d2, d3, d4, d5, d6] }
  | _ => none }
def CaptureWritesWrongFalsely : Prop := captureWritesRow.holds Try.pinned (OpenSpec.ofChange captureWritesWrong)

/-- 'weighbridgelaw43.CaptureOrder': WHATEVER THE INPUT: true; the input reads as it did. -/
def captureOrderSpec : ChangeSpec := { name := "captureOrder", fn := fun _ => fun
  | [d1, d2, d3, d4] => { results := [.lit (.bool true)], args := [d1, d2, d3, d4] }
  | _ => none }
def captureOrderRow : OpenClaim := { program := "ytkpbdhfaobmbpaa", sum := "60d31654928fa3423354263910edf665d7403dbf5113a89ba8f74233c68eb53c", func := "weighbridge/weighbridgelaw43.CaptureOrder", spec := "captureOrder", unfollowed := true, recurses := true, apart := false }
def CaptureOrderSaid : Prop := captureOrderRow.holds Try.pinned (OpenSpec.ofChange captureOrderSpec)

/-- ITS FALSE NEIGHBOUR: 'it returns false'. Refute it at one input. -/
def captureOrderWrong : ChangeSpec := { name := "captureOrder", fn := fun _ => fun
  | [d1, d2, d3, d4] => { results := [.lit (.bool false)], args := [d1, d2, d3, d4] }
  | _ => none }
def CaptureOrderWrongFalsely : Prop := captureOrderRow.holds Try.pinned (OpenSpec.ofChange captureOrderWrong)

/- THE SECOND FORM. 'bulk': how many values and letters a reading holds, each counted each time it is reached (what is shared counts as often as it is met; a slice's spare places count too). A statement '..UptoSaid' is the law's where the arguments, and the package variables that the reading takes, are together of bulk at most 1048576: NARROWER than '..Said'. Prove '..Said' where nothing that the law and all that it calls make is longer than what came in: it says more and counts as full. Else prove '..UptoSaid'. A law counts once. -/
mutual
def uptoBulk {H : Type} : DataW H → Nat
  | .lit (.string bytes) => bytes.length + 1
  | .lit _ => 1
  | .nil => 1
  | .ptr d => uptoBulk d + 1
  | .slice elems spare => uptoBulkAll elems + uptoBulkAll spare + 1
  | .agg parts => uptoBulkAll parts + 1
  | .iface _ d => uptoBulk d + 1
  | .map entries => uptoBulkEntries entries + 1
  | .held _ => 1
def uptoBulkAll {H : Type} : List (DataW H) → Nat
  | [] => 0
  | d :: r => uptoBulk d + uptoBulkAll r
def uptoBulkEntries {H : Type} : List (Lit × DataW H) → Nat
  | [] => 0
  | x :: r => uptoBulkEntry x + uptoBulkEntries r
def uptoBulkEntry {H : Type} : Lit × DataW H → Nat
  | (.string bytes, d) => bytes.length + uptoBulk d + 1
  | (_, d) => uptoBulk d + 1
 end
def uptoSmall : (H : Type) → List (DataW H) → Bool := fun _ ds => decide (uptoBulkAll ds ≤ 1048576)
def OpenSpec.upto (s : _root_.Go.ChangeSpec) : _root_.Go.OpenSpec := { _root_.Go.OpenSpec.ofChange s with cond := some uptoSmall }

/-- 'weighbridgelaw43.CaptureBack', WHERE WHAT IT READS IS OF BULK AT MOST 1048576: true; the input reads as it did. -/
def captureBackUptoRow : OpenClaim := { program := "ytkpbdhfaobmbpaa", sum := "60d31654928fa3423354263910edf665d7403dbf5113a89ba8f74233c68eb53c", func := "weighbridge/weighbridgelaw43.CaptureBack", spec := "captureBack", unfollowed := true, recurses := true, apart := false, narrowed := true }
def CaptureBackUptoSaid : Prop := captureBackUptoRow.holds Try.pinned (OpenSpec.upto captureBackSpec)

/-- 'weighbridgelaw43.CaptureNone', WHERE WHAT IT READS IS OF BULK AT MOST 1048576: true; the input reads as it did. -/
def captureNoneUptoRow : OpenClaim := { program := "ytkpbdhfaobmbpaa", sum := "60d31654928fa3423354263910edf665d7403dbf5113a89ba8f74233c68eb53c", func := "weighbridge/weighbridgelaw43.CaptureNone", spec := "captureNone", unfollowed := true, recurses := true, apart := false, narrowed := true }
def CaptureNoneUptoSaid : Prop := captureNoneUptoRow.holds Try.pinned (OpenSpec.upto captureNoneSpec)

/-- 'weighbridgelaw43.CaptureWrites', WHERE WHAT IT READS IS OF BULK AT MOST 1048576: true; the input reads as it did. -/
def captureWritesUptoRow : OpenClaim := { program := "ytkpbdhfaobmbpaa", sum := "60d31654928fa3423354263910edf665d7403dbf5113a89ba8f74233c68eb53c", func := "weighbridge/weighbridgelaw43.CaptureWrites", spec := "captureWrites", unfollowed := true, recurses := true, apart := false, narrowed := true }
def CaptureWritesUptoSaid : Prop := captureWritesUptoRow.holds Try.pinned (OpenSpec.upto captureWritesSpec)

/-- 'weighbridgelaw43.CaptureOrder', WHERE WHAT IT READS IS OF BULK AT MOST 1048576: true; the input reads as it did. -/
def captureOrderUptoRow : OpenClaim := { program := "ytkpbdhfaobmbpaa", sum := "60d31654928fa3423354263910edf665d7403dbf5113a89ba8f74233c68eb53c", func := "weighbridge/weighbridgelaw43.CaptureOrder", spec := "captureOrder", unfollowed := true, recurses := true, apart := false, narrowed := true }
def CaptureOrderUptoSaid : Prop := captureOrderUptoRow.holds Try.pinned (OpenSpec.upto captureOrderSpec)

end Rows
end Go.Proofs.Ytkpbdhfaobmbpaa
