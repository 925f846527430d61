/-
  No cell of these rows narrows 'for every input' (looked for: loops, veiled, ifaces, maps, wideKeys, modest, calm, conditions, laid).
  DERIVED. THE GIVEN ROWS OF THIS SEAT. 3 by the template 'for every input the law returns true; each argument reads behind the call as it read before'; 0 by the template 'total and deterministic' (their statements: YtmobpbhbllhdcaaTotals.lean).
  GIVEN WITH THE SEED: the statements are not yours to turn. If you find one false, say at which input.
  Laid BY PROGRAM, IN A SANDBOX (cutbox-rows.mjs): the forced cells as the released guide's own fill.sh prints them over the translation 284e91a642d8cfc2… (all of the seat's roots in one cut). By AI agents, Wed Nov 11 2026. No macro, syntax, notation, axiom, sorry.
-/
import Derived.Test.YtmobpbhbllhdcaaChecked
import GoSem.Claim
import GoSem.ClaimJoined
import GoSem.ClaimMapViews
import Derived.JoinedTies
import Derived.KernelRfl
namespace Go.Proofs.Ytmobpbhbllhdcaa
/- THE CELL 'sum', in the pinned program and in every row, IS THE sha256 OF THE DUMP (.gsa) THAT YtmobpbhbllhdcaaProg.lean LOADS. Nothing in Lean hashes anything: it is a label: what it is worth is what the hold of that sum in a sandbox is worth. -/
noncomputable def Try.pinned : Pinned := { name := "ytmobpbhbllhdcaa", sum := "284e91a642d8cfc2d295b09833944d0e46653166f9736eb4698b9bef0c19ec47", checked := Try.checked }
namespace Rows
def none {H : Type} : Left H := { results := [], args := [] }

/-- 'weighbridgelaw14.ResizeKeeps': WHATEVER THE INPUT: true; the input reads as it did. -/
def resizeKeepsSpec : ChangeSpec := { name := "resizeKeeps", fn := fun _ => fun
  | [d1, d2] => { results := [.lit (.bool true)], args := [d1, d2] }
  | _ => none }
def resizeKeepsRow : OpenClaim := { program := "ytmobpbhbllhdcaa", sum := "284e91a642d8cfc2d295b09833944d0e46653166f9736eb4698b9bef0c19ec47", func := "weighbridge/weighbridgelaw14.ResizeKeeps", spec := "resizeKeeps", unfollowed := true, recurses := true, apart := false }
def ResizeKeepsSaid : Prop := resizeKeepsRow.holds Try.pinned (OpenSpec.ofChange resizeKeepsSpec)

/-- ITS FALSE NEIGHBOUR: 'it returns false'. Refute it at one input. -/
def resizeKeepsWrong : ChangeSpec := { name := "resizeKeeps", fn := fun _ => fun
  | [d1, d2] => { results := [.lit (.bool false)], args := [d1, d2] }
  | _ => none }
def ResizeKeepsWrongFalsely : Prop := resizeKeepsRow.holds Try.pinned (OpenSpec.ofChange resizeKeepsWrong)

/-- 'weighbridgelaw14.ResizePlays': WHATEVER THE INPUT: true; the input reads as it did. -/
def resizePlaysSpec : ChangeSpec := { name := "resizePlays", fn := fun _ => fun
  | [d1, d2] => { results := [.lit (.bool true)], args := [d1, d2] }
  | _ => none }
def resizePlaysRow : OpenClaim := { program := "ytmobpbhbllhdcaa", sum := "284e91a642d8cfc2d295b09833944d0e46653166f9736eb4698b9bef0c19ec47", func := "weighbridge/weighbridgelaw14.ResizePlays", spec := "resizePlays", unfollowed := true, recurses := true, apart := false }
def ResizePlaysSaid : Prop := resizePlaysRow.holds Try.pinned (OpenSpec.ofChange resizePlaysSpec)

/-- ITS FALSE NEIGHBOUR: 'it returns false'. Refute it at one input. -/
def resizePlaysWrong : ChangeSpec := { name := "resizePlays", fn := fun _ => fun
  | [d1, d2] => { results := [.lit (.bool false)], args := [d1, d2] }
  | _ => none }
def ResizePlaysWrongFalsely : Prop := resizePlaysRow.holds Try.pinned (OpenSpec.ofChange resizePlaysWrong)

/-- 'weighbridgelaw14.ResizeNone': WHATEVER THE INPUT: true; the input reads as it did. -/
def resizeNoneSpec : ChangeSpec := { name := "resizeNone", fn := fun _ => fun
  | [d] => { results := [.lit (.bool true)], args := [d] }
  | _ => none }
def resizeNoneRow : OpenClaim := { program := "ytmobpbhbllhdcaa", sum := "284e91a642d8cfc2d295b09833944d0e46653166f9736eb4698b9bef0c19ec47", func := "weighbridge/weighbridgelaw14.ResizeNone", spec := "resizeNone", unfollowed := true, recurses := true, apart := false }
def ResizeNoneSaid : Prop := resizeNoneRow.holds Try.pinned (OpenSpec.ofChange resizeNoneSpec)

/-- ITS FALSE NEIGHBOUR: 'it returns false'. Refute it at one input. -/
def resizeNoneWrong : ChangeSpec := { name := "resizeNone", fn := fun _ => fun
  | [d] => { results := [.lit (.bool false)], args := [d] }
  | _ => none }
def ResizeNoneWrongFalsely : Prop := resizeNoneRow.holds Try.pinned (OpenSpec.ofChange resizeNoneWrong)

/- THE SECOND FORM. 'bulk': how many values and letters a reading holds, each counted each time it is reached (what is shared counts as often as it is met; a slice's spare places count too). A statement '..UptoSaid' is the law's where the arguments, and the package variables that the reading takes, are together of bulk at most 1048576: NARROWER than '..Said'. Prove '..Said' where nothing that the law and all that it calls make is longer than what came in: it says more and counts as full. Else prove '..UptoSaid'. A law counts once. -/
mutual
def uptoBulk {H : Type} : DataW H → Nat
  | .lit (.string bytes) => bytes.length + 1
  | .lit _ => 1
  | .nil => 1
  | .ptr d => uptoBulk d + 1
  | .slice elems spare => uptoBulkAll elems + uptoBulkAll spare + 1
  | .agg parts => uptoBulkAll parts + 1
  | .iface _ d => uptoBulk d + 1
  | .map entries => uptoBulkEntries entries + 1
  | .held _ => 1
def uptoBulkAll {H : Type} : List (DataW H) → Nat
  | [] => 0
  | d :: r => uptoBulk d + uptoBulkAll r
def uptoBulkEntries {H : Type} : List (Lit × DataW H) → Nat
  | [] => 0
  | x :: r => uptoBulkEntry x + uptoBulkEntries r
def uptoBulkEntry {H : Type} : Lit × DataW H → Nat
  | (.string bytes, d) => bytes.length + uptoBulk d + 1
  | (_, d) => uptoBulk d + 1
 end
def uptoSmall : (H : Type) → List (DataW H) → Bool := fun _ ds => decide (uptoBulkAll ds ≤ 1048576)
def OpenSpec.upto (s : _root_.Go.ChangeSpec) : _root_.Go.OpenSpec := { _root_.Go.OpenSpec.ofChange s with cond := some uptoSmall }

/-- 'weighbridgelaw14.ResizeKeeps', WHERE WHAT IT READS IS OF BULK AT MOST 1048576: true; the input reads as it did. -/
def resizeKeepsUptoRow : OpenClaim := { program := "ytmobpbhbllhdcaa", sum := "284e91a642d8cfc2d295b09833944d0e46653166f9736eb4698b9bef0c19ec47", func := "weighbridge/weighbridgelaw14.ResizeKeeps", spec := "resizeKeeps", unfollowed := true, recurses := true, apart := false, narrowed := true }
def ResizeKeepsUptoSaid : Prop := resizeKeepsUptoRow.holds Try.pinned (OpenSpec.upto resizeKeepsSpec)

/-- 'weighbridgelaw14.ResizePlays', WHERE WHAT IT READS IS OF BULK AT MOST 1048576: true; the input reads as it did. -/
def resizePlaysUptoRow : OpenClaim := { program := "ytmobpbhbllhdcaa", sum := "284e91a642d8cfc2d295b09833944d0e46653166f9736eb4698b9bef0c19ec47", func := "weighbridge/weighbridgelaw14.ResizePlays", spec := "resizePlays", unfollowed := true, recurses := true, apart := false, narrowed := true }
def ResizePlaysUptoSaid : Prop := resizePlaysUptoRow.holds Try.pinned (OpenSpec.upto resizePlaysSpec)

/-- 'weighbridgelaw14.ResizeNone', WHERE WHAT IT READS IS OF BULK AT MOST 1048576: true; the input reads as it did. -/
def resizeNoneUptoRow : OpenClaim := { program := "ytmobpbhbllhdcaa", sum := "284e91a642d8cfc2d295b09833944d0e46653166f9736eb4698b9bef0c19ec47", func := "weighbridge/weighbridgelaw14.ResizeNone", spec := "resizeNone", unfollowed := true, recurses := true, apart := false, narrowed := true }
def ResizeNoneUptoSaid : Prop := resizeNoneUptoRow.holds Try.pinned (OpenSpec.upto resizeNoneSpec)

end Rows
end Go.Proofs.Ytmobpbhbllhdcaa
