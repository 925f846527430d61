/-
  No cell of these rows narrows 'for every input' (looked for: loops, veiled, ifaces, maps, wideKeys, modest, calm, conditions, laid).
  DERIVED. THE GIVEN ROWS OF THIS SEAT. 3 by the template 'for every input the law returns true; each argument reads behind the call as it read before'; 0 by the template 'total and deterministic' (their statements: YteokdllmandleaaTotals.lean).
  GIVEN WITH THE SEED: the statements are not yours to turn. If you find one false, say at which input.
  Laid BY PROGRAM, IN A SANDBOX (cutbox-rows.mjs): the forced cells as the released guide's own fill.sh prints them over the translation 9c42be34effc34c2… (all of the seat's roots in one cut). By AI agents, Wed Nov 11 2026. No macro, syntax, notation, axiom, sorry.
-/
import Derived.Test.YteokdllmandleaaChecked
import GoSem.Claim
import GoSem.ClaimJoined
import GoSem.ClaimMapViews
import Derived.JoinedTies
import Derived.KernelRfl
namespace Go.Proofs.Yteokdllmandleaa
/- THE CELL 'sum', in the pinned program and in every row, IS THE sha256 OF THE DUMP (.gsa) THAT YteokdllmandleaaProg.lean LOADS. Nothing in Lean hashes anything: it is a label: what it is worth is what the hold of that sum in a sandbox is worth. -/
noncomputable def Try.pinned : Pinned := { name := "yteokdllmandleaa", sum := "9c42be34effc34c2af8d7ac22661d965098e18522ac17388edf6713318623684", checked := Try.checked }
namespace Rows
def none {H : Type} : Left H := { results := [], args := [] }

/-- 'weighbridgelaw34.ArpAnswers': WHATEVER THE INPUT: true; the input reads as it did. -/
def arpAnswersSpec : ChangeSpec := { name := "arpAnswers", fn := fun _ => fun
  | [d1, d2, d3] => { results := [.lit (.bool true)], args := [d1, d2, d3] }
  | _ => none }
def arpAnswersRow : OpenClaim := { program := "yteokdllmandleaa", sum := "9c42be34effc34c2af8d7ac22661d965098e18522ac17388edf6713318623684", func := "weighbridge/weighbridgelaw34.ArpAnswers", spec := "arpAnswers", unfollowed := true, recurses := true, apart := false }
def ArpAnswersSaid : Prop := arpAnswersRow.holds Try.pinned (OpenSpec.ofChange arpAnswersSpec)

/-- ITS FALSE NEIGHBOUR: 'it returns false'. Refute it at one input. -/
def arpAnswersWrong : ChangeSpec := { name := "arpAnswers", fn := fun _ => fun
  | [d1, d2, d3] => { results := [.lit (.bool false)], args := [d1, d2, d3] }
  | _ => none }
def ArpAnswersWrongFalsely : Prop := arpAnswersRow.holds Try.pinned (OpenSpec.ofChange arpAnswersWrong)

/-- 'weighbridgelaw34.ArpReads': WHATEVER THE INPUT: true; the input reads as it did. -/
def arpReadsSpec : ChangeSpec := { name := "arpReads", fn := fun _ => fun
  | [d1, d2] => { results := [.lit (.bool true)], args := [d1, d2] }
  | _ => none }
def arpReadsRow : OpenClaim := { program := "yteokdllmandleaa", sum := "9c42be34effc34c2af8d7ac22661d965098e18522ac17388edf6713318623684", func := "weighbridge/weighbridgelaw34.ArpReads", spec := "arpReads", unfollowed := true, recurses := true, apart := false }
def ArpReadsSaid : Prop := arpReadsRow.holds Try.pinned (OpenSpec.ofChange arpReadsSpec)

/-- ITS FALSE NEIGHBOUR: 'it returns false'. Refute it at one input. -/
def arpReadsWrong : ChangeSpec := { name := "arpReads", fn := fun _ => fun
  | [d1, d2] => { results := [.lit (.bool false)], args := [d1, d2] }
  | _ => none }
def ArpReadsWrongFalsely : Prop := arpReadsRow.holds Try.pinned (OpenSpec.ofChange arpReadsWrong)

/-- 'weighbridgelaw34.ArpBack': WHATEVER THE INPUT: true; the input reads as it did. -/
def arpBackSpec : ChangeSpec := { name := "arpBack", fn := fun _ => fun
  | [d1, d2, d3] => { results := [.lit (.bool true)], args := [d1, d2, d3] }
  | _ => none }
def arpBackRow : OpenClaim := { program := "yteokdllmandleaa", sum := "9c42be34effc34c2af8d7ac22661d965098e18522ac17388edf6713318623684", func := "weighbridge/weighbridgelaw34.ArpBack", spec := "arpBack", unfollowed := true, recurses := true, apart := false }
def ArpBackSaid : Prop := arpBackRow.holds Try.pinned (OpenSpec.ofChange arpBackSpec)

/-- ITS FALSE NEIGHBOUR: 'it returns false'. Refute it at one input. -/
def arpBackWrong : ChangeSpec := { name := "arpBack", fn := fun _ => fun
  | [d1, d2, d3] => { results := [.lit (.bool false)], args := [d1, d2, d3] }
  | _ => none }
def ArpBackWrongFalsely : Prop := arpBackRow.holds Try.pinned (OpenSpec.ofChange arpBackWrong)

/- THE SECOND FORM. 'bulk': how many values and letters a reading holds, each counted each time it is reached (what is shared counts as often as it is met; a slice's spare places count too). A statement '..UptoSaid' is the law's where the arguments, and the package variables that the reading takes, are together of bulk at most 1048576: NARROWER than '..Said'. Prove '..Said' where nothing that the law and all that it calls make is longer than what came in: it says more and counts as full. Else prove '..UptoSaid'. A law counts once. -/
mutual
def uptoBulk {H : Type} : DataW H → Nat
  | .lit (.string bytes) => bytes.length + 1
  | .lit _ => 1
  | .nil => 1
  | .ptr d => uptoBulk d + 1
  | .slice elems spare => uptoBulkAll elems + uptoBulkAll spare + 1
  | .agg parts => uptoBulkAll parts + 1
  | .iface _ d => uptoBulk d + 1
  | .map entries => uptoBulkEntries entries + 1
  | .held _ => 1
def uptoBulkAll {H : Type} : List (DataW H) → Nat
  | [] => 0
  | d :: r => uptoBulk d + uptoBulkAll r
def uptoBulkEntries {H : Type} : List (Lit × DataW H) → Nat
  | [] => 0
  | x :: r => uptoBulkEntry x + uptoBulkEntries r
def uptoBulkEntry {H : Type} : Lit × DataW H → Nat
  | (.string bytes, d) => bytes.length + uptoBulk d + 1
  | (_, d) => uptoBulk d + 1
 end
def uptoSmall : (H : Type) → List (DataW H) → Bool := fun _ ds => decide (uptoBulkAll ds ≤ 1048576)
def OpenSpec.upto (s : _root_.Go.ChangeSpec) : _root_.Go.OpenSpec := { _root_.Go.OpenSpec.ofChange s with cond := some uptoSmall }

/-- 'weighbridgelaw34.ArpAnswers', WHERE WHAT IT READS IS OF BULK AT MOST 1048576: true; the input reads as it did. -/
def arpAnswersUptoRow : OpenClaim := { program := "yteokdllmandleaa", sum := "9c42be34effc34c2af8d7ac22661d965098e18522ac17388edf6713318623684", func := "weighbridge/weighbridgelaw34.ArpAnswers", spec := "arpAnswers", unfollowed := true, recurses := true, apart := false, narrowed := true }
def ArpAnswersUptoSaid : Prop := arpAnswersUptoRow.holds Try.pinned (OpenSpec.upto arpAnswersSpec)

/-- 'weighbridgelaw34.ArpReads', WHERE WHAT IT READS IS OF BULK AT MOST 1048576: true; the input reads as it did. -/
def arpReadsUptoRow : OpenClaim := { program := "yteokdllmandleaa", sum := "9c42be34effc34c2af8d7ac22661d965098e18522ac17388edf6713318623684", func := "weighbridge/weighbridgelaw34.ArpReads", spec := "arpReads", unfollowed := true, recurses := true, apart := false, narrowed := true }
def ArpReadsUptoSaid : Prop := arpReadsUptoRow.holds Try.pinned (OpenSpec.upto arpReadsSpec)

/-- 'weighbridgelaw34.ArpBack', WHERE WHAT IT READS IS OF BULK AT MOST 1048576: true; the input reads as it did. -/
def arpBackUptoRow : OpenClaim := { program := "yteokdllmandleaa", sum := "9c42be34effc34c2af8d7ac22661d965098e18522ac17388edf6713318623684", func := "weighbridge/weighbridgelaw34.ArpBack", spec := "arpBack", unfollowed := true, recurses := true, apart := false, narrowed := true }
def ArpBackUptoSaid : Prop := arpBackUptoRow.holds Try.pinned (OpenSpec.upto arpBackSpec)

end Rows
end Go.Proofs.Yteokdllmandleaa
