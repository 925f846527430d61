/-
  No cell of these rows narrows 'for every input' (looked for: loops, veiled, ifaces, maps, wideKeys, modest, calm, conditions, laid).
  DERIVED. THE GIVEN ROWS OF THIS SEAT. 3 by the template 'for every input the law returns true; each argument reads behind the call as it read before'; 0 by the template 'total and deterministic' (their statements: YthaegngkkannjaaTotals.lean).
  GIVEN WITH THE SEED: the statements are not yours to turn. If you find one false, say at which input.
  Laid BY PROGRAM, IN A SANDBOX (cutbox-rows.mjs): the forced cells as the released guide's own fill.sh prints them over the translation e6553d4abd29c446… (all of the seat's roots in one cut). By AI agents, Wed Nov 11 2026. No macro, syntax, notation, axiom, sorry.
-/
import Derived.Test.YthaegngkkannjaaChecked
import GoSem.Claim
import GoSem.ClaimJoined
import GoSem.ClaimMapViews
import Derived.JoinedTies
import Derived.KernelRfl
namespace Go.Proofs.Ythaegngkkannjaa
/- THE CELL 'sum', in the pinned program and in every row, IS THE sha256 OF THE DUMP (.gsa) THAT YthaegngkkannjaaProg.lean LOADS. Nothing in Lean hashes anything: it is a label: what it is worth is what the hold of that sum in a sandbox is worth. -/
noncomputable def Try.pinned : Pinned := { name := "ythaegngkkannjaa", sum := "e6553d4abd29c446a8de1ddc27a3e42499d360227e20ba0385f1868c9500e359", checked := Try.checked }
namespace Rows
def none {H : Type} : Left H := { results := [], args := [] }

/-- 'weighbridgelaw48.PairOne': WHATEVER THE INPUT: true; the input reads as it did. -/
def pairOneSpec : ChangeSpec := { name := "pairOne", fn := fun _ => fun
  | [d1, d2, d3, d4, d5, d6] => { results := [.lit (.bool true)], args := [d1, d2, d3, d4, d5, d6] }
  | _ => none }
def pairOneRow : OpenClaim := { program := "ythaegngkkannjaa", sum := "e6553d4abd29c446a8de1ddc27a3e42499d360227e20ba0385f1868c9500e359", func := "weighbridge/weighbridgelaw48.PairOne", spec := "pairOne", unfollowed := true, recurses := true, apart := false }
def PairOneSaid : Prop := pairOneRow.holds Try.pinned (OpenSpec.ofChange pairOneSpec)

/-- ITS FALSE NEIGHBOUR: 'it returns false'. Refute it at one input. -/
def pairOneWrong : ChangeSpec := { name := "pairOne", fn := fun _ => fun
  | [d1, d2, d3, d4, d5, d6] => { results := [.lit (.bool false)], args := [d1, d2, d3, d4, d5, d6] }
  | _ => none }
def PairOneWrongFalsely : Prop := pairOneRow.holds Try.pinned (OpenSpec.ofChange pairOneWrong)

/-- 'weighbridgelaw48.PairTerms': WHATEVER THE INPUT: true; the input reads as it did. -/
def pairTermsSpec : ChangeSpec := { name := "pairTerms", fn := fun _ => fun
  | [d1, d2, d3, d4, d5] => { results := [.lit (.bool true)], args := [d1, d2, d3, d4, d5] }
  | _ => none }
def pairTermsRow : OpenClaim := { program := "ythaegngkkannjaa", sum := "e6553d4abd29c446a8de1ddc27a3e42499d360227e20ba0385f1868c9500e359", func := "weighbridge/weighbridgelaw48.PairTerms", spec := "pairTerms", unfollowed := true, recurses := true, apart := false }
def PairTermsSaid : Prop := pairTermsRow.holds Try.pinned (OpenSpec.ofChange pairTermsSpec)

/-- ITS FALSE NEIGHBOUR: 'it returns false'. Refute it at one input. -/
def pairTermsWrong : ChangeSpec := { name := "pairTerms", fn := fun _ => fun
  | [d1, d2, d3, d4, d5] => { results := [.lit (.bool false)], args := [d1, d2, d3, d4, d5] }
  | _ => none }
def PairTermsWrongFalsely : Prop := pairTermsRow.holds Try.pinned (OpenSpec.ofChange pairTermsWrong)

/-- 'weighbridgelaw48.PairNone': WHATEVER THE INPUT: true; the input reads as it did. -/
def pairNoneSpec : ChangeSpec := { name := "pairNone", fn := fun _ => fun
  | [d] => { results := [.lit (.bool true)], args := [d] }
  | _ => none }
def pairNoneRow : OpenClaim := { program := "ythaegngkkannjaa", sum := "e6553d4abd29c446a8de1ddc27a3e42499d360227e20ba0385f1868c9500e359", func := "weighbridge/weighbridgelaw48.PairNone", spec := "pairNone", unfollowed := true, recurses := true, apart := false }
def PairNoneSaid : Prop := pairNoneRow.holds Try.pinned (OpenSpec.ofChange pairNoneSpec)

/-- ITS FALSE NEIGHBOUR: 'it returns false'. Refute it at one input. -/
def pairNoneWrong : ChangeSpec := { name := "pairNone", fn := fun _ => fun
  | [d] => { results := [.lit (.bool false)], args := [d] }
  | _ => none }
def PairNoneWrongFalsely : Prop := pairNoneRow.holds Try.pinned (OpenSpec.ofChange pairNoneWrong)

/- THE SECOND FORM. 'bulk': how many values and letters a reading holds, each counted each time it is reached (what is shared counts as often as it is met; a slice's spare places count too). A statement '..UptoSaid' is the law's where the arguments, and the package variables that the reading takes, are together of bulk at most 1048576: NARROWER than '..Said'. Prove '..Said' where nothing that the law and all that it calls make is longer than what came in: it says more and counts as full. Else prove '..UptoSaid'. A law counts once. -/
mutual
def uptoBulk {H : Type} : DataW H → Nat
  | .lit (.string bytes) => bytes.length + 1
  | .lit _ => 1
  | .nil => 1
  | .ptr d => uptoBulk d + 1
  | .slice elems spare => uptoBulkAll elems + uptoBulkAll spare + 1
  | .agg parts => uptoBulkAll parts + 1
  | .iface _ d => uptoBulk d + 1
  | .map entries => uptoBulkEntries entries + 1
  | .held _ => 1
def uptoBulkAll {H : Type} : List (DataW H) → Nat
  | [] => 0
  | d :: r => uptoBulk d + uptoBulkAll r
def uptoBulkEntries {H : Type} : List (Lit × DataW H) → Nat
  | [] => 0
  | x :: r => uptoBulkEntry x + uptoBulkEntries r
def uptoBulkEntry {H : Type} : Lit × DataW H → Nat
  | (.string bytes, d) => bytes.length + uptoBulk d + 1
  | (_, d) => uptoBulk d + 1
 end
def uptoSmall : (H : Type) → List (DataW H) → Bool := fun _ ds => decide (uptoBulkAll ds ≤ 1048576)
def OpenSpec.upto (s : _root_.Go.ChangeSpec) : _root_.Go.OpenSpec := { _root_.Go.OpenSpec.ofChange s with cond := some uptoSmall }

/-- 'weighbridgelaw48.PairOne', WHERE WHAT IT READS IS OF BULK AT MOST 1048576: true; the input reads as it did. -/
def pairOneUptoRow : OpenClaim := { program := "ythaegngkkannjaa", sum := "e6553d4abd29c446a8de1ddc27a3e42499d360227e20ba0385f1868c9500e359", func := "weighbridge/weighbridgelaw48.PairOne", spec := "pairOne", unfollowed := true, recurses := true, apart := false, narrowed := true }
def PairOneUptoSaid : Prop := pairOneUptoRow.holds Try.pinned (OpenSpec.upto pairOneSpec)

/-- 'weighbridgelaw48.PairTerms', WHERE WHAT IT READS IS OF BULK AT MOST 1048576: true; the input reads as it did. -/
def pairTermsUptoRow : OpenClaim := { program := "ythaegngkkannjaa", sum := "e6553d4abd29c446a8de1ddc27a3e42499d360227e20ba0385f1868c9500e359", func := "weighbridge/weighbridgelaw48.PairTerms", spec := "pairTerms", unfollowed := true, recurses := true, apart := false, narrowed := true }
def PairTermsUptoSaid : Prop := pairTermsUptoRow.holds Try.pinned (OpenSpec.upto pairTermsSpec)

/-- 'weighbridgelaw48.PairNone', WHERE WHAT IT READS IS OF BULK AT MOST 1048576: true; the input reads as it did. -/
def pairNoneUptoRow : OpenClaim := { program := "ythaegngkkannjaa", sum := "e6553d4abd29c446a8de1ddc27a3e42499d360227e20ba0385f1868c9500e359", func := "weighbridge/weighbridgelaw48.PairNone", spec := "pairNone", unfollowed := true, recurses := true, apart := false, narrowed := true }
def PairNoneUptoSaid : Prop := pairNoneUptoRow.holds Try.pinned (OpenSpec.upto pairNoneSpec)

end Rows
end Go.Proofs.Ythaegngkkannjaa
