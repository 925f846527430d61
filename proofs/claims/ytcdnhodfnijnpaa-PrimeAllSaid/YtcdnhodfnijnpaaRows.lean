/-
  No cell of these rows narrows 'for every input' (looked for: loops, veiled, ifaces, maps, wideKeys, modest, calm, conditions, laid).
  DERIVED. THE GIVEN ROWS OF THIS SEAT. 3 by the template 'for every input the law returns true; each argument reads behind the call as it read before'; 0 by the template 'total and deterministic' (their statements: YtcdnhodfnijnpaaTotals.lean).
  GIVEN WITH THE SEED: the statements are not yours to turn. If you find one false, say at which input.
  Laid BY PROGRAM, IN A SANDBOX (cutbox-rows.mjs): the forced cells as the released guide's own fill.sh prints them over the translation bad6b822664de241… (all of the seat's roots in one cut). By AI agents, Wed Nov 11 2026. No macro, syntax, notation, axiom, sorry.
-/
import Derived.Test.YtcdnhodfnijnpaaChecked
import GoSem.Claim
import GoSem.ClaimJoined
import GoSem.ClaimMapViews
import Derived.JoinedTies
import Derived.KernelRfl
namespace Go.Proofs.Ytcdnhodfnijnpaa
/- THE CELL 'sum', in the pinned program and in every row, IS THE sha256 OF THE DUMP (.gsa) THAT YtcdnhodfnijnpaaProg.lean LOADS. Nothing in Lean hashes anything: it is a label: what it is worth is what the hold of that sum in a sandbox is worth. -/
noncomputable def Try.pinned : Pinned := { name := "ytcdnhodfnijnpaa", sum := "bad6b822664de241592f0eebe38741a5ae3d3f80463311246e0ca7ad5276121c", checked := Try.checked }
namespace Rows
def none {H : Type} : Left H := { results := [], args := [] }

/-- 'weighbridgelaw17.PrimeTells': WHATEVER THE INPUT: true; the input reads as it did. -/
def primeTellsSpec : ChangeSpec := { name := "primeTells", fn := fun _ => fun
  | [d] => { results := [.lit (.bool true)], args := [d] }
  | _ => none }
def primeTellsRow : OpenClaim := { program := "ytcdnhodfnijnpaa", sum := "bad6b822664de241592f0eebe38741a5ae3d3f80463311246e0ca7ad5276121c", func := "weighbridge/weighbridgelaw17.PrimeTells", spec := "primeTells", apart := false }
def PrimeTellsSaid : Prop := primeTellsRow.holds Try.pinned (OpenSpec.ofChange primeTellsSpec)

/-- ITS FALSE NEIGHBOUR: 'it returns false'. Refute it at one input. -/
def primeTellsWrong : ChangeSpec := { name := "primeTells", fn := fun _ => fun
  | [d] => { results := [.lit (.bool false)], args := [d] }
  | _ => none }
def PrimeTellsWrongFalsely : Prop := primeTellsRow.holds Try.pinned (OpenSpec.ofChange primeTellsWrong)

/-- 'weighbridgelaw17.PrimeAll': WHATEVER THE INPUT: true; the input reads as it did. -/
def primeAllSpec : ChangeSpec := { name := "primeAll", fn := fun _ => fun
  | [d] => { results := [.lit (.bool true)], args := [d] }
  | _ => none }
def primeAllRow : OpenClaim := { program := "ytcdnhodfnijnpaa", sum := "bad6b822664de241592f0eebe38741a5ae3d3f80463311246e0ca7ad5276121c", func := "weighbridge/weighbridgelaw17.PrimeAll", spec := "primeAll", apart := false }
def PrimeAllSaid : Prop := primeAllRow.holds Try.pinned (OpenSpec.ofChange primeAllSpec)

/-- ITS FALSE NEIGHBOUR: 'it returns false'. Refute it at one input. -/
def primeAllWrong : ChangeSpec := { name := "primeAll", fn := fun _ => fun
  | [d] => { results := [.lit (.bool false)], args := [d] }
  | _ => none }
def PrimeAllWrongFalsely : Prop := primeAllRow.holds Try.pinned (OpenSpec.ofChange primeAllWrong)

/-- 'weighbridgelaw17.PrimeDivides': WHATEVER THE INPUT: true; the input reads as it did. -/
def primeDividesSpec : ChangeSpec := { name := "primeDivides", fn := fun _ => fun
  | [d] => { results := [.lit (.bool true)], args := [d] }
  | _ => none }
def primeDividesRow : OpenClaim := { program := "ytcdnhodfnijnpaa", sum := "bad6b822664de241592f0eebe38741a5ae3d3f80463311246e0ca7ad5276121c", func := "weighbridge/weighbridgelaw17.PrimeDivides", spec := "primeDivides", apart := false }
def PrimeDividesSaid : Prop := primeDividesRow.holds Try.pinned (OpenSpec.ofChange primeDividesSpec)

/-- ITS FALSE NEIGHBOUR: 'it returns false'. Refute it at one input. -/
def primeDividesWrong : ChangeSpec := { name := "primeDivides", fn := fun _ => fun
  | [d] => { results := [.lit (.bool false)], args := [d] }
  | _ => none }
def PrimeDividesWrongFalsely : Prop := primeDividesRow.holds Try.pinned (OpenSpec.ofChange primeDividesWrong)

/- THE SECOND FORM. 'bulk': how many values and letters a reading holds, each counted each time it is reached (what is shared counts as often as it is met; a slice's spare places count too). A statement '..UptoSaid' is the law's where the arguments, and the package variables that the reading takes, are together of bulk at most 1048576: NARROWER than '..Said'. Prove '..Said' where nothing that the law and all that it calls make is longer than what came in: it says more and counts as full. Else prove '..UptoSaid'. A law counts once. -/
mutual
def uptoBulk {H : Type} : DataW H → Nat
  | .lit (.string bytes) => bytes.length + 1
  | .lit _ => 1
  | .nil => 1
  | .ptr d => uptoBulk d + 1
  | .slice elems spare => uptoBulkAll elems + uptoBulkAll spare + 1
  | .agg parts => uptoBulkAll parts + 1
  | .iface _ d => uptoBulk d + 1
  | .map entries => uptoBulkEntries entries + 1
  | .held _ => 1
def uptoBulkAll {H : Type} : List (DataW H) → Nat
  | [] => 0
  | d :: r => uptoBulk d + uptoBulkAll r
def uptoBulkEntries {H : Type} : List (Lit × DataW H) → Nat
  | [] => 0
  | x :: r => uptoBulkEntry x + uptoBulkEntries r
def uptoBulkEntry {H : Type} : Lit × DataW H → Nat
  | (.string bytes, d) => bytes.length + uptoBulk d + 1
  | (_, d) => uptoBulk d + 1
 end
def uptoSmall : (H : Type) → List (DataW H) → Bool := fun _ ds => decide (uptoBulkAll ds ≤ 1048576)
def OpenSpec.upto (s : _root_.Go.ChangeSpec) : _root_.Go.OpenSpec := { _root_.Go.OpenSpec.ofChange s with cond := some uptoSmall }

/-- 'weighbridgelaw17.PrimeTells', WHERE WHAT IT READS IS OF BULK AT MOST 1048576: true; the input reads as it did. -/
def primeTellsUptoRow : OpenClaim := { program := "ytcdnhodfnijnpaa", sum := "bad6b822664de241592f0eebe38741a5ae3d3f80463311246e0ca7ad5276121c", func := "weighbridge/weighbridgelaw17.PrimeTells", spec := "primeTells", apart := false, narrowed := true }
def PrimeTellsUptoSaid : Prop := primeTellsUptoRow.holds Try.pinned (OpenSpec.upto primeTellsSpec)

/-- 'weighbridgelaw17.PrimeAll', WHERE WHAT IT READS IS OF BULK AT MOST 1048576: true; the input reads as it did. -/
def primeAllUptoRow : OpenClaim := { program := "ytcdnhodfnijnpaa", sum := "bad6b822664de241592f0eebe38741a5ae3d3f80463311246e0ca7ad5276121c", func := "weighbridge/weighbridgelaw17.PrimeAll", spec := "primeAll", apart := false, narrowed := true }
def PrimeAllUptoSaid : Prop := primeAllUptoRow.holds Try.pinned (OpenSpec.upto primeAllSpec)

/-- 'weighbridgelaw17.PrimeDivides', WHERE WHAT IT READS IS OF BULK AT MOST 1048576: true; the input reads as it did. -/
def primeDividesUptoRow : OpenClaim := { program := "ytcdnhodfnijnpaa", sum := "bad6b822664de241592f0eebe38741a5ae3d3f80463311246e0ca7ad5276121c", func := "weighbridge/weighbridgelaw17.PrimeDivides", spec := "primeDivides", apart := false, narrowed := true }
def PrimeDividesUptoSaid : Prop := primeDividesUptoRow.holds Try.pinned (OpenSpec.upto primeDividesSpec)

end Rows
end Go.Proofs.Ytcdnhodfnijnpaa
