/-
  No cell of these rows narrows 'for every input' (looked for: loops, veiled, ifaces, maps, wideKeys, modest, calm, conditions, laid).
  DERIVED. THE GIVEN ROWS OF THIS SEAT. 5 by the template 'for every input the law returns true; each argument reads behind the call as it read before'; 0 by the template 'total and deterministic' (their statements: YtfjjpikceaibkaaTotals.lean).
  GIVEN WITH THE SEED: the statements are not yours to turn. If you find one false, say at which input.
  Laid BY PROGRAM, IN A SANDBOX (cutbox-rows.mjs): the forced cells as the released guide's own fill.sh prints them over the translation 24bb6b69de1db44f… (all of the seat's roots in one cut). By AI agents, Wed Nov 11 2026. No macro, syntax, notation, axiom, sorry.
-/
import Derived.Test.YtfjjpikceaibkaaChecked
import GoSem.Claim
import GoSem.ClaimJoined
import GoSem.ClaimMapViews
import Derived.JoinedTies
import Derived.KernelRfl
namespace Go.Proofs.Ytfjjpikceaibkaa
/- THE CELL 'sum', in the pinned program and in every row, IS THE sha256 OF THE DUMP (.gsa) THAT YtfjjpikceaibkaaProg.lean LOADS. Nothing in Lean hashes anything: it is a label: what it is worth is what the hold of that sum in a sandbox is worth. -/
noncomputable def Try.pinned : Pinned := { name := "ytfjjpikceaibkaa", sum := "24bb6b69de1db44fc040eee3d1a680f31d96d7b70d23c9a6254e198d0bf70ca0", checked := Try.checked }
namespace Rows
def none {H : Type} : Left H := { results := [], args := [] }

/-- 'weighbridgelaw47.FollowHears': WHATEVER THE INPUT: true; the input reads as it did. -/
def followHearsSpec : ChangeSpec := { name := "followHears", fn := fun _ => fun
  | [d] => { results := [.lit (.bool true)], args := [d] }
  | _ => none }
def followHearsRow : OpenClaim := { program := "ytfjjpikceaibkaa", sum := "24bb6b69de1db44fc040eee3d1a680f31d96d7b70d23c9a6254e198d0bf70ca0", func := "weighbridge/weighbridgelaw47.FollowHears", spec := "followHears", inPlace := ["internal/bytealg.Compare", "maps.clone"], unfollowed := true, recurses := true, plainKeys := false, apart := false }
def FollowHearsSaid : Prop := followHearsRow.holds Try.pinned (OpenSpec.ofChange followHearsSpec)

/-- ITS FALSE NEIGHBOUR: 'it returns false'. Refute it at one input. -/
def followHearsWrong : ChangeSpec := { name := "followHears", fn := fun _ => fun
  | [d] => { results := [.lit (.bool false)], args := [d] }
  | _ => none }
def FollowHearsWrongFalsely : Prop := followHearsRow.holds Try.pinned (OpenSpec.ofChange followHearsWrong)

/-- 'weighbridgelaw47.FollowLeads': WHATEVER THE INPUT: true; the input reads as it did. -/
def followLeadsSpec : ChangeSpec := { name := "followLeads", fn := fun _ => fun
  | [d1, d2] => { results := [.lit (.bool true)], args := [d1, d2] }
  | _ => none }
def followLeadsRow : OpenClaim := { program := "ytfjjpikceaibkaa", sum := "24bb6b69de1db44fc040eee3d1a680f31d96d7b70d23c9a6254e198d0bf70ca0", func := "weighbridge/weighbridgelaw47.FollowLeads", spec := "followLeads", inPlace := ["internal/bytealg.Compare", "maps.clone"], unfollowed := true, recurses := true, plainKeys := false, apart := false }
def FollowLeadsSaid : Prop := followLeadsRow.holds Try.pinned (OpenSpec.ofChange followLeadsSpec)

/-- ITS FALSE NEIGHBOUR: 'it returns false'. Refute it at one input. -/
def followLeadsWrong : ChangeSpec := { name := "followLeads", fn := fun _ => fun
  | [d1, d2] => { results := [.lit (.bool false)], args := [d1, d2] }
  | _ => none }
def FollowLeadsWrongFalsely : Prop := followLeadsRow.holds Try.pinned (OpenSpec.ofChange followLeadsWrong)

/-- 'weighbridgelaw47.FollowMeets': WHATEVER THE INPUT: true; the input reads as it did. -/
def followMeetsSpec : ChangeSpec := { name := "followMeets", fn := fun _ => fun
  | [d1, d2] => { results := [.lit (.bool true)], args := [d1, d2] }
  | _ => none }
def followMeetsRow : OpenClaim := { program := "ytfjjpikceaibkaa", sum := "24bb6b69de1db44fc040eee3d1a680f31d96d7b70d23c9a6254e198d0bf70ca0", func := "weighbridge/weighbridgelaw47.FollowMeets", spec := "followMeets", inPlace := ["internal/bytealg.Compare", "maps.clone"], unfollowed := true, recurses := true, plainKeys := false, apart := false }
def FollowMeetsSaid : Prop := followMeetsRow.holds Try.pinned (OpenSpec.ofChange followMeetsSpec)

/-- ITS FALSE NEIGHBOUR: 'it returns false'. Refute it at one input. -/
def followMeetsWrong : ChangeSpec := { name := "followMeets", fn := fun _ => fun
  | [d1, d2] => { results := [.lit (.bool false)], args := [d1, d2] }
  | _ => none }
def FollowMeetsWrongFalsely : Prop := followMeetsRow.holds Try.pinned (OpenSpec.ofChange followMeetsWrong)

/-- 'weighbridgelaw47.FollowBytes': WHATEVER THE INPUT: true; the input reads as it did. -/
def followBytesSpec : ChangeSpec := { name := "followBytes", fn := fun _ => fun
  | [d1, d2, d3] => { results := [.lit (.bool true)], args := [d1, d2, d3] }
  | _ => none }
def followBytesRow : OpenClaim := { program := "ytfjjpikceaibkaa", sum := "24bb6b69de1db44fc040eee3d1a680f31d96d7b70d23c9a6254e198d0bf70ca0", func := "weighbridge/weighbridgelaw47.FollowBytes", spec := "followBytes", inPlace := ["internal/bytealg.Compare"], unfollowed := true, recurses := true, plainKeys := false, apart := false }
def FollowBytesSaid : Prop := followBytesRow.holds Try.pinned (OpenSpec.ofChange followBytesSpec)

/-- ITS FALSE NEIGHBOUR: 'it returns false'. Refute it at one input. -/
def followBytesWrong : ChangeSpec := { name := "followBytes", fn := fun _ => fun
  | [d1, d2, d3] => { results := [.lit (.bool false)], args := [d1, d2, d3] }
  | _ => none }
def FollowBytesWrongFalsely : Prop := followBytesRow.holds Try.pinned (OpenSpec.ofChange followBytesWrong)

/-- 'weighbridgelaw47.FollowNone': WHATEVER THE INPUT: true; the input reads as it did. -/
def followNoneSpec : ChangeSpec := { name := "followNone", fn := fun _ => fun
  | [d1, d2] => { results := [.lit (.bool true)], args := [d1, d2] }
  | _ => none }
def followNoneRow : OpenClaim := { program := "ytfjjpikceaibkaa", sum := "24bb6b69de1db44fc040eee3d1a680f31d96d7b70d23c9a6254e198d0bf70ca0", func := "weighbridge/weighbridgelaw47.FollowNone", spec := "followNone", inPlace := ["internal/bytealg.Compare", "maps.clone"], unfollowed := true, recurses := true, plainKeys := false, apart := false }
def FollowNoneSaid : Prop := followNoneRow.holds Try.pinned (OpenSpec.ofChange followNoneSpec)

/-- ITS FALSE NEIGHBOUR: 'it returns false'. Refute it at one input. -/
def followNoneWrong : ChangeSpec := { name := "followNone", fn := fun _ => fun
  | [d1, d2] => { results := [.lit (.bool false)], args := [d1, d2] }
  | _ => none }
def FollowNoneWrongFalsely : Prop := followNoneRow.holds Try.pinned (OpenSpec.ofChange followNoneWrong)

/- THE SECOND FORM. 'bulk': how many values and letters a reading holds, each counted each time it is reached (what is shared counts as often as it is met; a slice's spare places count too). A statement '..UptoSaid' is the law's where the arguments, and the package variables that the reading takes, are together of bulk at most 1048576: NARROWER than '..Said'. Prove '..Said' where nothing that the law and all that it calls make is longer than what came in: it says more and counts as full. Else prove '..UptoSaid'. A law counts once. -/
mutual
def uptoBulk {H : Type} : DataW H → Nat
  | .lit (.string bytes) => bytes.length + 1
  | .lit _ => 1
  | .nil => 1
  | .ptr d => uptoBulk d + 1
  | .slice elems spare => uptoBulkAll elems + uptoBulkAll spare + 1
  | .agg parts => uptoBulkAll parts + 1
  | .iface _ d => uptoBulk d + 1
  | .map entries => uptoBulkEntries entries + 1
  | .held _ => 1
def uptoBulkAll {H : Type} : List (DataW H) → Nat
  | [] => 0
  | d :: r => uptoBulk d + uptoBulkAll r
def uptoBulkEntries {H : Type} : List (Lit × DataW H) → Nat
  | [] => 0
  | x :: r => uptoBulkEntry x + uptoBulkEntries r
def uptoBulkEntry {H : Type} : Lit × DataW H → Nat
  | (.string bytes, d) => bytes.length + uptoBulk d + 1
  | (_, d) => uptoBulk d + 1
 end
def uptoSmall : (H : Type) → List (DataW H) → Bool := fun _ ds => decide (uptoBulkAll ds ≤ 1048576)
def OpenSpec.upto (s : _root_.Go.ChangeSpec) : _root_.Go.OpenSpec := { _root_.Go.OpenSpec.ofChange s with cond := some uptoSmall }

/-- 'weighbridgelaw47.FollowHears', WHERE WHAT IT READS IS OF BULK AT MOST 1048576: true; the input reads as it did. -/
def followHearsUptoRow : OpenClaim := { program := "ytfjjpikceaibkaa", sum := "24bb6b69de1db44fc040eee3d1a680f31d96d7b70d23c9a6254e198d0bf70ca0", func := "weighbridge/weighbridgelaw47.FollowHears", spec := "followHears", inPlace := ["internal/bytealg.Compare", "maps.clone"], unfollowed := true, recurses := true, plainKeys := false, apart := false, narrowed := true }
def FollowHearsUptoSaid : Prop := followHearsUptoRow.holds Try.pinned (OpenSpec.upto followHearsSpec)

/-- 'weighbridgelaw47.FollowLeads', WHERE WHAT IT READS IS OF BULK AT MOST 1048576: true; the input reads as it did. -/
def followLeadsUptoRow : OpenClaim := { program := "ytfjjpikceaibkaa", sum := "24bb6b69de1db44fc040eee3d1a680f31d96d7b70d23c9a6254e198d0bf70ca0", func := "weighbridge/weighbridgelaw47.FollowLeads", spec := "followLeads", inPlace := ["internal/bytealg.Compare", "maps.clone"], unfollowed := true, recurses := true, plainKeys := false, apart := false, narrowed := true }
def FollowLeadsUptoSaid : Prop := followLeadsUptoRow.holds Try.pinned (OpenSpec.upto followLeadsSpec)

/-- 'weighbridgelaw47.FollowMeets', WHERE WHAT IT READS IS OF BULK AT MOST 1048576: true; the input reads as it did. -/
def followMeetsUptoRow : OpenClaim := { program := "ytfjjpikceaibkaa", sum := "24bb6b69de1db44fc040eee3d1a680f31d96d7b70d23c9a6254e198d0bf70ca0", func := "weighbridge/weighbridgelaw47.FollowMeets", spec := "followMeets", inPlace := ["internal/bytealg.Compare", "maps.clone"], unfollowed := true, recurses := true, plainKeys := false, apart := false, narrowed := true }
def FollowMeetsUptoSaid : Prop := followMeetsUptoRow.holds Try.pinned (OpenSpec.upto followMeetsSpec)

/-- 'weighbridgelaw47.FollowBytes', WHERE WHAT IT READS IS OF BULK AT MOST 1048576: true; the input reads as it did. -/
def followBytesUptoRow : OpenClaim := { program := "ytfjjpikceaibkaa", sum := "24bb6b69de1db44fc040eee3d1a680f31d96d7b70d23c9a6254e198d0bf70ca0", func := "weighbridge/weighbridgelaw47.FollowBytes", spec := "followBytes", inPlace := ["internal/bytealg.Compare"], unfollowed := true, recurses := true, plainKeys := false, apart := false, narrowed := true }
def FollowBytesUptoSaid : Prop := followBytesUptoRow.holds Try.pinned (OpenSpec.upto followBytesSpec)

/-- 'weighbridgelaw47.FollowNone', WHERE WHAT IT READS IS OF BULK AT MOST 1048576: true; the input reads as it did. -/
def followNoneUptoRow : OpenClaim := { program := "ytfjjpikceaibkaa", sum := "24bb6b69de1db44fc040eee3d1a680f31d96d7b70d23c9a6254e198d0bf70ca0", func := "weighbridge/weighbridgelaw47.FollowNone", spec := "followNone", inPlace := ["internal/bytealg.Compare", "maps.clone"], unfollowed := true, recurses := true, plainKeys := false, apart := false, narrowed := true }
def FollowNoneUptoSaid : Prop := followNoneUptoRow.holds Try.pinned (OpenSpec.upto followNoneSpec)

end Rows
end Go.Proofs.Ytfjjpikceaibkaa
