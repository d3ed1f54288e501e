/-
  NARROWER THAN 'FOR EVERY INPUT', by the rows' own cells (each row's printed sentence says how): BallsFormal: loops · BallsLists: loops · BallsIndicators: loops · BallsShape: loops · BallsMake: loops · BallsParts: loops · BallsKinds: loops · BallsChecks: loops.
  DERIVED. THE GIVEN ROWS OF THIS SEAT. 9 by the template 'for every input the law returns true; each argument reads behind the call as it read before'; 0 by the template 'total and deterministic' (their statements: YtloekfnlidclcaaTotals.lean).
  GIVEN WITH THE SEED: the statements are not yours to turn. If you find one false, say at which input.
  Laid BY PROGRAM, IN A SANDBOX (cutbox-rows.mjs): the forced cells as the released guide's own fill.sh prints them over the translation f8cf0d9af7a0a91f… (all of the seat's roots in one cut). By AI agents, Wed Nov 11 2026. No macro, syntax, notation, axiom, sorry.
-/
import Derived.Test.YtloekfnlidclcaaChecked
import GoSem.Claim
import GoSem.ClaimJoined
import GoSem.ClaimMapViews
import Derived.JoinedTies
import Derived.KernelRfl
namespace Go.Proofs.Ytloekfnlidclcaa
/- THE CELL 'sum', in the pinned program and in every row, IS THE sha256 OF THE DUMP (.gsa) THAT YtloekfnlidclcaaProg.lean LOADS. Nothing in Lean hashes anything: it is a label: what it is worth is what the hold of that sum in a sandbox is worth. -/
noncomputable def Try.pinned : Pinned := { name := "ytloekfnlidclcaa", sum := "f8cf0d9af7a0a91f60ac9187bfd321e7080939a9eb3b294a35dd2827fd5a5916", checked := Try.checked }
namespace Rows
def none {H : Type} : Left H := { results := [], args := [] }

/-- 'hornbeamlaw06.BallsFormal': WHATEVER THE INPUT: true; the input reads as it did. -/
def ballsFormalSpec : ChangeSpec := { name := "ballsFormal", fn := fun _ => fun
  | [d] => { results := [.lit (.bool true)], args := [d] }
  | _ => none }
def ballsFormalRow : OpenClaim := { program := "ytloekfnlidclcaa", sum := "f8cf0d9af7a0a91f60ac9187bfd321e7080939a9eb3b294a35dd2827fd5a5916", func := "hornbeam/hornbeamlaw06.BallsFormal", spec := "ballsFormal", unfollowed := true, recurses := true, loops := true, apart := false }
def BallsFormalSaid : Prop := ballsFormalRow.holds Try.pinned (OpenSpec.ofChange ballsFormalSpec)

/-- ITS FALSE NEIGHBOUR: 'it returns false'. Refute it at one input. -/
def ballsFormalWrong : ChangeSpec := { name := "ballsFormal", fn := fun _ => fun
  | [d] => { results := [.lit (.bool false)], args := [d] }
  | _ => none }
def BallsFormalWrongFalsely : Prop := ballsFormalRow.holds Try.pinned (OpenSpec.ofChange ballsFormalWrong)

/-- 'hornbeamlaw06.BallsLists': WHATEVER THE INPUT: true; the input reads as it did. -/
def ballsListsSpec : ChangeSpec := { name := "ballsLists", fn := fun _ => fun
  | [d1, d2] => { results := [.lit (.bool true)], args := [d1, d2] }
  | _ => none }
def ballsListsRow : OpenClaim := { program := "ytloekfnlidclcaa", sum := "f8cf0d9af7a0a91f60ac9187bfd321e7080939a9eb3b294a35dd2827fd5a5916", func := "hornbeam/hornbeamlaw06.BallsLists", spec := "ballsLists", unfollowed := true, recurses := true, loops := true, apart := false }
def BallsListsSaid : Prop := ballsListsRow.holds Try.pinned (OpenSpec.ofChange ballsListsSpec)

/-- ITS FALSE NEIGHBOUR: 'it returns false'. Refute it at one input. -/
def ballsListsWrong : ChangeSpec := { name := "ballsLists", fn := fun _ => fun
  | [d1, d2] => { results := [.lit (.bool false)], args := [d1, d2] }
  | _ => none }
def BallsListsWrongFalsely : Prop := ballsListsRow.holds Try.pinned (OpenSpec.ofChange ballsListsWrong)

/-- 'hornbeamlaw06.BallsIndicators': WHATEVER THE INPUT: true; the input reads as it did. -/
def ballsIndicatorsSpec : ChangeSpec := { name := "ballsIndicators", fn := fun _ => fun
  | [d1, d2] => { results := [.lit (.bool true)], args := [d1, d2] }
  | _ => none }
def ballsIndicatorsRow : OpenClaim := { program := "ytloekfnlidclcaa", sum := "f8cf0d9af7a0a91f60ac9187bfd321e7080939a9eb3b294a35dd2827fd5a5916", func := "hornbeam/hornbeamlaw06.BallsIndicators", spec := "ballsIndicators", unfollowed := true, recurses := true, loops := true, apart := false }
def BallsIndicatorsSaid : Prop := ballsIndicatorsRow.holds Try.pinned (OpenSpec.ofChange ballsIndicatorsSpec)

/-- ITS FALSE NEIGHBOUR: 'it returns false'. Refute it at one input. -/
def ballsIndicatorsWrong : ChangeSpec := { name := "ballsIndicators", fn := fun _ => fun
  | [d1, d2] => { results := [.lit (.bool false)], args := [d1, d2] }
  | _ => none }
def BallsIndicatorsWrongFalsely : Prop := ballsIndicatorsRow.holds Try.pinned (OpenSpec.ofChange ballsIndicatorsWrong)

/-- 'hornbeamlaw06.BallsShape': WHATEVER THE INPUT: true; the input reads as it did. -/
def ballsShapeSpec : ChangeSpec := { name := "ballsShape", fn := fun _ => fun
  | [d1, d2, d3] => { results := [.lit (.bool true)], args := [d1, d2, d3] }
  | _ => none }
def ballsShapeRow : OpenClaim := { program := "ytloekfnlidclcaa", sum := "f8cf0d9af7a0a91f60ac9187bfd321e7080939a9eb3b294a35dd2827fd5a5916", func := "hornbeam/hornbeamlaw06.BallsShape", spec := "ballsShape", unfollowed := true, recurses := true, loops := true, apart := false }
def BallsShapeSaid : Prop := ballsShapeRow.holds Try.pinned (OpenSpec.ofChange ballsShapeSpec)

/-- ITS FALSE NEIGHBOUR: 'it returns false'. Refute it at one input. -/
def ballsShapeWrong : ChangeSpec := { name := "ballsShape", fn := fun _ => fun
  | [d1, d2, d3] => { results := [.lit (.bool false)], args := [d1, d2, d3] }
  | _ => none }
def BallsShapeWrongFalsely : Prop := ballsShapeRow.holds Try.pinned (OpenSpec.ofChange ballsShapeWrong)

/-- 'hornbeamlaw06.BallsMake': WHATEVER THE INPUT: true; the input reads as it did. -/
def ballsMakeSpec : ChangeSpec := { name := "ballsMake", fn := fun _ => fun
  | [d1, d2, d3, d4] => { results := [.lit (.bool true)], args := [d1, d2, d3, d4] }
  | _ => none }
def ballsMakeRow : OpenClaim := { program := "ytloekfnlidclcaa", sum := "f8cf0d9af7a0a91f60ac9187bfd321e7080939a9eb3b294a35dd2827fd5a5916", func := "hornbeam/hornbeamlaw06.BallsMake", spec := "ballsMake", unfollowed := true, recurses := true, loops := true, apart := false }
def BallsMakeSaid : Prop := ballsMakeRow.holds Try.pinned (OpenSpec.ofChange ballsMakeSpec)

/-- ITS FALSE NEIGHBOUR: 'it returns false'. Refute it at one input. -/
def ballsMakeWrong : ChangeSpec := { name := "ballsMake", fn := fun _ => fun
  | [d1, d2, d3, d4] => { results := [.lit (.bool false)], args := [d1, d2, d3, d4] }
  | _ => none }
def BallsMakeWrongFalsely : Prop := ballsMakeRow.holds Try.pinned (OpenSpec.ofChange ballsMakeWrong)

/-- 'hornbeamlaw06.BallsParts': WHATEVER THE INPUT: true; the input reads as it did. -/
def ballsPartsSpec : ChangeSpec := { name := "ballsParts", fn := fun _ => fun
  | [d] => { results := [.lit (.bool true)], args := [d] }
  | _ => none }
def ballsPartsRow : OpenClaim := { program := "ytloekfnlidclcaa", sum := "f8cf0d9af7a0a91f60ac9187bfd321e7080939a9eb3b294a35dd2827fd5a5916", func := "hornbeam/hornbeamlaw06.BallsParts", spec := "ballsParts", unfollowed := true, recurses := true, loops := true, apart := false }
def BallsPartsSaid : Prop := ballsPartsRow.holds Try.pinned (OpenSpec.ofChange ballsPartsSpec)

/-- ITS FALSE NEIGHBOUR: 'it returns false'. Refute it at one input. -/
def ballsPartsWrong : ChangeSpec := { name := "ballsParts", fn := fun _ => fun
  | [d] => { results := [.lit (.bool false)], args := [d] }
  | _ => none }
def BallsPartsWrongFalsely : Prop := ballsPartsRow.holds Try.pinned (OpenSpec.ofChange ballsPartsWrong)

/-- 'hornbeamlaw06.BallsKnown': WHATEVER THE INPUT: true; the input reads as it did. -/
def ballsKnownSpec : ChangeSpec := { name := "ballsKnown", fn := fun _ => fun
  | [] => { results := [.lit (.bool true)], args := [] }
  | _ => none }
def ballsKnownRow : OpenClaim := { program := "ytloekfnlidclcaa", sum := "f8cf0d9af7a0a91f60ac9187bfd321e7080939a9eb3b294a35dd2827fd5a5916", func := "hornbeam/hornbeamlaw06.BallsKnown", spec := "ballsKnown", unfollowed := true, recurses := true, apart := false }
def BallsKnownSaid : Prop := ballsKnownRow.holds Try.pinned (OpenSpec.ofChange ballsKnownSpec)

/-- ITS FALSE NEIGHBOUR: 'it returns false'. Refute it at one input. -/
def ballsKnownWrong : ChangeSpec := { name := "ballsKnown", fn := fun _ => fun
  | [] => { results := [.lit (.bool false)], args := [] }
  | _ => none }
def BallsKnownWrongFalsely : Prop := ballsKnownRow.holds Try.pinned (OpenSpec.ofChange ballsKnownWrong)

/-- 'hornbeamlaw06.BallsKinds': WHATEVER THE INPUT: true; the input reads as it did. -/
def ballsKindsSpec : ChangeSpec := { name := "ballsKinds", fn := fun _ => fun
  | [d] => { results := [.lit (.bool true)], args := [d] }
  | _ => none }
def ballsKindsRow : OpenClaim := { program := "ytloekfnlidclcaa", sum := "f8cf0d9af7a0a91f60ac9187bfd321e7080939a9eb3b294a35dd2827fd5a5916", func := "hornbeam/hornbeamlaw06.BallsKinds", spec := "ballsKinds", unfollowed := true, recurses := true, loops := true, apart := false }
def BallsKindsSaid : Prop := ballsKindsRow.holds Try.pinned (OpenSpec.ofChange ballsKindsSpec)

/-- ITS FALSE NEIGHBOUR: 'it returns false'. Refute it at one input. -/
def ballsKindsWrong : ChangeSpec := { name := "ballsKinds", fn := fun _ => fun
  | [d] => { results := [.lit (.bool false)], args := [d] }
  | _ => none }
def BallsKindsWrongFalsely : Prop := ballsKindsRow.holds Try.pinned (OpenSpec.ofChange ballsKindsWrong)

/-- 'hornbeamlaw06.BallsChecks': WHATEVER THE INPUT: true; the input reads as it did. -/
def ballsChecksSpec : ChangeSpec := { name := "ballsChecks", fn := fun _ => fun
  | [d] => { results := [.lit (.bool true)], args := [d] }
  | _ => none }
def ballsChecksRow : OpenClaim := { program := "ytloekfnlidclcaa", sum := "f8cf0d9af7a0a91f60ac9187bfd321e7080939a9eb3b294a35dd2827fd5a5916", func := "hornbeam/hornbeamlaw06.BallsChecks", spec := "ballsChecks", unfollowed := true, recurses := true, loops := true, apart := false }
def BallsChecksSaid : Prop := ballsChecksRow.holds Try.pinned (OpenSpec.ofChange ballsChecksSpec)

/-- ITS FALSE NEIGHBOUR: 'it returns false'. Refute it at one input. -/
def ballsChecksWrong : ChangeSpec := { name := "ballsChecks", fn := fun _ => fun
  | [d] => { results := [.lit (.bool false)], args := [d] }
  | _ => none }
def BallsChecksWrongFalsely : Prop := ballsChecksRow.holds Try.pinned (OpenSpec.ofChange ballsChecksWrong)

/- THE SECOND FORM. 'bulk': how many values and letters a reading holds, each counted each time it is reached (what is shared counts as often as it is met; a slice's spare places count too). A statement '..UptoSaid' is the law's where the arguments, and the package variables that the reading takes, are together of bulk at most 1048576: NARROWER than '..Said'. Prove '..Said' where nothing that the law and all that it calls make is longer than what came in: it says more and counts as full. Else prove '..UptoSaid'. A law counts once. -/
mutual
def uptoBulk {H : Type} : DataW H → Nat
  | .lit (.string bytes) => bytes.length + 1
  | .lit _ => 1
  | .nil => 1
  | .ptr d => uptoBulk d + 1
  | .slice elems spare => uptoBulkAll elems + uptoBulkAll spare + 1
  | .agg parts => uptoBulkAll parts + 1
  | .iface _ d => uptoBulk d + 1
  | .map entries => uptoBulkEntries entries + 1
  | .held _ => 1
def uptoBulkAll {H : Type} : List (DataW H) → Nat
  | [] => 0
  | d :: r => uptoBulk d + uptoBulkAll r
def uptoBulkEntries {H : Type} : List (Lit × DataW H) → Nat
  | [] => 0
  | x :: r => uptoBulkEntry x + uptoBulkEntries r
def uptoBulkEntry {H : Type} : Lit × DataW H → Nat
  | (.string bytes, d) => bytes.length + uptoBulk d + 1
  | (_, d) => uptoBulk d + 1
 end
def uptoSmall : (H : Type) → List (DataW H) → Bool := fun _ ds => decide (uptoBulkAll ds ≤ 1048576)
def OpenSpec.upto (s : _root_.Go.ChangeSpec) : _root_.Go.OpenSpec := { _root_.Go.OpenSpec.ofChange s with cond := some uptoSmall }

/-- 'hornbeamlaw06.BallsFormal', WHERE WHAT IT READS IS OF BULK AT MOST 1048576: true; the input reads as it did. -/
def ballsFormalUptoRow : OpenClaim := { program := "ytloekfnlidclcaa", sum := "f8cf0d9af7a0a91f60ac9187bfd321e7080939a9eb3b294a35dd2827fd5a5916", func := "hornbeam/hornbeamlaw06.BallsFormal", spec := "ballsFormal", unfollowed := true, recurses := true, loops := true, apart := false, narrowed := true }
def BallsFormalUptoSaid : Prop := ballsFormalUptoRow.holds Try.pinned (OpenSpec.upto ballsFormalSpec)

/-- 'hornbeamlaw06.BallsLists', WHERE WHAT IT READS IS OF BULK AT MOST 1048576: true; the input reads as it did. -/
def ballsListsUptoRow : OpenClaim := { program := "ytloekfnlidclcaa", sum := "f8cf0d9af7a0a91f60ac9187bfd321e7080939a9eb3b294a35dd2827fd5a5916", func := "hornbeam/hornbeamlaw06.BallsLists", spec := "ballsLists", unfollowed := true, recurses := true, loops := true, apart := false, narrowed := true }
def BallsListsUptoSaid : Prop := ballsListsUptoRow.holds Try.pinned (OpenSpec.upto ballsListsSpec)

/-- 'hornbeamlaw06.BallsIndicators', WHERE WHAT IT READS IS OF BULK AT MOST 1048576: true; the input reads as it did. -/
def ballsIndicatorsUptoRow : OpenClaim := { program := "ytloekfnlidclcaa", sum := "f8cf0d9af7a0a91f60ac9187bfd321e7080939a9eb3b294a35dd2827fd5a5916", func := "hornbeam/hornbeamlaw06.BallsIndicators", spec := "ballsIndicators", unfollowed := true, recurses := true, loops := true, apart := false, narrowed := true }
def BallsIndicatorsUptoSaid : Prop := ballsIndicatorsUptoRow.holds Try.pinned (OpenSpec.upto ballsIndicatorsSpec)

/-- 'hornbeamlaw06.BallsShape', WHERE WHAT IT READS IS OF BULK AT MOST 1048576: true; the input reads as it did. -/
def ballsShapeUptoRow : OpenClaim := { program := "ytloekfnlidclcaa", sum := "f8cf0d9af7a0a91f60ac9187bfd321e7080939a9eb3b294a35dd2827fd5a5916", func := "hornbeam/hornbeamlaw06.BallsShape", spec := "ballsShape", unfollowed := true, recurses := true, loops := true, apart := false, narrowed := true }
def BallsShapeUptoSaid : Prop := ballsShapeUptoRow.holds Try.pinned (OpenSpec.upto ballsShapeSpec)

/-- 'hornbeamlaw06.BallsMake', WHERE WHAT IT READS IS OF BULK AT MOST 1048576: true; the input reads as it did. -/
def ballsMakeUptoRow : OpenClaim := { program := "ytloekfnlidclcaa", sum := "f8cf0d9af7a0a91f60ac9187bfd321e7080939a9eb3b294a35dd2827fd5a5916", func := "hornbeam/hornbeamlaw06.BallsMake", spec := "ballsMake", unfollowed := true, recurses := true, loops := true, apart := false, narrowed := true }
def BallsMakeUptoSaid : Prop := ballsMakeUptoRow.holds Try.pinned (OpenSpec.upto ballsMakeSpec)

/-- 'hornbeamlaw06.BallsParts', WHERE WHAT IT READS IS OF BULK AT MOST 1048576: true; the input reads as it did. -/
def ballsPartsUptoRow : OpenClaim := { program := "ytloekfnlidclcaa", sum := "f8cf0d9af7a0a91f60ac9187bfd321e7080939a9eb3b294a35dd2827fd5a5916", func := "hornbeam/hornbeamlaw06.BallsParts", spec := "ballsParts", unfollowed := true, recurses := true, loops := true, apart := false, narrowed := true }
def BallsPartsUptoSaid : Prop := ballsPartsUptoRow.holds Try.pinned (OpenSpec.upto ballsPartsSpec)

/-- 'hornbeamlaw06.BallsKnown', WHERE WHAT IT READS IS OF BULK AT MOST 1048576: true; the input reads as it did. -/
def ballsKnownUptoRow : OpenClaim := { program := "ytloekfnlidclcaa", sum := "f8cf0d9af7a0a91f60ac9187bfd321e7080939a9eb3b294a35dd2827fd5a5916", func := "hornbeam/hornbeamlaw06.BallsKnown", spec := "ballsKnown", unfollowed := true, recurses := true, apart := false, narrowed := true }
def BallsKnownUptoSaid : Prop := ballsKnownUptoRow.holds Try.pinned (OpenSpec.upto ballsKnownSpec)

/-- 'hornbeamlaw06.BallsKinds', WHERE WHAT IT READS IS OF BULK AT MOST 1048576: true; the input reads as it did. -/
def ballsKindsUptoRow : OpenClaim := { program := "ytloekfnlidclcaa", sum := "f8cf0d9af7a0a91f60ac9187bfd321e7080939a9eb3b294a35dd2827fd5a5916", func := "hornbeam/hornbeamlaw06.BallsKinds", spec := "ballsKinds", unfollowed := true, recurses := true, loops := true, apart := false, narrowed := true }
def BallsKindsUptoSaid : Prop := ballsKindsUptoRow.holds Try.pinned (OpenSpec.upto ballsKindsSpec)

/-- 'hornbeamlaw06.BallsChecks', WHERE WHAT IT READS IS OF BULK AT MOST 1048576: true; the input reads as it did. -/
def ballsChecksUptoRow : OpenClaim := { program := "ytloekfnlidclcaa", sum := "f8cf0d9af7a0a91f60ac9187bfd321e7080939a9eb3b294a35dd2827fd5a5916", func := "hornbeam/hornbeamlaw06.BallsChecks", spec := "ballsChecks", unfollowed := true, recurses := true, loops := true, apart := false, narrowed := true }
def BallsChecksUptoSaid : Prop := ballsChecksUptoRow.holds Try.pinned (OpenSpec.upto ballsChecksSpec)

end Rows
end Go.Proofs.Ytloekfnlidclcaa
