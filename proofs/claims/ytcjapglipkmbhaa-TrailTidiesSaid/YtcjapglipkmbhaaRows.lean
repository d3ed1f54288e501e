/-
  No cell of these rows narrows 'for every input' (looked for: loops, veiled, ifaces, maps, wideKeys, modest, calm, conditions, laid).
  DERIVED. THE GIVEN ROWS OF THIS SEAT. 5 by the template 'for every input the law returns true; each argument reads behind the call as it read before'; 0 by the template 'total and deterministic' (their statements: YtcjapglipkmbhaaTotals.lean).
  GIVEN WITH THE SEED: the statements are not yours to turn. If you find one false, say at which input.
  Laid BY PROGRAM, IN A SANDBOX (cutbox-rows.mjs): the forced cells as the released guide's own fill.sh prints them over the translation 3ce92447aa5f4cfd… (all of the seat's roots in one cut). By AI agents, Wed Nov 11 2026. No macro, syntax, notation, axiom, sorry.
-/
import Derived.Test.YtcjapglipkmbhaaChecked
import GoSem.Claim
import GoSem.ClaimJoined
import GoSem.ClaimMapViews
import Derived.JoinedTies
import Derived.KernelRfl
namespace Go.Proofs.Ytcjapglipkmbhaa
/- THE CELL 'sum', in the pinned program and in every row, IS THE sha256 OF THE DUMP (.gsa) THAT YtcjapglipkmbhaaProg.lean LOADS. Nothing in Lean hashes anything: it is a label: what it is worth is what the hold of that sum in a sandbox is worth. -/
noncomputable def Try.pinned : Pinned := { name := "ytcjapglipkmbhaa", sum := "3ce92447aa5f4cfd64f81e768dd40d587133e763ce9567a626171a668f333d60", checked := Try.checked }
namespace Rows
def none {H : Type} : Left H := { results := [], args := [] }

/-- 'hornbeamlaw31.TrailSets': WHATEVER THE INPUT: true; the input reads as it did. -/
def trailSetsSpec : ChangeSpec := { name := "trailSets", fn := fun _ => fun
  | [d1, d2, d3] => { results := [.lit (.bool true)], args := [d1, d2, d3] }
  | _ => none }
def trailSetsRow : OpenClaim := { program := "ytcjapglipkmbhaa", sum := "3ce92447aa5f4cfd64f81e768dd40d587133e763ce9567a626171a668f333d60", func := "hornbeam/hornbeamlaw31.TrailSets", spec := "trailSets", unfollowed := true, recurses := true, plainKeys := false, apart := false }
def TrailSetsSaid : Prop := trailSetsRow.holds Try.pinned (OpenSpec.ofChange trailSetsSpec)

/-- ITS FALSE NEIGHBOUR: 'it returns false'. Refute it at one input. -/
def trailSetsWrong : ChangeSpec := { name := "trailSets", fn := fun _ => fun
  | [d1, d2, d3] => { results := [.lit (.bool false)], args := [d1, d2, d3] }
  | _ => none }
def TrailSetsWrongFalsely : Prop := trailSetsRow.holds Try.pinned (OpenSpec.ofChange trailSetsWrong)

/-- 'hornbeamlaw31.TrailExamples': WHATEVER THE INPUT: true; the input reads as it did. -/
def trailExamplesSpec : ChangeSpec := { name := "trailExamples", fn := fun _ => fun
  | [] => { results := [.lit (.bool true)], args := [] }
  | _ => none }
def trailExamplesRow : OpenClaim := { program := "ytcjapglipkmbhaa", sum := "3ce92447aa5f4cfd64f81e768dd40d587133e763ce9567a626171a668f333d60", func := "hornbeam/hornbeamlaw31.TrailExamples", spec := "trailExamples", unfollowed := true, recurses := true, plainKeys := false, apart := false }
def TrailExamplesSaid : Prop := trailExamplesRow.holds Try.pinned (OpenSpec.ofChange trailExamplesSpec)

/-- ITS FALSE NEIGHBOUR: 'it returns false'. Refute it at one input. -/
def trailExamplesWrong : ChangeSpec := { name := "trailExamples", fn := fun _ => fun
  | [] => { results := [.lit (.bool false)], args := [] }
  | _ => none }
def TrailExamplesWrongFalsely : Prop := trailExamplesRow.holds Try.pinned (OpenSpec.ofChange trailExamplesWrong)

/-- 'hornbeamlaw31.TrailUndoes': WHATEVER THE INPUT: true; the input reads as it did. -/
def trailUndoesSpec : ChangeSpec := { name := "trailUndoes", fn := fun _ => fun
  | [d1, d2, d3] => { results := [.lit (.bool true)], args := [d1, d2, d3] }
  | _ => none }
def trailUndoesRow : OpenClaim := { program := "ytcjapglipkmbhaa", sum := "3ce92447aa5f4cfd64f81e768dd40d587133e763ce9567a626171a668f333d60", func := "hornbeam/hornbeamlaw31.TrailUndoes", spec := "trailUndoes", unfollowed := true, recurses := true, plainKeys := false, apart := false }
def TrailUndoesSaid : Prop := trailUndoesRow.holds Try.pinned (OpenSpec.ofChange trailUndoesSpec)

/-- ITS FALSE NEIGHBOUR: 'it returns false'. Refute it at one input. -/
def trailUndoesWrong : ChangeSpec := { name := "trailUndoes", fn := fun _ => fun
  | [d1, d2, d3] => { results := [.lit (.bool false)], args := [d1, d2, d3] }
  | _ => none }
def TrailUndoesWrongFalsely : Prop := trailUndoesRow.holds Try.pinned (OpenSpec.ofChange trailUndoesWrong)

/-- 'hornbeamlaw31.TrailNested': WHATEVER THE INPUT: true; the input reads as it did. -/
def trailNestedSpec : ChangeSpec := { name := "trailNested", fn := fun _ => fun
  | [d1, d2, d3, d4, d5] => { results := [.lit (.bool true)], args := [d1, d2, d3, d4, d5] }
  | _ => none }
def trailNestedRow : OpenClaim := { program := "ytcjapglipkmbhaa", sum := "3ce92447aa5f4cfd64f81e768dd40d587133e763ce9567a626171a668f333d60", func := "hornbeam/hornbeamlaw31.TrailNested", spec := "trailNested", unfollowed := true, recurses := true, plainKeys := false, apart := false }
def TrailNestedSaid : Prop := trailNestedRow.holds Try.pinned (OpenSpec.ofChange trailNestedSpec)

/-- ITS FALSE NEIGHBOUR: 'it returns false'. Refute it at one input. -/
def trailNestedWrong : ChangeSpec := { name := "trailNested", fn := fun _ => fun
  | [d1, d2, d3, d4, d5] => { results := [.lit (.bool false)], args := [d1, d2, d3, d4, d5] }
  | _ => none }
def TrailNestedWrongFalsely : Prop := trailNestedRow.holds Try.pinned (OpenSpec.ofChange trailNestedWrong)

/-- 'hornbeamlaw31.TrailTidies': WHATEVER THE INPUT: true; the input reads as it did. -/
def trailTidiesSpec : ChangeSpec := { name := "trailTidies", fn := fun _ => fun
  | [d1, d2, d3] => { results := [.lit (.bool true)], args := [d1, d2, d3] }
  | _ => none }
def trailTidiesRow : OpenClaim := { program := "ytcjapglipkmbhaa", sum := "3ce92447aa5f4cfd64f81e768dd40d587133e763ce9567a626171a668f333d60", func := "hornbeam/hornbeamlaw31.TrailTidies", spec := "trailTidies", unfollowed := true, recurses := true, plainKeys := false, apart := false }
def TrailTidiesSaid : Prop := trailTidiesRow.holds Try.pinned (OpenSpec.ofChange trailTidiesSpec)

/-- ITS FALSE NEIGHBOUR: 'it returns false'. Refute it at one input. -/
def trailTidiesWrong : ChangeSpec := { name := "trailTidies", fn := fun _ => fun
  | [d1, d2, d3] => { results := [.lit (.bool false)], args := [d1, d2, d3] }
  | _ => none }
def TrailTidiesWrongFalsely : Prop := trailTidiesRow.holds Try.pinned (OpenSpec.ofChange trailTidiesWrong)

/- THE SECOND FORM. 'bulk': how many values and letters a reading holds, each counted each time it is reached (what is shared counts as often as it is met; a slice's spare places count too). A statement '..UptoSaid' is the law's where the arguments, and the package variables that the reading takes, are together of bulk at most 1048576: NARROWER than '..Said'. Prove '..Said' where nothing that the law and all that it calls make is longer than what came in: it says more and counts as full. Else prove '..UptoSaid'. A law counts once. -/
mutual
def uptoBulk {H : Type} : DataW H → Nat
  | .lit (.string bytes) => bytes.length + 1
  | .lit _ => 1
  | .nil => 1
  | .ptr d => uptoBulk d + 1
  | .slice elems spare => uptoBulkAll elems + uptoBulkAll spare + 1
  | .agg parts => uptoBulkAll parts + 1
  | .iface _ d => uptoBulk d + 1
  | .map entries => uptoBulkEntries entries + 1
  | .held _ => 1
def uptoBulkAll {H : Type} : List (DataW H) → Nat
  | [] => 0
  | d :: r => uptoBulk d + uptoBulkAll r
def uptoBulkEntries {H : Type} : List (Lit × DataW H) → Nat
  | [] => 0
  | x :: r => uptoBulkEntry x + uptoBulkEntries r
def uptoBulkEntry {H : Type} : Lit × DataW H → Nat
  | (.string bytes, d) => bytes.length + uptoBulk d + 1
  | (_, d) => uptoBulk d + 1
 end
def uptoSmall : (H : Type) → List (DataW H) → Bool := fun _ ds => decide (uptoBulkAll ds ≤ 1048576)
def OpenSpec.upto (s : _root_.Go.ChangeSpec) : _root_.Go.OpenSpec := { _root_.Go.OpenSpec.ofChange s with cond := some uptoSmall }

/-- 'hornbeamlaw31.TrailSets', WHERE WHAT IT READS IS OF BULK AT MOST 1048576: true; the input reads as it did. -/
def trailSetsUptoRow : OpenClaim := { program := "ytcjapglipkmbhaa", sum := "3ce92447aa5f4cfd64f81e768dd40d587133e763ce9567a626171a668f333d60", func := "hornbeam/hornbeamlaw31.TrailSets", spec := "trailSets", unfollowed := true, recurses := true, plainKeys := false, apart := false, narrowed := true }
def TrailSetsUptoSaid : Prop := trailSetsUptoRow.holds Try.pinned (OpenSpec.upto trailSetsSpec)

/-- 'hornbeamlaw31.TrailExamples', WHERE WHAT IT READS IS OF BULK AT MOST 1048576: true; the input reads as it did. -/
def trailExamplesUptoRow : OpenClaim := { program := "ytcjapglipkmbhaa", sum := "3ce92447aa5f4cfd64f81e768dd40d587133e763ce9567a626171a668f333d60", func := "hornbeam/hornbeamlaw31.TrailExamples", spec := "trailExamples", unfollowed := true, recurses := true, plainKeys := false, apart := false, narrowed := true }
def TrailExamplesUptoSaid : Prop := trailExamplesUptoRow.holds Try.pinned (OpenSpec.upto trailExamplesSpec)

/-- 'hornbeamlaw31.TrailUndoes', WHERE WHAT IT READS IS OF BULK AT MOST 1048576: true; the input reads as it did. -/
def trailUndoesUptoRow : OpenClaim := { program := "ytcjapglipkmbhaa", sum := "3ce92447aa5f4cfd64f81e768dd40d587133e763ce9567a626171a668f333d60", func := "hornbeam/hornbeamlaw31.TrailUndoes", spec := "trailUndoes", unfollowed := true, recurses := true, plainKeys := false, apart := false, narrowed := true }
def TrailUndoesUptoSaid : Prop := trailUndoesUptoRow.holds Try.pinned (OpenSpec.upto trailUndoesSpec)

/-- 'hornbeamlaw31.TrailNested', WHERE WHAT IT READS IS OF BULK AT MOST 1048576: true; the input reads as it did. -/
def trailNestedUptoRow : OpenClaim := { program := "ytcjapglipkmbhaa", sum := "3ce92447aa5f4cfd64f81e768dd40d587133e763ce9567a626171a668f333d60", func := "hornbeam/hornbeamlaw31.TrailNested", spec := "trailNested", unfollowed := true, recurses := true, plainKeys := false, apart := false, narrowed := true }
def TrailNestedUptoSaid : Prop := trailNestedUptoRow.holds Try.pinned (OpenSpec.upto trailNestedSpec)

/-- 'hornbeamlaw31.TrailTidies', WHERE WHAT IT READS IS OF BULK AT MOST 1048576: true; the input reads as it did. -/
def trailTidiesUptoRow : OpenClaim := { program := "ytcjapglipkmbhaa", sum := "3ce92447aa5f4cfd64f81e768dd40d587133e763ce9567a626171a668f333d60", func := "hornbeam/hornbeamlaw31.TrailTidies", spec := "trailTidies", unfollowed := true, recurses := true, plainKeys := false, apart := false, narrowed := true }
def TrailTidiesUptoSaid : Prop := trailTidiesUptoRow.holds Try.pinned (OpenSpec.upto trailTidiesSpec)

end Rows
end Go.Proofs.Ytcjapglipkmbhaa
