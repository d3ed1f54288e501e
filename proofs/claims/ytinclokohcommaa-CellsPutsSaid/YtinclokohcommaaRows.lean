/-
  NARROWER THAN 'FOR EVERY INPUT', by the rows' own cells (each row's printed sentence says how): CellsPuts: loops · CellsShared: loops · CellsFull: loops · CellsBack: loops · CellsGiven: loops.
  DERIVED. THE GIVEN ROWS OF THIS SEAT. 10 by the template 'for every input the law returns true; each argument reads behind the call as it read before'; 0 by the template 'total and deterministic' (their statements: YtinclokohcommaaTotals.lean).
  GIVEN WITH THE SEED: the statements are not yours to turn. If you find one false, say at which input.
  Laid BY PROGRAM, IN A SANDBOX (cutbox-rows.mjs): the forced cells as the released guide's own fill.sh prints them over the translation c4e48c69dff85735… (all of the seat's roots in one cut). By AI agents, Wed Nov 11 2026. No macro, syntax, notation, axiom, sorry.
-/
import Derived.Test.YtinclokohcommaaChecked
import GoSem.Claim
import GoSem.ClaimJoined
import GoSem.ClaimMapViews
import Derived.JoinedTies
import Derived.KernelRfl
namespace Go.Proofs.Ytinclokohcommaa
/- THE CELL 'sum', in the pinned program and in every row, IS THE sha256 OF THE DUMP (.gsa) THAT YtinclokohcommaaProg.lean LOADS. Nothing in Lean hashes anything: it is a label: what it is worth is what the hold of that sum in a sandbox is worth. -/
noncomputable def Try.pinned : Pinned := { name := "ytinclokohcommaa", sum := "c4e48c69dff8573532944e4eef4a2352fbe026fec6e753d1ca5379426fc6fa96", checked := Try.checked }
namespace Rows
def none {H : Type} : Left H := { results := [], args := [] }

/-- 'hornbeamlaw30.CellsAdd': WHATEVER THE INPUT: true; the input reads as it did. -/
def cellsAddSpec : ChangeSpec := { name := "cellsAdd", fn := fun _ => fun
  | [d1, d2, d3] => { results := [.lit (.bool true)], args := [d1, d2, d3] }
  | _ => none }
def cellsAddRow : OpenClaim := { program := "ytinclokohcommaa", sum := "c4e48c69dff8573532944e4eef4a2352fbe026fec6e753d1ca5379426fc6fa96", func := "hornbeam/hornbeamlaw30.CellsAdd", spec := "cellsAdd", inPlace := ["slices.overlaps[hornbeam/api.VarCell]"], unfollowed := true, recurses := true, plainKeys := false, apart := false }
def CellsAddSaid : Prop := cellsAddRow.holds Try.pinned (OpenSpec.ofChange cellsAddSpec)

/-- ITS FALSE NEIGHBOUR: 'it returns false'. Refute it at one input. -/
def cellsAddWrong : ChangeSpec := { name := "cellsAdd", fn := fun _ => fun
  | [d1, d2, d3] => { results := [.lit (.bool false)], args := [d1, d2, d3] }
  | _ => none }
def CellsAddWrongFalsely : Prop := cellsAddRow.holds Try.pinned (OpenSpec.ofChange cellsAddWrong)

/-- 'hornbeamlaw30.CellsPuts': WHATEVER THE INPUT: true; the input reads as it did. -/
def cellsPutsSpec : ChangeSpec := { name := "cellsPuts", fn := fun _ => fun
  | [d1, d2, d3] => { results := [.lit (.bool true)], args := [d1, d2, d3] }
  | _ => none }
def cellsPutsRow : OpenClaim := { program := "ytinclokohcommaa", sum := "c4e48c69dff8573532944e4eef4a2352fbe026fec6e753d1ca5379426fc6fa96", func := "hornbeam/hornbeamlaw30.CellsPuts", spec := "cellsPuts", inPlace := ["slices.overlaps[hornbeam/api.VarCell]"], unfollowed := true, recurses := true, loops := true, plainKeys := false, apart := false }
def CellsPutsSaid : Prop := cellsPutsRow.holds Try.pinned (OpenSpec.ofChange cellsPutsSpec)

/-- ITS FALSE NEIGHBOUR: 'it returns false'. Refute it at one input. -/
def cellsPutsWrong : ChangeSpec := { name := "cellsPuts", fn := fun _ => fun
  | [d1, d2, d3] => { results := [.lit (.bool false)], args := [d1, d2, d3] }
  | _ => none }
def CellsPutsWrongFalsely : Prop := cellsPutsRow.holds Try.pinned (OpenSpec.ofChange cellsPutsWrong)

/-- 'hornbeamlaw30.CellsGets': WHATEVER THE INPUT: true; the input reads as it did. -/
def cellsGetsSpec : ChangeSpec := { name := "cellsGets", fn := fun _ => fun
  | [d1, d2] => { results := [.lit (.bool true)], args := [d1, d2] }
  | _ => none }
def cellsGetsRow : OpenClaim := { program := "ytinclokohcommaa", sum := "c4e48c69dff8573532944e4eef4a2352fbe026fec6e753d1ca5379426fc6fa96", func := "hornbeam/hornbeamlaw30.CellsGets", spec := "cellsGets", inPlace := ["slices.overlaps[hornbeam/api.VarCell]"], unfollowed := true, recurses := true, plainKeys := false, apart := false }
def CellsGetsSaid : Prop := cellsGetsRow.holds Try.pinned (OpenSpec.ofChange cellsGetsSpec)

/-- ITS FALSE NEIGHBOUR: 'it returns false'. Refute it at one input. -/
def cellsGetsWrong : ChangeSpec := { name := "cellsGets", fn := fun _ => fun
  | [d1, d2] => { results := [.lit (.bool false)], args := [d1, d2] }
  | _ => none }
def CellsGetsWrongFalsely : Prop := cellsGetsRow.holds Try.pinned (OpenSpec.ofChange cellsGetsWrong)

/-- 'hornbeamlaw30.CellsShared': WHATEVER THE INPUT: true; the input reads as it did. -/
def cellsSharedSpec : ChangeSpec := { name := "cellsShared", fn := fun _ => fun
  | [d1, d2, d3] => { results := [.lit (.bool true)], args := [d1, d2, d3] }
  | _ => none }
def cellsSharedRow : OpenClaim := { program := "ytinclokohcommaa", sum := "c4e48c69dff8573532944e4eef4a2352fbe026fec6e753d1ca5379426fc6fa96", func := "hornbeam/hornbeamlaw30.CellsShared", spec := "cellsShared", inPlace := ["slices.overlaps[hornbeam/api.VarCell]"], unfollowed := true, recurses := true, loops := true, plainKeys := false, apart := false }
def CellsSharedSaid : Prop := cellsSharedRow.holds Try.pinned (OpenSpec.ofChange cellsSharedSpec)

/-- ITS FALSE NEIGHBOUR: 'it returns false'. Refute it at one input. -/
def cellsSharedWrong : ChangeSpec := { name := "cellsShared", fn := fun _ => fun
  | [d1, d2, d3] => { results := [.lit (.bool false)], args := [d1, d2, d3] }
  | _ => none }
def CellsSharedWrongFalsely : Prop := cellsSharedRow.holds Try.pinned (OpenSpec.ofChange cellsSharedWrong)

/-- 'hornbeamlaw30.CellsFull': WHATEVER THE INPUT: true; the input reads as it did. -/
def cellsFullSpec : ChangeSpec := { name := "cellsFull", fn := fun _ => fun
  | [d] => { results := [.lit (.bool true)], args := [d] }
  | _ => none }
def cellsFullRow : OpenClaim := { program := "ytinclokohcommaa", sum := "c4e48c69dff8573532944e4eef4a2352fbe026fec6e753d1ca5379426fc6fa96", func := "hornbeam/hornbeamlaw30.CellsFull", spec := "cellsFull", inPlace := ["slices.overlaps[hornbeam/api.VarCell]"], unfollowed := true, recurses := true, loops := true, plainKeys := false, apart := false }
def CellsFullSaid : Prop := cellsFullRow.holds Try.pinned (OpenSpec.ofChange cellsFullSpec)

/-- ITS FALSE NEIGHBOUR: 'it returns false'. Refute it at one input. -/
def cellsFullWrong : ChangeSpec := { name := "cellsFull", fn := fun _ => fun
  | [d] => { results := [.lit (.bool false)], args := [d] }
  | _ => none }
def CellsFullWrongFalsely : Prop := cellsFullRow.holds Try.pinned (OpenSpec.ofChange cellsFullWrong)

/-- 'hornbeamlaw30.CellsEqual': WHATEVER THE INPUT: true; the input reads as it did. -/
def cellsEqualSpec : ChangeSpec := { name := "cellsEqual", fn := fun _ => fun
  | [d1, d2] => { results := [.lit (.bool true)], args := [d1, d2] }
  | _ => none }
def cellsEqualRow : OpenClaim := { program := "ytinclokohcommaa", sum := "c4e48c69dff8573532944e4eef4a2352fbe026fec6e753d1ca5379426fc6fa96", func := "hornbeam/hornbeamlaw30.CellsEqual", spec := "cellsEqual", inPlace := ["slices.overlaps[hornbeam/api.VarCell]"], unfollowed := true, recurses := true, plainKeys := false, apart := false }
def CellsEqualSaid : Prop := cellsEqualRow.holds Try.pinned (OpenSpec.ofChange cellsEqualSpec)

/-- ITS FALSE NEIGHBOUR: 'it returns false'. Refute it at one input. -/
def cellsEqualWrong : ChangeSpec := { name := "cellsEqual", fn := fun _ => fun
  | [d1, d2] => { results := [.lit (.bool false)], args := [d1, d2] }
  | _ => none }
def CellsEqualWrongFalsely : Prop := cellsEqualRow.holds Try.pinned (OpenSpec.ofChange cellsEqualWrong)

/-- 'hornbeamlaw30.CellsBack': WHATEVER THE INPUT: true; the input reads as it did. -/
def cellsBackSpec : ChangeSpec := { name := "cellsBack", fn := fun _ => fun
  | [d1, d2] => { results := [.lit (.bool true)], args := [d1, d2] }
  | _ => none }
def cellsBackRow : OpenClaim := { program := "ytinclokohcommaa", sum := "c4e48c69dff8573532944e4eef4a2352fbe026fec6e753d1ca5379426fc6fa96", func := "hornbeam/hornbeamlaw30.CellsBack", spec := "cellsBack", inPlace := ["slices.overlaps[hornbeam/api.VarCell]"], unfollowed := true, recurses := true, loops := true, plainKeys := false, apart := false }
def CellsBackSaid : Prop := cellsBackRow.holds Try.pinned (OpenSpec.ofChange cellsBackSpec)

/-- ITS FALSE NEIGHBOUR: 'it returns false'. Refute it at one input. -/
def cellsBackWrong : ChangeSpec := { name := "cellsBack", fn := fun _ => fun
  | [d1, d2] => { results := [.lit (.bool false)], args := [d1, d2] }
  | _ => none }
def CellsBackWrongFalsely : Prop := cellsBackRow.holds Try.pinned (OpenSpec.ofChange cellsBackWrong)

/-- 'hornbeamlaw30.CellsGiven': WHATEVER THE INPUT: true; the input reads as it did. -/
def cellsGivenSpec : ChangeSpec := { name := "cellsGiven", fn := fun _ => fun
  | [d1, d2, d3] => { results := [.lit (.bool true)], args := [d1, d2, d3] }
  | _ => none }
def cellsGivenRow : OpenClaim := { program := "ytinclokohcommaa", sum := "c4e48c69dff8573532944e4eef4a2352fbe026fec6e753d1ca5379426fc6fa96", func := "hornbeam/hornbeamlaw30.CellsGiven", spec := "cellsGiven", inPlace := ["slices.overlaps[hornbeam/api.VarCell]"], unfollowed := true, recurses := true, loops := true, plainKeys := false, apart := false }
def CellsGivenSaid : Prop := cellsGivenRow.holds Try.pinned (OpenSpec.ofChange cellsGivenSpec)

/-- ITS FALSE NEIGHBOUR: 'it returns false'. Refute it at one input. -/
def cellsGivenWrong : ChangeSpec := { name := "cellsGiven", fn := fun _ => fun
  | [d1, d2, d3] => { results := [.lit (.bool false)], args := [d1, d2, d3] }
  | _ => none }
def CellsGivenWrongFalsely : Prop := cellsGivenRow.holds Try.pinned (OpenSpec.ofChange cellsGivenWrong)

/-- 'hornbeamlaw30.CellsKnown': WHATEVER THE INPUT: true; the input reads as it did. -/
def cellsKnownSpec : ChangeSpec := { name := "cellsKnown", fn := fun _ => fun
  | [] => { results := [.lit (.bool true)], args := [] }
  | _ => none }
def cellsKnownRow : OpenClaim := { program := "ytinclokohcommaa", sum := "c4e48c69dff8573532944e4eef4a2352fbe026fec6e753d1ca5379426fc6fa96", func := "hornbeam/hornbeamlaw30.CellsKnown", spec := "cellsKnown", inPlace := ["slices.overlaps[hornbeam/api.VarCell]"], unfollowed := true, recurses := true, plainKeys := false, apart := false }
def CellsKnownSaid : Prop := cellsKnownRow.holds Try.pinned (OpenSpec.ofChange cellsKnownSpec)

/-- ITS FALSE NEIGHBOUR: 'it returns false'. Refute it at one input. -/
def cellsKnownWrong : ChangeSpec := { name := "cellsKnown", fn := fun _ => fun
  | [] => { results := [.lit (.bool false)], args := [] }
  | _ => none }
def CellsKnownWrongFalsely : Prop := cellsKnownRow.holds Try.pinned (OpenSpec.ofChange cellsKnownWrong)

/-- 'hornbeamlaw30.CellsValid': WHATEVER THE INPUT: true; the input reads as it did. -/
def cellsValidSpec : ChangeSpec := { name := "cellsValid", fn := fun _ => fun
  | [d1, d2, d3] => { results := [.lit (.bool true)], args := [d1, d2, d3] }
  | _ => none }
def cellsValidRow : OpenClaim := { program := "ytinclokohcommaa", sum := "c4e48c69dff8573532944e4eef4a2352fbe026fec6e753d1ca5379426fc6fa96", func := "hornbeam/hornbeamlaw30.CellsValid", spec := "cellsValid", inPlace := ["slices.overlaps[hornbeam/api.VarCell]"], unfollowed := true, recurses := true, plainKeys := false, apart := false }
def CellsValidSaid : Prop := cellsValidRow.holds Try.pinned (OpenSpec.ofChange cellsValidSpec)

/-- ITS FALSE NEIGHBOUR: 'it returns false'. Refute it at one input. -/
def cellsValidWrong : ChangeSpec := { name := "cellsValid", fn := fun _ => fun
  | [d1, d2, d3] => { results := [.lit (.bool false)], args := [d1, d2, d3] }
  | _ => none }
def CellsValidWrongFalsely : Prop := cellsValidRow.holds Try.pinned (OpenSpec.ofChange cellsValidWrong)

/- THE SECOND FORM. 'bulk': how many values and letters a reading holds, each counted each time it is reached (what is shared counts as often as it is met; a slice's spare places count too). A statement '..UptoSaid' is the law's where the arguments, and the package variables that the reading takes, are together of bulk at most 1048576: NARROWER than '..Said'. Prove '..Said' where nothing that the law and all that it calls make is longer than what came in: it says more and counts as full. Else prove '..UptoSaid'. A law counts once. -/
mutual
def uptoBulk {H : Type} : DataW H → Nat
  | .lit (.string bytes) => bytes.length + 1
  | .lit _ => 1
  | .nil => 1
  | .ptr d => uptoBulk d + 1
  | .slice elems spare => uptoBulkAll elems + uptoBulkAll spare + 1
  | .agg parts => uptoBulkAll parts + 1
  | .iface _ d => uptoBulk d + 1
  | .map entries => uptoBulkEntries entries + 1
  | .held _ => 1
def uptoBulkAll {H : Type} : List (DataW H) → Nat
  | [] => 0
  | d :: r => uptoBulk d + uptoBulkAll r
def uptoBulkEntries {H : Type} : List (Lit × DataW H) → Nat
  | [] => 0
  | x :: r => uptoBulkEntry x + uptoBulkEntries r
def uptoBulkEntry {H : Type} : Lit × DataW H → Nat
  | (.string bytes, d) => bytes.length + uptoBulk d + 1
  | (_, d) => uptoBulk d + 1
 end
def uptoSmall : (H : Type) → List (DataW H) → Bool := fun _ ds => decide (uptoBulkAll ds ≤ 1048576)
def OpenSpec.upto (s : _root_.Go.ChangeSpec) : _root_.Go.OpenSpec := { _root_.Go.OpenSpec.ofChange s with cond := some uptoSmall }

/-- 'hornbeamlaw30.CellsAdd', WHERE WHAT IT READS IS OF BULK AT MOST 1048576: true; the input reads as it did. -/
def cellsAddUptoRow : OpenClaim := { program := "ytinclokohcommaa", sum := "c4e48c69dff8573532944e4eef4a2352fbe026fec6e753d1ca5379426fc6fa96", func := "hornbeam/hornbeamlaw30.CellsAdd", spec := "cellsAdd", inPlace := ["slices.overlaps[hornbeam/api.VarCell]"], unfollowed := true, recurses := true, plainKeys := false, apart := false, narrowed := true }
def CellsAddUptoSaid : Prop := cellsAddUptoRow.holds Try.pinned (OpenSpec.upto cellsAddSpec)

/-- 'hornbeamlaw30.CellsPuts', WHERE WHAT IT READS IS OF BULK AT MOST 1048576: true; the input reads as it did. -/
def cellsPutsUptoRow : OpenClaim := { program := "ytinclokohcommaa", sum := "c4e48c69dff8573532944e4eef4a2352fbe026fec6e753d1ca5379426fc6fa96", func := "hornbeam/hornbeamlaw30.CellsPuts", spec := "cellsPuts", inPlace := ["slices.overlaps[hornbeam/api.VarCell]"], unfollowed := true, recurses := true, loops := true, plainKeys := false, apart := false, narrowed := true }
def CellsPutsUptoSaid : Prop := cellsPutsUptoRow.holds Try.pinned (OpenSpec.upto cellsPutsSpec)

/-- 'hornbeamlaw30.CellsGets', WHERE WHAT IT READS IS OF BULK AT MOST 1048576: true; the input reads as it did. -/
def cellsGetsUptoRow : OpenClaim := { program := "ytinclokohcommaa", sum := "c4e48c69dff8573532944e4eef4a2352fbe026fec6e753d1ca5379426fc6fa96", func := "hornbeam/hornbeamlaw30.CellsGets", spec := "cellsGets", inPlace := ["slices.overlaps[hornbeam/api.VarCell]"], unfollowed := true, recurses := true, plainKeys := false, apart := false, narrowed := true }
def CellsGetsUptoSaid : Prop := cellsGetsUptoRow.holds Try.pinned (OpenSpec.upto cellsGetsSpec)

/-- 'hornbeamlaw30.CellsShared', WHERE WHAT IT READS IS OF BULK AT MOST 1048576: true; the input reads as it did. -/
def cellsSharedUptoRow : OpenClaim := { program := "ytinclokohcommaa", sum := "c4e48c69dff8573532944e4eef4a2352fbe026fec6e753d1ca5379426fc6fa96", func := "hornbeam/hornbeamlaw30.CellsShared", spec := "cellsShared", inPlace := ["slices.overlaps[hornbeam/api.VarCell]"], unfollowed := true, recurses := true, loops := true, plainKeys := false, apart := false, narrowed := true }
def CellsSharedUptoSaid : Prop := cellsSharedUptoRow.holds Try.pinned (OpenSpec.upto cellsSharedSpec)

/-- 'hornbeamlaw30.CellsFull', WHERE WHAT IT READS IS OF BULK AT MOST 1048576: true; the input reads as it did. -/
def cellsFullUptoRow : OpenClaim := { program := "ytinclokohcommaa", sum := "c4e48c69dff8573532944e4eef4a2352fbe026fec6e753d1ca5379426fc6fa96", func := "hornbeam/hornbeamlaw30.CellsFull", spec := "cellsFull", inPlace := ["slices.overlaps[hornbeam/api.VarCell]"], unfollowed := true, recurses := true, loops := true, plainKeys := false, apart := false, narrowed := true }
def CellsFullUptoSaid : Prop := cellsFullUptoRow.holds Try.pinned (OpenSpec.upto cellsFullSpec)

/-- 'hornbeamlaw30.CellsEqual', WHERE WHAT IT READS IS OF BULK AT MOST 1048576: true; the input reads as it did. -/
def cellsEqualUptoRow : OpenClaim := { program := "ytinclokohcommaa", sum := "c4e48c69dff8573532944e4eef4a2352fbe026fec6e753d1ca5379426fc6fa96", func := "hornbeam/hornbeamlaw30.CellsEqual", spec := "cellsEqual", inPlace := ["slices.overlaps[hornbeam/api.VarCell]"], unfollowed := true, recurses := true, plainKeys := false, apart := false, narrowed := true }
def CellsEqualUptoSaid : Prop := cellsEqualUptoRow.holds Try.pinned (OpenSpec.upto cellsEqualSpec)

/-- 'hornbeamlaw30.CellsBack', WHERE WHAT IT READS IS OF BULK AT MOST 1048576: true; the input reads as it did. -/
def cellsBackUptoRow : OpenClaim := { program := "ytinclokohcommaa", sum := "c4e48c69dff8573532944e4eef4a2352fbe026fec6e753d1ca5379426fc6fa96", func := "hornbeam/hornbeamlaw30.CellsBack", spec := "cellsBack", inPlace := ["slices.overlaps[hornbeam/api.VarCell]"], unfollowed := true, recurses := true, loops := true, plainKeys := false, apart := false, narrowed := true }
def CellsBackUptoSaid : Prop := cellsBackUptoRow.holds Try.pinned (OpenSpec.upto cellsBackSpec)

/-- 'hornbeamlaw30.CellsGiven', WHERE WHAT IT READS IS OF BULK AT MOST 1048576: true; the input reads as it did. -/
def cellsGivenUptoRow : OpenClaim := { program := "ytinclokohcommaa", sum := "c4e48c69dff8573532944e4eef4a2352fbe026fec6e753d1ca5379426fc6fa96", func := "hornbeam/hornbeamlaw30.CellsGiven", spec := "cellsGiven", inPlace := ["slices.overlaps[hornbeam/api.VarCell]"], unfollowed := true, recurses := true, loops := true, plainKeys := false, apart := false, narrowed := true }
def CellsGivenUptoSaid : Prop := cellsGivenUptoRow.holds Try.pinned (OpenSpec.upto cellsGivenSpec)

/-- 'hornbeamlaw30.CellsKnown', WHERE WHAT IT READS IS OF BULK AT MOST 1048576: true; the input reads as it did. -/
def cellsKnownUptoRow : OpenClaim := { program := "ytinclokohcommaa", sum := "c4e48c69dff8573532944e4eef4a2352fbe026fec6e753d1ca5379426fc6fa96", func := "hornbeam/hornbeamlaw30.CellsKnown", spec := "cellsKnown", inPlace := ["slices.overlaps[hornbeam/api.VarCell]"], unfollowed := true, recurses := true, plainKeys := false, apart := false, narrowed := true }
def CellsKnownUptoSaid : Prop := cellsKnownUptoRow.holds Try.pinned (OpenSpec.upto cellsKnownSpec)

/-- 'hornbeamlaw30.CellsValid', WHERE WHAT IT READS IS OF BULK AT MOST 1048576: true; the input reads as it did. -/
def cellsValidUptoRow : OpenClaim := { program := "ytinclokohcommaa", sum := "c4e48c69dff8573532944e4eef4a2352fbe026fec6e753d1ca5379426fc6fa96", func := "hornbeam/hornbeamlaw30.CellsValid", spec := "cellsValid", inPlace := ["slices.overlaps[hornbeam/api.VarCell]"], unfollowed := true, recurses := true, plainKeys := false, apart := false, narrowed := true }
def CellsValidUptoSaid : Prop := cellsValidUptoRow.holds Try.pinned (OpenSpec.upto cellsValidSpec)

end Rows
end Go.Proofs.Ytinclokohcommaa
