/-
  NARROWER THAN 'FOR EVERY INPUT', by the rows' own cells (each row's printed sentence says how): FlatClauses: loops · FlatDefined: loops · FlatValid: loops.
  DERIVED. THE GIVEN ROWS OF THIS SEAT. 3 by the template 'for every input the law returns true; each argument reads behind the call as it read before'; 0 by the template 'total and deterministic' (their statements: YtbmaffphliignaaTotals.lean).
  GIVEN WITH THE SEED: the statements are not yours to turn. If you find one false, say at which input.
  Laid BY PROGRAM, IN A SANDBOX (cutbox-rows.mjs): the forced cells as the released guide's own fill.sh prints them over the translation 0b447839129e3567… (all of the seat's roots in one cut). By AI agents, Wed Nov 11 2026. No macro, syntax, notation, axiom, sorry.
-/
import Derived.Test.YtbmaffphliignaaChecked
import GoSem.Claim
import GoSem.ClaimJoined
import GoSem.ClaimMapViews
import Derived.JoinedTies
import Derived.KernelRfl
namespace Go.Proofs.Ytbmaffphliignaa
/- THE CELL 'sum', in the pinned program and in every row, IS THE sha256 OF THE DUMP (.gsa) THAT YtbmaffphliignaaProg.lean LOADS. Nothing in Lean hashes anything: it is a label: what it is worth is what the hold of that sum in a sandbox is worth. -/
noncomputable def Try.pinned : Pinned := { name := "ytbmaffphliignaa", sum := "0b447839129e3567ba6ba34c6de0be6b4ae7c69f17ec24347f5e022452eb46ef", checked := Try.checked }
namespace Rows
def none {H : Type} : Left H := { results := [], args := [] }

/-- 'hornbeamlaw24.FlatClauses': WHATEVER THE INPUT: true; the input reads as it did. -/
def flatClausesSpec : ChangeSpec := { name := "flatClauses", fn := fun _ => fun
  | [d1, d2, d3] => { results := [.lit (.bool true)], args := [d1, d2, d3] }
  | _ => none }
def flatClausesRow : OpenClaim := { program := "ytbmaffphliignaa", sum := "0b447839129e3567ba6ba34c6de0be6b4ae7c69f17ec24347f5e022452eb46ef", func := "hornbeam/hornbeamlaw24.FlatClauses", spec := "flatClauses", unfollowed := true, recurses := true, loops := true, apart := false }
def FlatClausesSaid : Prop := flatClausesRow.holds Try.pinned (OpenSpec.ofChange flatClausesSpec)

/-- ITS FALSE NEIGHBOUR: 'it returns false'. Refute it at one input. -/
def flatClausesWrong : ChangeSpec := { name := "flatClauses", fn := fun _ => fun
  | [d1, d2, d3] => { results := [.lit (.bool false)], args := [d1, d2, d3] }
  | _ => none }
def FlatClausesWrongFalsely : Prop := flatClausesRow.holds Try.pinned (OpenSpec.ofChange flatClausesWrong)

/-- 'hornbeamlaw24.FlatDefined': WHATEVER THE INPUT: true; the input reads as it did. -/
def flatDefinedSpec : ChangeSpec := { name := "flatDefined", fn := fun _ => fun
  | [d1, d2, d3] => { results := [.lit (.bool true)], args := [d1, d2, d3] }
  | _ => none }
def flatDefinedRow : OpenClaim := { program := "ytbmaffphliignaa", sum := "0b447839129e3567ba6ba34c6de0be6b4ae7c69f17ec24347f5e022452eb46ef", func := "hornbeam/hornbeamlaw24.FlatDefined", spec := "flatDefined", unfollowed := true, recurses := true, loops := true, apart := false }
def FlatDefinedSaid : Prop := flatDefinedRow.holds Try.pinned (OpenSpec.ofChange flatDefinedSpec)

/-- ITS FALSE NEIGHBOUR: 'it returns false'. Refute it at one input. -/
def flatDefinedWrong : ChangeSpec := { name := "flatDefined", fn := fun _ => fun
  | [d1, d2, d3] => { results := [.lit (.bool false)], args := [d1, d2, d3] }
  | _ => none }
def FlatDefinedWrongFalsely : Prop := flatDefinedRow.holds Try.pinned (OpenSpec.ofChange flatDefinedWrong)

/-- 'hornbeamlaw24.FlatValid': WHATEVER THE INPUT: true; the input reads as it did. -/
def flatValidSpec : ChangeSpec := { name := "flatValid", fn := fun _ => fun
  | [d1, d2] => { results := [.lit (.bool true)], args := [d1, d2] }
  | _ => none }
def flatValidRow : OpenClaim := { program := "ytbmaffphliignaa", sum := "0b447839129e3567ba6ba34c6de0be6b4ae7c69f17ec24347f5e022452eb46ef", func := "hornbeam/hornbeamlaw24.FlatValid", spec := "flatValid", unfollowed := true, recurses := true, loops := true, apart := false }
def FlatValidSaid : Prop := flatValidRow.holds Try.pinned (OpenSpec.ofChange flatValidSpec)

/-- ITS FALSE NEIGHBOUR: 'it returns false'. Refute it at one input. -/
def flatValidWrong : ChangeSpec := { name := "flatValid", fn := fun _ => fun
  | [d1, d2] => { results := [.lit (.bool false)], args := [d1, d2] }
  | _ => none }
def FlatValidWrongFalsely : Prop := flatValidRow.holds Try.pinned (OpenSpec.ofChange flatValidWrong)

/- THE SECOND FORM. 'bulk': how many values and letters a reading holds, each counted each time it is reached (what is shared counts as often as it is met; a slice's spare places count too). A statement '..UptoSaid' is the law's where the arguments, and the package variables that the reading takes, are together of bulk at most 1048576: NARROWER than '..Said'. Prove '..Said' where nothing that the law and all that it calls make is longer than what came in: it says more and counts as full. Else prove '..UptoSaid'. A law counts once. -/
mutual
def uptoBulk {H : Type} : DataW H → Nat
  | .lit (.string bytes) => bytes.length + 1
  | .lit _ => 1
  | .nil => 1
  | .ptr d => uptoBulk d + 1
  | .slice elems spare => uptoBulkAll elems + uptoBulkAll spare + 1
  | .agg parts => uptoBulkAll parts + 1
  | .iface _ d => uptoBulk d + 1
  | .map entries => uptoBulkEntries entries + 1
  | .held _ => 1
def uptoBulkAll {H : Type} : List (DataW H) → Nat
  | [] => 0
  | d :: r => uptoBulk d + uptoBulkAll r
def uptoBulkEntries {H : Type} : List (Lit × DataW H) → Nat
  | [] => 0
  | x :: r => uptoBulkEntry x + uptoBulkEntries r
def uptoBulkEntry {H : Type} : Lit × DataW H → Nat
  | (.string bytes, d) => bytes.length + uptoBulk d + 1
  | (_, d) => uptoBulk d + 1
 end
def uptoSmall : (H : Type) → List (DataW H) → Bool := fun _ ds => decide (uptoBulkAll ds ≤ 1048576)
def OpenSpec.upto (s : _root_.Go.ChangeSpec) : _root_.Go.OpenSpec := { _root_.Go.OpenSpec.ofChange s with cond := some uptoSmall }

/-- 'hornbeamlaw24.FlatClauses', WHERE WHAT IT READS IS OF BULK AT MOST 1048576: true; the input reads as it did. -/
def flatClausesUptoRow : OpenClaim := { program := "ytbmaffphliignaa", sum := "0b447839129e3567ba6ba34c6de0be6b4ae7c69f17ec24347f5e022452eb46ef", func := "hornbeam/hornbeamlaw24.FlatClauses", spec := "flatClauses", unfollowed := true, recurses := true, loops := true, apart := false, narrowed := true }
def FlatClausesUptoSaid : Prop := flatClausesUptoRow.holds Try.pinned (OpenSpec.upto flatClausesSpec)

/-- 'hornbeamlaw24.FlatDefined', WHERE WHAT IT READS IS OF BULK AT MOST 1048576: true; the input reads as it did. -/
def flatDefinedUptoRow : OpenClaim := { program := "ytbmaffphliignaa", sum := "0b447839129e3567ba6ba34c6de0be6b4ae7c69f17ec24347f5e022452eb46ef", func := "hornbeam/hornbeamlaw24.FlatDefined", spec := "flatDefined", unfollowed := true, recurses := true, loops := true, apart := false, narrowed := true }
def FlatDefinedUptoSaid : Prop := flatDefinedUptoRow.holds Try.pinned (OpenSpec.upto flatDefinedSpec)

/-- 'hornbeamlaw24.FlatValid', WHERE WHAT IT READS IS OF BULK AT MOST 1048576: true; the input reads as it did. -/
def flatValidUptoRow : OpenClaim := { program := "ytbmaffphliignaa", sum := "0b447839129e3567ba6ba34c6de0be6b4ae7c69f17ec24347f5e022452eb46ef", func := "hornbeam/hornbeamlaw24.FlatValid", spec := "flatValid", unfollowed := true, recurses := true, loops := true, apart := false, narrowed := true }
def FlatValidUptoSaid : Prop := flatValidUptoRow.holds Try.pinned (OpenSpec.upto flatValidSpec)

end Rows
end Go.Proofs.Ytbmaffphliignaa
