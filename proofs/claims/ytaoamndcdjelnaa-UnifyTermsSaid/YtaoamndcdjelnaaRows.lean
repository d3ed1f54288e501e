/-
  NARROWER THAN 'FOR EVERY INPUT', by the rows' own cells (each row's printed sentence says how): UnifyTerms: loops.
  DERIVED. THE GIVEN ROWS OF THIS SEAT. 4 by the template 'for every input the law returns true; each argument reads behind the call as it read before'; 0 by the template 'total and deterministic' (their statements: YtaoamndcdjelnaaTotals.lean).
  GIVEN WITH THE SEED: the statements are not yours to turn. If you find one false, say at which input.
  Laid BY PROGRAM, IN A SANDBOX (cutbox-rows.mjs): the forced cells as the released guide's own fill.sh prints them over the translation c81fcb4c81cd7c59… (all of the seat's roots in one cut). By AI agents, Wed Nov 11 2026. No macro, syntax, notation, axiom, sorry.
-/
import Derived.Test.YtaoamndcdjelnaaChecked
import GoSem.Claim
import GoSem.ClaimJoined
import GoSem.ClaimMapViews
import Derived.JoinedTies
import Derived.KernelRfl
namespace Go.Proofs.Ytaoamndcdjelnaa
/- THE CELL 'sum', in the pinned program and in every row, IS THE sha256 OF THE DUMP (.gsa) THAT YtaoamndcdjelnaaProg.lean LOADS. Nothing in Lean hashes anything: it is a label: what it is worth is what the hold of that sum in a sandbox is worth. -/
noncomputable def Try.pinned : Pinned := { name := "ytaoamndcdjelnaa", sum := "c81fcb4c81cd7c59477a4b16e6cc7a82f3207506deb8ef122de16f301e9f1666", checked := Try.checked }
namespace Rows
def none {H : Type} : Left H := { results := [], args := [] }

/-- 'hornbeamlaw33.UnifyCells': WHATEVER THE INPUT: true; the input reads as it did. -/
def unifyCellsSpec : ChangeSpec := { name := "unifyCells", fn := fun _ => fun
  | [d1, d2, d3] => { results := [.lit (.bool true)], args := [d1, d2, d3] }
  | _ => none }
def unifyCellsRow : OpenClaim := { program := "ytaoamndcdjelnaa", sum := "c81fcb4c81cd7c59477a4b16e6cc7a82f3207506deb8ef122de16f301e9f1666", func := "hornbeam/hornbeamlaw33.UnifyCells", spec := "unifyCells", unfollowed := true, recurses := true, plainKeys := false, apart := false }
def UnifyCellsSaid : Prop := unifyCellsRow.holds Try.pinned (OpenSpec.ofChange unifyCellsSpec)

/-- ITS FALSE NEIGHBOUR: 'it returns false'. Refute it at one input. -/
def unifyCellsWrong : ChangeSpec := { name := "unifyCells", fn := fun _ => fun
  | [d1, d2, d3] => { results := [.lit (.bool false)], args := [d1, d2, d3] }
  | _ => none }
def UnifyCellsWrongFalsely : Prop := unifyCellsRow.holds Try.pinned (OpenSpec.ofChange unifyCellsWrong)

/-- 'hornbeamlaw33.UnifySame': WHATEVER THE INPUT: true; the input reads as it did. -/
def unifySameSpec : ChangeSpec := { name := "unifySame", fn := fun _ => fun
  | [d1, d2, d3] => { results := [.lit (.bool true)], args := [d1, d2, d3] }
  | _ => none }
def unifySameRow : OpenClaim := { program := "ytaoamndcdjelnaa", sum := "c81fcb4c81cd7c59477a4b16e6cc7a82f3207506deb8ef122de16f301e9f1666", func := "hornbeam/hornbeamlaw33.UnifySame", spec := "unifySame", unfollowed := true, recurses := true, plainKeys := false, apart := false }
def UnifySameSaid : Prop := unifySameRow.holds Try.pinned (OpenSpec.ofChange unifySameSpec)

/-- ITS FALSE NEIGHBOUR: 'it returns false'. Refute it at one input. -/
def unifySameWrong : ChangeSpec := { name := "unifySame", fn := fun _ => fun
  | [d1, d2, d3] => { results := [.lit (.bool false)], args := [d1, d2, d3] }
  | _ => none }
def UnifySameWrongFalsely : Prop := unifySameRow.holds Try.pinned (OpenSpec.ofChange unifySameWrong)

/-- 'hornbeamlaw33.UnifyTurns': WHATEVER THE INPUT: true; the input reads as it did. -/
def unifyTurnsSpec : ChangeSpec := { name := "unifyTurns", fn := fun _ => fun
  | [d1, d2, d3] => { results := [.lit (.bool true)], args := [d1, d2, d3] }
  | _ => none }
def unifyTurnsRow : OpenClaim := { program := "ytaoamndcdjelnaa", sum := "c81fcb4c81cd7c59477a4b16e6cc7a82f3207506deb8ef122de16f301e9f1666", func := "hornbeam/hornbeamlaw33.UnifyTurns", spec := "unifyTurns", unfollowed := true, recurses := true, plainKeys := false, apart := false }
def UnifyTurnsSaid : Prop := unifyTurnsRow.holds Try.pinned (OpenSpec.ofChange unifyTurnsSpec)

/-- ITS FALSE NEIGHBOUR: 'it returns false'. Refute it at one input. -/
def unifyTurnsWrong : ChangeSpec := { name := "unifyTurns", fn := fun _ => fun
  | [d1, d2, d3] => { results := [.lit (.bool false)], args := [d1, d2, d3] }
  | _ => none }
def UnifyTurnsWrongFalsely : Prop := unifyTurnsRow.holds Try.pinned (OpenSpec.ofChange unifyTurnsWrong)

/-- 'hornbeamlaw33.UnifyTerms': WHATEVER THE INPUT: true; the input reads as it did. -/
def unifyTermsSpec : ChangeSpec := { name := "unifyTerms", fn := fun _ => fun
  | [d1, d2] => { results := [.lit (.bool true)], args := [d1, d2] }
  | _ => none }
def unifyTermsRow : OpenClaim := { program := "ytaoamndcdjelnaa", sum := "c81fcb4c81cd7c59477a4b16e6cc7a82f3207506deb8ef122de16f301e9f1666", func := "hornbeam/hornbeamlaw33.UnifyTerms", spec := "unifyTerms", unfollowed := true, recurses := true, loops := true, plainKeys := false, apart := false }
def UnifyTermsSaid : Prop := unifyTermsRow.holds Try.pinned (OpenSpec.ofChange unifyTermsSpec)

/-- ITS FALSE NEIGHBOUR: 'it returns false'. Refute it at one input. -/
def unifyTermsWrong : ChangeSpec := { name := "unifyTerms", fn := fun _ => fun
  | [d1, d2] => { results := [.lit (.bool false)], args := [d1, d2] }
  | _ => none }
def UnifyTermsWrongFalsely : Prop := unifyTermsRow.holds Try.pinned (OpenSpec.ofChange unifyTermsWrong)

/- THE SECOND FORM. 'bulk': how many values and letters a reading holds, each counted each time it is reached (what is shared counts as often as it is met; a slice's spare places count too). A statement '..UptoSaid' is the law's where the arguments, and the package variables that the reading takes, are together of bulk at most 1048576: NARROWER than '..Said'. Prove '..Said' where nothing that the law and all that it calls make is longer than what came in: it says more and counts as full. Else prove '..UptoSaid'. A law counts once. -/
mutual
def uptoBulk {H : Type} : DataW H → Nat
  | .lit (.string bytes) => bytes.length + 1
  | .lit _ => 1
  | .nil => 1
  | .ptr d => uptoBulk d + 1
  | .slice elems spare => uptoBulkAll elems + uptoBulkAll spare + 1
  | .agg parts => uptoBulkAll parts + 1
  | .iface _ d => uptoBulk d + 1
  | .map entries => uptoBulkEntries entries + 1
  | .held _ => 1
def uptoBulkAll {H : Type} : List (DataW H) → Nat
  | [] => 0
  | d :: r => uptoBulk d + uptoBulkAll r
def uptoBulkEntries {H : Type} : List (Lit × DataW H) → Nat
  | [] => 0
  | x :: r => uptoBulkEntry x + uptoBulkEntries r
def uptoBulkEntry {H : Type} : Lit × DataW H → Nat
  | (.string bytes, d) => bytes.length + uptoBulk d + 1
  | (_, d) => uptoBulk d + 1
 end
def uptoSmall : (H : Type) → List (DataW H) → Bool := fun _ ds => decide (uptoBulkAll ds ≤ 1048576)
def OpenSpec.upto (s : _root_.Go.ChangeSpec) : _root_.Go.OpenSpec := { _root_.Go.OpenSpec.ofChange s with cond := some uptoSmall }

/-- 'hornbeamlaw33.UnifyCells', WHERE WHAT IT READS IS OF BULK AT MOST 1048576: true; the input reads as it did. -/
def unifyCellsUptoRow : OpenClaim := { program := "ytaoamndcdjelnaa", sum := "c81fcb4c81cd7c59477a4b16e6cc7a82f3207506deb8ef122de16f301e9f1666", func := "hornbeam/hornbeamlaw33.UnifyCells", spec := "unifyCells", unfollowed := true, recurses := true, plainKeys := false, apart := false, narrowed := true }
def UnifyCellsUptoSaid : Prop := unifyCellsUptoRow.holds Try.pinned (OpenSpec.upto unifyCellsSpec)

/-- 'hornbeamlaw33.UnifySame', WHERE WHAT IT READS IS OF BULK AT MOST 1048576: true; the input reads as it did. -/
def unifySameUptoRow : OpenClaim := { program := "ytaoamndcdjelnaa", sum := "c81fcb4c81cd7c59477a4b16e6cc7a82f3207506deb8ef122de16f301e9f1666", func := "hornbeam/hornbeamlaw33.UnifySame", spec := "unifySame", unfollowed := true, recurses := true, plainKeys := false, apart := false, narrowed := true }
def UnifySameUptoSaid : Prop := unifySameUptoRow.holds Try.pinned (OpenSpec.upto unifySameSpec)

/-- 'hornbeamlaw33.UnifyTurns', WHERE WHAT IT READS IS OF BULK AT MOST 1048576: true; the input reads as it did. -/
def unifyTurnsUptoRow : OpenClaim := { program := "ytaoamndcdjelnaa", sum := "c81fcb4c81cd7c59477a4b16e6cc7a82f3207506deb8ef122de16f301e9f1666", func := "hornbeam/hornbeamlaw33.UnifyTurns", spec := "unifyTurns", unfollowed := true, recurses := true, plainKeys := false, apart := false, narrowed := true }
def UnifyTurnsUptoSaid : Prop := unifyTurnsUptoRow.holds Try.pinned (OpenSpec.upto unifyTurnsSpec)

/-- 'hornbeamlaw33.UnifyTerms', WHERE WHAT IT READS IS OF BULK AT MOST 1048576: true; the input reads as it did. -/
def unifyTermsUptoRow : OpenClaim := { program := "ytaoamndcdjelnaa", sum := "c81fcb4c81cd7c59477a4b16e6cc7a82f3207506deb8ef122de16f301e9f1666", func := "hornbeam/hornbeamlaw33.UnifyTerms", spec := "unifyTerms", unfollowed := true, recurses := true, loops := true, plainKeys := false, apart := false, narrowed := true }
def UnifyTermsUptoSaid : Prop := unifyTermsUptoRow.holds Try.pinned (OpenSpec.upto unifyTermsSpec)

end Rows
end Go.Proofs.Ytaoamndcdjelnaa
