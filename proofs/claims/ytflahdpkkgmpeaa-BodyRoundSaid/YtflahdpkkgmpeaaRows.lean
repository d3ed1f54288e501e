/-
  NARROWER THAN 'FOR EVERY INPUT', by the rows' own cells (each row's printed sentence says how): BodyGoals: loops · BodyCuts: loops · BodyClauses: loops · BodyAdds: loops · BodyConverted: loops · BodyTerms: loops · BodyRound: loops.
  DERIVED. THE GIVEN ROWS OF THIS SEAT. 7 by the template 'for every input the law returns true; each argument reads behind the call as it read before'; 0 by the template 'total and deterministic' (their statements: YtflahdpkkgmpeaaTotals.lean).
  GIVEN WITH THE SEED: the statements are not yours to turn. If you find one false, say at which input.
  Laid BY PROGRAM, IN A SANDBOX (cutbox-rows.mjs): the forced cells as the released guide's own fill.sh prints them over the translation 80f118b79b247d42… (all of the seat's roots in one cut). By AI agents, Wed Nov 11 2026. No macro, syntax, notation, axiom, sorry.
-/
import Derived.Test.YtflahdpkkgmpeaaChecked
import GoSem.Claim
import GoSem.ClaimJoined
import GoSem.ClaimMapViews
import Derived.JoinedTies
import Derived.KernelRfl
namespace Go.Proofs.Ytflahdpkkgmpeaa
/- THE CELL 'sum', in the pinned program and in every row, IS THE sha256 OF THE DUMP (.gsa) THAT YtflahdpkkgmpeaaProg.lean LOADS. Nothing in Lean hashes anything: it is a label: what it is worth is what the hold of that sum in a sandbox is worth. -/
noncomputable def Try.pinned : Pinned := { name := "ytflahdpkkgmpeaa", sum := "80f118b79b247d428ecbe62e09af2d7772db97dfcdb805864258897337723d92", checked := Try.checked }
namespace Rows
def none {H : Type} : Left H := { results := [], args := [] }

/-- 'hornbeamlaw16.BodyGoals': WHATEVER THE INPUT: true; the input reads as it did. -/
def bodyGoalsSpec : ChangeSpec := { name := "bodyGoals", fn := fun _ => fun
  | [d] => { results := [.lit (.bool true)], args := [d] }
  | _ => none }
def bodyGoalsRow : OpenClaim := { program := "ytflahdpkkgmpeaa", sum := "80f118b79b247d428ecbe62e09af2d7772db97dfcdb805864258897337723d92", func := "hornbeam/hornbeamlaw16.BodyGoals", spec := "bodyGoals", unfollowed := true, recurses := true, loops := true, apart := false }
def BodyGoalsSaid : Prop := bodyGoalsRow.holds Try.pinned (OpenSpec.ofChange bodyGoalsSpec)

/-- ITS FALSE NEIGHBOUR: 'it returns false'. Refute it at one input. -/
def bodyGoalsWrong : ChangeSpec := { name := "bodyGoals", fn := fun _ => fun
  | [d] => { results := [.lit (.bool false)], args := [d] }
  | _ => none }
def BodyGoalsWrongFalsely : Prop := bodyGoalsRow.holds Try.pinned (OpenSpec.ofChange bodyGoalsWrong)

/-- 'hornbeamlaw16.BodyCuts': WHATEVER THE INPUT: true; the input reads as it did. -/
def bodyCutsSpec : ChangeSpec := { name := "bodyCuts", fn := fun _ => fun
  | [d1, d2, d3] => { results := [.lit (.bool true)], args := [d1, d2, d3] }
  | _ => none }
def bodyCutsRow : OpenClaim := { program := "ytflahdpkkgmpeaa", sum := "80f118b79b247d428ecbe62e09af2d7772db97dfcdb805864258897337723d92", func := "hornbeam/hornbeamlaw16.BodyCuts", spec := "bodyCuts", unfollowed := true, recurses := true, loops := true, apart := false }
def BodyCutsSaid : Prop := bodyCutsRow.holds Try.pinned (OpenSpec.ofChange bodyCutsSpec)

/-- ITS FALSE NEIGHBOUR: 'it returns false'. Refute it at one input. -/
def bodyCutsWrong : ChangeSpec := { name := "bodyCuts", fn := fun _ => fun
  | [d1, d2, d3] => { results := [.lit (.bool false)], args := [d1, d2, d3] }
  | _ => none }
def BodyCutsWrongFalsely : Prop := bodyCutsRow.holds Try.pinned (OpenSpec.ofChange bodyCutsWrong)

/-- 'hornbeamlaw16.BodyClauses': WHATEVER THE INPUT: true; the input reads as it did. -/
def bodyClausesSpec : ChangeSpec := { name := "bodyClauses", fn := fun _ => fun
  | [d] => { results := [.lit (.bool true)], args := [d] }
  | _ => none }
def bodyClausesRow : OpenClaim := { program := "ytflahdpkkgmpeaa", sum := "80f118b79b247d428ecbe62e09af2d7772db97dfcdb805864258897337723d92", func := "hornbeam/hornbeamlaw16.BodyClauses", spec := "bodyClauses", unfollowed := true, recurses := true, loops := true, apart := false }
def BodyClausesSaid : Prop := bodyClausesRow.holds Try.pinned (OpenSpec.ofChange bodyClausesSpec)

/-- ITS FALSE NEIGHBOUR: 'it returns false'. Refute it at one input. -/
def bodyClausesWrong : ChangeSpec := { name := "bodyClauses", fn := fun _ => fun
  | [d] => { results := [.lit (.bool false)], args := [d] }
  | _ => none }
def BodyClausesWrongFalsely : Prop := bodyClausesRow.holds Try.pinned (OpenSpec.ofChange bodyClausesWrong)

/-- 'hornbeamlaw16.BodyAdds': WHATEVER THE INPUT: true; the input reads as it did. -/
def bodyAddsSpec : ChangeSpec := { name := "bodyAdds", fn := fun _ => fun
  | [d1, d2] => { results := [.lit (.bool true)], args := [d1, d2] }
  | _ => none }
def bodyAddsRow : OpenClaim := { program := "ytflahdpkkgmpeaa", sum := "80f118b79b247d428ecbe62e09af2d7772db97dfcdb805864258897337723d92", func := "hornbeam/hornbeamlaw16.BodyAdds", spec := "bodyAdds", unfollowed := true, recurses := true, loops := true, apart := false }
def BodyAddsSaid : Prop := bodyAddsRow.holds Try.pinned (OpenSpec.ofChange bodyAddsSpec)

/-- ITS FALSE NEIGHBOUR: 'it returns false'. Refute it at one input. -/
def bodyAddsWrong : ChangeSpec := { name := "bodyAdds", fn := fun _ => fun
  | [d1, d2] => { results := [.lit (.bool false)], args := [d1, d2] }
  | _ => none }
def BodyAddsWrongFalsely : Prop := bodyAddsRow.holds Try.pinned (OpenSpec.ofChange bodyAddsWrong)

/-- 'hornbeamlaw16.BodyConverted': WHATEVER THE INPUT: true; the input reads as it did. -/
def bodyConvertedSpec : ChangeSpec := { name := "bodyConverted", fn := fun _ => fun
  | [d] => { results := [.lit (.bool true)], args := [d] }
  | _ => none }
def bodyConvertedRow : OpenClaim := { program := "ytflahdpkkgmpeaa", sum := "80f118b79b247d428ecbe62e09af2d7772db97dfcdb805864258897337723d92", func := "hornbeam/hornbeamlaw16.BodyConverted", spec := "bodyConverted", unfollowed := true, recurses := true, loops := true, apart := false }
def BodyConvertedSaid : Prop := bodyConvertedRow.holds Try.pinned (OpenSpec.ofChange bodyConvertedSpec)

/-- ITS FALSE NEIGHBOUR: 'it returns false'. Refute it at one input. -/
def bodyConvertedWrong : ChangeSpec := { name := "bodyConverted", fn := fun _ => fun
  | [d] => { results := [.lit (.bool false)], args := [d] }
  | _ => none }
def BodyConvertedWrongFalsely : Prop := bodyConvertedRow.holds Try.pinned (OpenSpec.ofChange bodyConvertedWrong)

/-- 'hornbeamlaw16.BodyTerms': WHATEVER THE INPUT: true; the input reads as it did. -/
def bodyTermsSpec : ChangeSpec := { name := "bodyTerms", fn := fun _ => fun
  | [d] => { results := [.lit (.bool true)], args := [d] }
  | _ => none }
def bodyTermsRow : OpenClaim := { program := "ytflahdpkkgmpeaa", sum := "80f118b79b247d428ecbe62e09af2d7772db97dfcdb805864258897337723d92", func := "hornbeam/hornbeamlaw16.BodyTerms", spec := "bodyTerms", unfollowed := true, recurses := true, loops := true, apart := false }
def BodyTermsSaid : Prop := bodyTermsRow.holds Try.pinned (OpenSpec.ofChange bodyTermsSpec)

/-- ITS FALSE NEIGHBOUR: 'it returns false'. Refute it at one input. -/
def bodyTermsWrong : ChangeSpec := { name := "bodyTerms", fn := fun _ => fun
  | [d] => { results := [.lit (.bool false)], args := [d] }
  | _ => none }
def BodyTermsWrongFalsely : Prop := bodyTermsRow.holds Try.pinned (OpenSpec.ofChange bodyTermsWrong)

/-- 'hornbeamlaw16.BodyRound': WHATEVER THE INPUT: true; the input reads as it did. -/
def bodyRoundSpec : ChangeSpec := { name := "bodyRound", fn := fun _ => fun
  | [d1, d2] => { results := [.lit (.bool true)], args := [d1, d2] }
  | _ => none }
def bodyRoundRow : OpenClaim := { program := "ytflahdpkkgmpeaa", sum := "80f118b79b247d428ecbe62e09af2d7772db97dfcdb805864258897337723d92", func := "hornbeam/hornbeamlaw16.BodyRound", spec := "bodyRound", unfollowed := true, recurses := true, loops := true, apart := false }
def BodyRoundSaid : Prop := bodyRoundRow.holds Try.pinned (OpenSpec.ofChange bodyRoundSpec)

/-- ITS FALSE NEIGHBOUR: 'it returns false'. Refute it at one input. -/
def bodyRoundWrong : ChangeSpec := { name := "bodyRound", fn := fun _ => fun
  | [d1, d2] => { results := [.lit (.bool false)], args := [d1, d2] }
  | _ => none }
def BodyRoundWrongFalsely : Prop := bodyRoundRow.holds Try.pinned (OpenSpec.ofChange bodyRoundWrong)

/- THE SECOND FORM. 'bulk': how many values and letters a reading holds, each counted each time it is reached (what is shared counts as often as it is met; a slice's spare places count too). A statement '..UptoSaid' is the law's where the arguments, and the package variables that the reading takes, are together of bulk at most 1048576: NARROWER than '..Said'. Prove '..Said' where nothing that the law and all that it calls make is longer than what came in: it says more and counts as full. Else prove '..UptoSaid'. A law counts once. -/
mutual
def uptoBulk {H : Type} : DataW H → Nat
  | .lit (.string bytes) => bytes.length + 1
  | .lit _ => 1
  | .nil => 1
  | .ptr d => uptoBulk d + 1
  | .slice elems spare => uptoBulkAll elems + uptoBulkAll spare + 1
  | .agg parts => uptoBulkAll parts + 1
  | .iface _ d => uptoBulk d + 1
  | .map entries => uptoBulkEntries entries + 1
  | .held _ => 1
def uptoBulkAll {H : Type} : List (DataW H) → Nat
  | [] => 0
  | d :: r => uptoBulk d + uptoBulkAll r
def uptoBulkEntries {H : Type} : List (Lit × DataW H) → Nat
  | [] => 0
  | x :: r => uptoBulkEntry x + uptoBulkEntries r
def uptoBulkEntry {H : Type} : Lit × DataW H → Nat
  | (.string bytes, d) => bytes.length + uptoBulk d + 1
  | (_, d) => uptoBulk d + 1
 end
def uptoSmall : (H : Type) → List (DataW H) → Bool := fun _ ds => decide (uptoBulkAll ds ≤ 1048576)
def OpenSpec.upto (s : _root_.Go.ChangeSpec) : _root_.Go.OpenSpec := { _root_.Go.OpenSpec.ofChange s with cond := some uptoSmall }

/-- 'hornbeamlaw16.BodyGoals', WHERE WHAT IT READS IS OF BULK AT MOST 1048576: true; the input reads as it did. -/
def bodyGoalsUptoRow : OpenClaim := { program := "ytflahdpkkgmpeaa", sum := "80f118b79b247d428ecbe62e09af2d7772db97dfcdb805864258897337723d92", func := "hornbeam/hornbeamlaw16.BodyGoals", spec := "bodyGoals", unfollowed := true, recurses := true, loops := true, apart := false, narrowed := true }
def BodyGoalsUptoSaid : Prop := bodyGoalsUptoRow.holds Try.pinned (OpenSpec.upto bodyGoalsSpec)

/-- 'hornbeamlaw16.BodyCuts', WHERE WHAT IT READS IS OF BULK AT MOST 1048576: true; the input reads as it did. -/
def bodyCutsUptoRow : OpenClaim := { program := "ytflahdpkkgmpeaa", sum := "80f118b79b247d428ecbe62e09af2d7772db97dfcdb805864258897337723d92", func := "hornbeam/hornbeamlaw16.BodyCuts", spec := "bodyCuts", unfollowed := true, recurses := true, loops := true, apart := false, narrowed := true }
def BodyCutsUptoSaid : Prop := bodyCutsUptoRow.holds Try.pinned (OpenSpec.upto bodyCutsSpec)

/-- 'hornbeamlaw16.BodyClauses', WHERE WHAT IT READS IS OF BULK AT MOST 1048576: true; the input reads as it did. -/
def bodyClausesUptoRow : OpenClaim := { program := "ytflahdpkkgmpeaa", sum := "80f118b79b247d428ecbe62e09af2d7772db97dfcdb805864258897337723d92", func := "hornbeam/hornbeamlaw16.BodyClauses", spec := "bodyClauses", unfollowed := true, recurses := true, loops := true, apart := false, narrowed := true }
def BodyClausesUptoSaid : Prop := bodyClausesUptoRow.holds Try.pinned (OpenSpec.upto bodyClausesSpec)

/-- 'hornbeamlaw16.BodyAdds', WHERE WHAT IT READS IS OF BULK AT MOST 1048576: true; the input reads as it did. -/
def bodyAddsUptoRow : OpenClaim := { program := "ytflahdpkkgmpeaa", sum := "80f118b79b247d428ecbe62e09af2d7772db97dfcdb805864258897337723d92", func := "hornbeam/hornbeamlaw16.BodyAdds", spec := "bodyAdds", unfollowed := true, recurses := true, loops := true, apart := false, narrowed := true }
def BodyAddsUptoSaid : Prop := bodyAddsUptoRow.holds Try.pinned (OpenSpec.upto bodyAddsSpec)

/-- 'hornbeamlaw16.BodyConverted', WHERE WHAT IT READS IS OF BULK AT MOST 1048576: true; the input reads as it did. -/
def bodyConvertedUptoRow : OpenClaim := { program := "ytflahdpkkgmpeaa", sum := "80f118b79b247d428ecbe62e09af2d7772db97dfcdb805864258897337723d92", func := "hornbeam/hornbeamlaw16.BodyConverted", spec := "bodyConverted", unfollowed := true, recurses := true, loops := true, apart := false, narrowed := true }
def BodyConvertedUptoSaid : Prop := bodyConvertedUptoRow.holds Try.pinned (OpenSpec.upto bodyConvertedSpec)

/-- 'hornbeamlaw16.BodyTerms', WHERE WHAT IT READS IS OF BULK AT MOST 1048576: true; the input reads as it did. -/
def bodyTermsUptoRow : OpenClaim := { program := "ytflahdpkkgmpeaa", sum := "80f118b79b247d428ecbe62e09af2d7772db97dfcdb805864258897337723d92", func := "hornbeam/hornbeamlaw16.BodyTerms", spec := "bodyTerms", unfollowed := true, recurses := true, loops := true, apart := false, narrowed := true }
def BodyTermsUptoSaid : Prop := bodyTermsUptoRow.holds Try.pinned (OpenSpec.upto bodyTermsSpec)

/-- 'hornbeamlaw16.BodyRound', WHERE WHAT IT READS IS OF BULK AT MOST 1048576: true; the input reads as it did. -/
def bodyRoundUptoRow : OpenClaim := { program := "ytflahdpkkgmpeaa", sum := "80f118b79b247d428ecbe62e09af2d7772db97dfcdb805864258897337723d92", func := "hornbeam/hornbeamlaw16.BodyRound", spec := "bodyRound", unfollowed := true, recurses := true, loops := true, apart := false, narrowed := true }
def BodyRoundUptoSaid : Prop := bodyRoundUptoRow.holds Try.pinned (OpenSpec.upto bodyRoundSpec)

end Rows
end Go.Proofs.Ytflahdpkkgmpeaa
