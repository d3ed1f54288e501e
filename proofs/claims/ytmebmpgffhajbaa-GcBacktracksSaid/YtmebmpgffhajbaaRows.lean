/-
  No cell of these rows narrows 'for every input' (looked for: loops, veiled, ifaces, maps, wideKeys, modest, calm, conditions, laid).
  DERIVED. THE GIVEN ROWS OF THIS SEAT. 6 by the template 'for every input the law returns true; each argument reads behind the call as it read before'; 0 by the template 'total and deterministic' (their statements: YtmebmpgffhajbaaTotals.lean).
  GIVEN WITH THE SEED: the statements are not yours to turn. If you find one false, say at which input.
  Laid BY PROGRAM, IN A SANDBOX (cutbox-rows.mjs): the forced cells as the released guide's own fill.sh prints them over the translation 3a6bffd2216f0d9d… (all of the seat's roots in one cut). By AI agents, Wed Nov 11 2026. No macro, syntax, notation, axiom, sorry.
-/
import Derived.Test.YtmebmpgffhajbaaChecked
import GoSem.Claim
import GoSem.ClaimJoined
import GoSem.ClaimMapViews
import Derived.JoinedTies
import Derived.KernelRfl
namespace Go.Proofs.Ytmebmpgffhajbaa
/- THE CELL 'sum', in the pinned program and in every row, IS THE sha256 OF THE DUMP (.gsa) THAT YtmebmpgffhajbaaProg.lean LOADS. Nothing in Lean hashes anything: it is a label: what it is worth is what the hold of that sum in a sandbox is worth. -/
noncomputable def Try.pinned : Pinned := { name := "ytmebmpgffhajbaa", sum := "3a6bffd2216f0d9dbb46f17f5bada3c7fdc8fb4bff10772f44602a84386a9cfe", checked := Try.checked }
namespace Rows
def none {H : Type} : Left H := { results := [], args := [] }

/-- 'hornbeamlaw34.GcExamples': WHATEVER THE INPUT: true; the input reads as it did. -/
def gcExamplesSpec : ChangeSpec := { name := "gcExamples", fn := fun _ => fun
  | [] => { results := [.lit (.bool true)], args := [] }
  | _ => none }
def gcExamplesRow : OpenClaim := { program := "ytmebmpgffhajbaa", sum := "3a6bffd2216f0d9dbb46f17f5bada3c7fdc8fb4bff10772f44602a84386a9cfe", func := "hornbeam/hornbeamlaw34.GcExamples", spec := "gcExamples", unfollowed := true, recurses := true, plainKeys := false, apart := false }
def GcExamplesSaid : Prop := gcExamplesRow.holds Try.pinned (OpenSpec.ofChange gcExamplesSpec)

/-- ITS FALSE NEIGHBOUR: 'it returns false'. Refute it at one input. -/
def gcExamplesWrong : ChangeSpec := { name := "gcExamples", fn := fun _ => fun
  | [] => { results := [.lit (.bool false)], args := [] }
  | _ => none }
def GcExamplesWrongFalsely : Prop := gcExamplesRow.holds Try.pinned (OpenSpec.ofChange gcExamplesWrong)

/-- 'hornbeamlaw34.GcCollects': WHATEVER THE INPUT: true; the input reads as it did. -/
def gcCollectsSpec : ChangeSpec := { name := "gcCollects", fn := fun _ => fun
  | [d1, d2] => { results := [.lit (.bool true)], args := [d1, d2] }
  | _ => none }
def gcCollectsRow : OpenClaim := { program := "ytmebmpgffhajbaa", sum := "3a6bffd2216f0d9dbb46f17f5bada3c7fdc8fb4bff10772f44602a84386a9cfe", func := "hornbeam/hornbeamlaw34.GcCollects", spec := "gcCollects", unfollowed := true, recurses := true, plainKeys := false, apart := false }
def GcCollectsSaid : Prop := gcCollectsRow.holds Try.pinned (OpenSpec.ofChange gcCollectsSpec)

/-- ITS FALSE NEIGHBOUR: 'it returns false'. Refute it at one input. -/
def gcCollectsWrong : ChangeSpec := { name := "gcCollects", fn := fun _ => fun
  | [d1, d2] => { results := [.lit (.bool false)], args := [d1, d2] }
  | _ => none }
def GcCollectsWrongFalsely : Prop := gcCollectsRow.holds Try.pinned (OpenSpec.ofChange gcCollectsWrong)

/-- 'hornbeamlaw34.GcOrder': WHATEVER THE INPUT: true; the input reads as it did. -/
def gcOrderSpec : ChangeSpec := { name := "gcOrder", fn := fun _ => fun
  | [d1, d2] => { results := [.lit (.bool true)], args := [d1, d2] }
  | _ => none }
def gcOrderRow : OpenClaim := { program := "ytmebmpgffhajbaa", sum := "3a6bffd2216f0d9dbb46f17f5bada3c7fdc8fb4bff10772f44602a84386a9cfe", func := "hornbeam/hornbeamlaw34.GcOrder", spec := "gcOrder", unfollowed := true, recurses := true, plainKeys := false, apart := false }
def GcOrderSaid : Prop := gcOrderRow.holds Try.pinned (OpenSpec.ofChange gcOrderSpec)

/-- ITS FALSE NEIGHBOUR: 'it returns false'. Refute it at one input. -/
def gcOrderWrong : ChangeSpec := { name := "gcOrder", fn := fun _ => fun
  | [d1, d2] => { results := [.lit (.bool false)], args := [d1, d2] }
  | _ => none }
def GcOrderWrongFalsely : Prop := gcOrderRow.holds Try.pinned (OpenSpec.ofChange gcOrderWrong)

/-- 'hornbeamlaw34.GcAgain': WHATEVER THE INPUT: true; the input reads as it did. -/
def gcAgainSpec : ChangeSpec := { name := "gcAgain", fn := fun _ => fun
  | [d1, d2] => { results := [.lit (.bool true)], args := [d1, d2] }
  | _ => none }
def gcAgainRow : OpenClaim := { program := "ytmebmpgffhajbaa", sum := "3a6bffd2216f0d9dbb46f17f5bada3c7fdc8fb4bff10772f44602a84386a9cfe", func := "hornbeam/hornbeamlaw34.GcAgain", spec := "gcAgain", unfollowed := true, recurses := true, plainKeys := false, apart := false }
def GcAgainSaid : Prop := gcAgainRow.holds Try.pinned (OpenSpec.ofChange gcAgainSpec)

/-- ITS FALSE NEIGHBOUR: 'it returns false'. Refute it at one input. -/
def gcAgainWrong : ChangeSpec := { name := "gcAgain", fn := fun _ => fun
  | [d1, d2] => { results := [.lit (.bool false)], args := [d1, d2] }
  | _ => none }
def GcAgainWrongFalsely : Prop := gcAgainRow.holds Try.pinned (OpenSpec.ofChange gcAgainWrong)

/-- 'hornbeamlaw34.GcTerms': WHATEVER THE INPUT: true; the input reads as it did. -/
def gcTermsSpec : ChangeSpec := { name := "gcTerms", fn := fun _ => fun
  | [d1, d2] => { results := [.lit (.bool true)], args := [d1, d2] }
  | _ => none }
def gcTermsRow : OpenClaim := { program := "ytmebmpgffhajbaa", sum := "3a6bffd2216f0d9dbb46f17f5bada3c7fdc8fb4bff10772f44602a84386a9cfe", func := "hornbeam/hornbeamlaw34.GcTerms", spec := "gcTerms", unfollowed := true, recurses := true, plainKeys := false, apart := false }
def GcTermsSaid : Prop := gcTermsRow.holds Try.pinned (OpenSpec.ofChange gcTermsSpec)

/-- ITS FALSE NEIGHBOUR: 'it returns false'. Refute it at one input. -/
def gcTermsWrong : ChangeSpec := { name := "gcTerms", fn := fun _ => fun
  | [d1, d2] => { results := [.lit (.bool false)], args := [d1, d2] }
  | _ => none }
def GcTermsWrongFalsely : Prop := gcTermsRow.holds Try.pinned (OpenSpec.ofChange gcTermsWrong)

/-- 'hornbeamlaw34.GcBacktracks': WHATEVER THE INPUT: true; the input reads as it did. -/
def gcBacktracksSpec : ChangeSpec := { name := "gcBacktracks", fn := fun _ => fun
  | [d1, d2, d3] => { results := [.lit (.bool true)], args := [d1, d2, d3] }
  | _ => none }
def gcBacktracksRow : OpenClaim := { program := "ytmebmpgffhajbaa", sum := "3a6bffd2216f0d9dbb46f17f5bada3c7fdc8fb4bff10772f44602a84386a9cfe", func := "hornbeam/hornbeamlaw34.GcBacktracks", spec := "gcBacktracks", unfollowed := true, recurses := true, plainKeys := false, apart := false }
def GcBacktracksSaid : Prop := gcBacktracksRow.holds Try.pinned (OpenSpec.ofChange gcBacktracksSpec)

/-- ITS FALSE NEIGHBOUR: 'it returns false'. Refute it at one input. -/
def gcBacktracksWrong : ChangeSpec := { name := "gcBacktracks", fn := fun _ => fun
  | [d1, d2, d3] => { results := [.lit (.bool false)], args := [d1, d2, d3] }
  | _ => none }
def GcBacktracksWrongFalsely : Prop := gcBacktracksRow.holds Try.pinned (OpenSpec.ofChange gcBacktracksWrong)

/- THE SECOND FORM. 'bulk': how many values and letters a reading holds, each counted each time it is reached (what is shared counts as often as it is met; a slice's spare places count too). A statement '..UptoSaid' is the law's where the arguments, and the package variables that the reading takes, are together of bulk at most 1048576: NARROWER than '..Said'. Prove '..Said' where nothing that the law and all that it calls make is longer than what came in: it says more and counts as full. Else prove '..UptoSaid'. A law counts once. -/
mutual
def uptoBulk {H : Type} : DataW H → Nat
  | .lit (.string bytes) => bytes.length + 1
  | .lit _ => 1
  | .nil => 1
  | .ptr d => uptoBulk d + 1
  | .slice elems spare => uptoBulkAll elems + uptoBulkAll spare + 1
  | .agg parts => uptoBulkAll parts + 1
  | .iface _ d => uptoBulk d + 1
  | .map entries => uptoBulkEntries entries + 1
  | .held _ => 1
def uptoBulkAll {H : Type} : List (DataW H) → Nat
  | [] => 0
  | d :: r => uptoBulk d + uptoBulkAll r
def uptoBulkEntries {H : Type} : List (Lit × DataW H) → Nat
  | [] => 0
  | x :: r => uptoBulkEntry x + uptoBulkEntries r
def uptoBulkEntry {H : Type} : Lit × DataW H → Nat
  | (.string bytes, d) => bytes.length + uptoBulk d + 1
  | (_, d) => uptoBulk d + 1
 end
def uptoSmall : (H : Type) → List (DataW H) → Bool := fun _ ds => decide (uptoBulkAll ds ≤ 1048576)
def OpenSpec.upto (s : _root_.Go.ChangeSpec) : _root_.Go.OpenSpec := { _root_.Go.OpenSpec.ofChange s with cond := some uptoSmall }

/-- 'hornbeamlaw34.GcExamples', WHERE WHAT IT READS IS OF BULK AT MOST 1048576: true; the input reads as it did. -/
def gcExamplesUptoRow : OpenClaim := { program := "ytmebmpgffhajbaa", sum := "3a6bffd2216f0d9dbb46f17f5bada3c7fdc8fb4bff10772f44602a84386a9cfe", func := "hornbeam/hornbeamlaw34.GcExamples", spec := "gcExamples", unfollowed := true, recurses := true, plainKeys := false, apart := false, narrowed := true }
def GcExamplesUptoSaid : Prop := gcExamplesUptoRow.holds Try.pinned (OpenSpec.upto gcExamplesSpec)

/-- 'hornbeamlaw34.GcCollects', WHERE WHAT IT READS IS OF BULK AT MOST 1048576: true; the input reads as it did. -/
def gcCollectsUptoRow : OpenClaim := { program := "ytmebmpgffhajbaa", sum := "3a6bffd2216f0d9dbb46f17f5bada3c7fdc8fb4bff10772f44602a84386a9cfe", func := "hornbeam/hornbeamlaw34.GcCollects", spec := "gcCollects", unfollowed := true, recurses := true, plainKeys := false, apart := false, narrowed := true }
def GcCollectsUptoSaid : Prop := gcCollectsUptoRow.holds Try.pinned (OpenSpec.upto gcCollectsSpec)

/-- 'hornbeamlaw34.GcOrder', WHERE WHAT IT READS IS OF BULK AT MOST 1048576: true; the input reads as it did. -/
def gcOrderUptoRow : OpenClaim := { program := "ytmebmpgffhajbaa", sum := "3a6bffd2216f0d9dbb46f17f5bada3c7fdc8fb4bff10772f44602a84386a9cfe", func := "hornbeam/hornbeamlaw34.GcOrder", spec := "gcOrder", unfollowed := true, recurses := true, plainKeys := false, apart := false, narrowed := true }
def GcOrderUptoSaid : Prop := gcOrderUptoRow.holds Try.pinned (OpenSpec.upto gcOrderSpec)

/-- 'hornbeamlaw34.GcAgain', WHERE WHAT IT READS IS OF BULK AT MOST 1048576: true; the input reads as it did. -/
def gcAgainUptoRow : OpenClaim := { program := "ytmebmpgffhajbaa", sum := "3a6bffd2216f0d9dbb46f17f5bada3c7fdc8fb4bff10772f44602a84386a9cfe", func := "hornbeam/hornbeamlaw34.GcAgain", spec := "gcAgain", unfollowed := true, recurses := true, plainKeys := false, apart := false, narrowed := true }
def GcAgainUptoSaid : Prop := gcAgainUptoRow.holds Try.pinned (OpenSpec.upto gcAgainSpec)

/-- 'hornbeamlaw34.GcTerms', WHERE WHAT IT READS IS OF BULK AT MOST 1048576: true; the input reads as it did. -/
def gcTermsUptoRow : OpenClaim := { program := "ytmebmpgffhajbaa", sum := "3a6bffd2216f0d9dbb46f17f5bada3c7fdc8fb4bff10772f44602a84386a9cfe", func := "hornbeam/hornbeamlaw34.GcTerms", spec := "gcTerms", unfollowed := true, recurses := true, plainKeys := false, apart := false, narrowed := true }
def GcTermsUptoSaid : Prop := gcTermsUptoRow.holds Try.pinned (OpenSpec.upto gcTermsSpec)

/-- 'hornbeamlaw34.GcBacktracks', WHERE WHAT IT READS IS OF BULK AT MOST 1048576: true; the input reads as it did. -/
def gcBacktracksUptoRow : OpenClaim := { program := "ytmebmpgffhajbaa", sum := "3a6bffd2216f0d9dbb46f17f5bada3c7fdc8fb4bff10772f44602a84386a9cfe", func := "hornbeam/hornbeamlaw34.GcBacktracks", spec := "gcBacktracks", unfollowed := true, recurses := true, plainKeys := false, apart := false, narrowed := true }
def GcBacktracksUptoSaid : Prop := gcBacktracksUptoRow.holds Try.pinned (OpenSpec.upto gcBacktracksSpec)

end Rows
end Go.Proofs.Ytmebmpgffhajbaa
