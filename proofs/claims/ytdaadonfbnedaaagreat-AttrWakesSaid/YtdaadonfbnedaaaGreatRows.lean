/-
  No cell of these rows narrows 'for every input' (looked for: loops, veiled, ifaces, maps, wideKeys, modest, calm, conditions, laid).
  DERIVED. THE GIVEN ROWS OF THIS SEAT. 4 by the template 'for every input the law returns true; each argument reads behind the call as it read before'; 0 by the template 'total and deterministic' (their statements: YtdaadonfbnedaaaGreatTotals.lean).
  GIVEN WITH THE SEED: the statements are not yours to turn. If you find one false, say at which input.
  Laid BY PROGRAM, IN A SANDBOX (cutbox-rows.mjs): the forced cells as the released guide's own fill.sh prints them over the translation e98ea38fe63ad6be… (all of the seat's roots in one cut). By AI agents, Wed Nov 11 2026. No macro, syntax, notation, axiom, sorry.
-/
import Derived.Test.YtdaadonfbnedaaaGreatChecked
import GoSem.Claim
import GoSem.ClaimJoined
import GoSem.ClaimMapViews
import Derived.JoinedTies
import Derived.KernelRfl
namespace Go.Proofs.YtdaadonfbnedaaaGreat
/- THE CELL 'sum', in the pinned program and in every row, IS THE sha256 OF THE DUMP (.gsa) THAT YtdaadonfbnedaaaGreatProg.lean LOADS. Nothing in Lean hashes anything: it is a label: what it is worth is what the hold of that sum in a sandbox is worth. -/
noncomputable def Tryz.pinned : Pinned := { name := "ytdaadonfbnedaaagreat", sum := "e98ea38fe63ad6bef20de77a4d1265807ec6f2fe815b16cb366bfd660e0175d2", checked := Tryz.checked }
namespace Rows
def none {H : Type} : Left H := { results := [], args := [] }

/-- 'hornbeamlaw32.AttrGets': WHATEVER THE INPUT: true; the input reads as it did. -/
def attrGetsSpec : ChangeSpec := { name := "attrGets", fn := fun _ => fun
  | [d1, d2, d3] => { results := [.lit (.bool true)], args := [d1, d2, d3] }
  | _ => none }
def attrGetsRow : OpenClaim := { program := "ytdaadonfbnedaaagreat", sum := "e98ea38fe63ad6bef20de77a4d1265807ec6f2fe815b16cb366bfd660e0175d2", func := "hornbeam/hornbeamlaw32.AttrGets", spec := "attrGets", inPlace := ["slices.overlaps[hornbeam/api.VarCell]"], unfollowed := true, recurses := true, plainKeys := false, apart := false }
def AttrGetsSaid : Prop := attrGetsRow.holds Tryz.pinned (OpenSpec.ofChange attrGetsSpec)

/-- ITS FALSE NEIGHBOUR: 'it returns false'. Refute it at one input. -/
def attrGetsWrong : ChangeSpec := { name := "attrGets", fn := fun _ => fun
  | [d1, d2, d3] => { results := [.lit (.bool false)], args := [d1, d2, d3] }
  | _ => none }
def AttrGetsWrongFalsely : Prop := attrGetsRow.holds Tryz.pinned (OpenSpec.ofChange attrGetsWrong)

/-- 'hornbeamlaw32.AttrPuts': WHATEVER THE INPUT: true; the input reads as it did. -/
def attrPutsSpec : ChangeSpec := { name := "attrPuts", fn := fun _ => fun
  | [d1, d2, d3, d4] => { results := [.lit (.bool true)], args := [d1, d2, d3, d4] }
  | _ => none }
def attrPutsRow : OpenClaim := { program := "ytdaadonfbnedaaagreat", sum := "e98ea38fe63ad6bef20de77a4d1265807ec6f2fe815b16cb366bfd660e0175d2", func := "hornbeam/hornbeamlaw32.AttrPuts", spec := "attrPuts", inPlace := ["slices.overlaps[hornbeam/api.VarCell]"], unfollowed := true, recurses := true, plainKeys := false, apart := false }
def AttrPutsSaid : Prop := attrPutsRow.holds Tryz.pinned (OpenSpec.ofChange attrPutsSpec)

/-- ITS FALSE NEIGHBOUR: 'it returns false'. Refute it at one input. -/
def attrPutsWrong : ChangeSpec := { name := "attrPuts", fn := fun _ => fun
  | [d1, d2, d3, d4] => { results := [.lit (.bool false)], args := [d1, d2, d3, d4] }
  | _ => none }
def AttrPutsWrongFalsely : Prop := attrPutsRow.holds Tryz.pinned (OpenSpec.ofChange attrPutsWrong)

/-- 'hornbeamlaw32.AttrBinds': WHATEVER THE INPUT: true; the input reads as it did. -/
def attrBindsSpec : ChangeSpec := { name := "attrBinds", fn := fun _ => fun
  | [d1, d2, d3] => { results := [.lit (.bool true)], args := [d1, d2, d3] }
  | _ => none }
def attrBindsRow : OpenClaim := { program := "ytdaadonfbnedaaagreat", sum := "e98ea38fe63ad6bef20de77a4d1265807ec6f2fe815b16cb366bfd660e0175d2", func := "hornbeam/hornbeamlaw32.AttrBinds", spec := "attrBinds", inPlace := ["slices.overlaps[hornbeam/api.VarCell]"], unfollowed := true, recurses := true, plainKeys := false, apart := false }
def AttrBindsSaid : Prop := attrBindsRow.holds Tryz.pinned (OpenSpec.ofChange attrBindsSpec)

/-- ITS FALSE NEIGHBOUR: 'it returns false'. Refute it at one input. -/
def attrBindsWrong : ChangeSpec := { name := "attrBinds", fn := fun _ => fun
  | [d1, d2, d3] => { results := [.lit (.bool false)], args := [d1, d2, d3] }
  | _ => none }
def AttrBindsWrongFalsely : Prop := attrBindsRow.holds Tryz.pinned (OpenSpec.ofChange attrBindsWrong)

/-- 'hornbeamlaw32.AttrWakes': WHATEVER THE INPUT: true; the input reads as it did. -/
def attrWakesSpec : ChangeSpec := { name := "attrWakes", fn := fun _ => fun
  | [d] => { results := [.lit (.bool true)], args := [d] }
  | _ => none }
def attrWakesRow : OpenClaim := { program := "ytdaadonfbnedaaagreat", sum := "e98ea38fe63ad6bef20de77a4d1265807ec6f2fe815b16cb366bfd660e0175d2", func := "hornbeam/hornbeamlaw32.AttrWakes", spec := "attrWakes", inPlace := ["slices.overlaps[hornbeam/api.VarCell]"], unfollowed := true, recurses := true, plainKeys := false, apart := false }
def AttrWakesSaid : Prop := attrWakesRow.holds Tryz.pinned (OpenSpec.ofChange attrWakesSpec)

/-- ITS FALSE NEIGHBOUR: 'it returns false'. Refute it at one input. -/
def attrWakesWrong : ChangeSpec := { name := "attrWakes", fn := fun _ => fun
  | [d] => { results := [.lit (.bool false)], args := [d] }
  | _ => none }
def AttrWakesWrongFalsely : Prop := attrWakesRow.holds Tryz.pinned (OpenSpec.ofChange attrWakesWrong)

/- THE SECOND FORM. 'bulk': how many values and letters a reading holds, each counted each time it is reached (what is shared counts as often as it is met; a slice's spare places count too). A statement '..UptoSaid' is the law's where the arguments, and the package variables that the reading takes, are together of bulk at most 1048576: NARROWER than '..Said'. Prove '..Said' where nothing that the law and all that it calls make is longer than what came in: it says more and counts as full. Else prove '..UptoSaid'. A law counts once. -/
mutual
def uptoBulk {H : Type} : DataW H → Nat
  | .lit (.string bytes) => bytes.length + 1
  | .lit _ => 1
  | .nil => 1
  | .ptr d => uptoBulk d + 1
  | .slice elems spare => uptoBulkAll elems + uptoBulkAll spare + 1
  | .agg parts => uptoBulkAll parts + 1
  | .iface _ d => uptoBulk d + 1
  | .map entries => uptoBulkEntries entries + 1
  | .held _ => 1
def uptoBulkAll {H : Type} : List (DataW H) → Nat
  | [] => 0
  | d :: r => uptoBulk d + uptoBulkAll r
def uptoBulkEntries {H : Type} : List (Lit × DataW H) → Nat
  | [] => 0
  | x :: r => uptoBulkEntry x + uptoBulkEntries r
def uptoBulkEntry {H : Type} : Lit × DataW H → Nat
  | (.string bytes, d) => bytes.length + uptoBulk d + 1
  | (_, d) => uptoBulk d + 1
 end
def uptoSmall : (H : Type) → List (DataW H) → Bool := fun _ ds => decide (uptoBulkAll ds ≤ 1048576)
def OpenSpec.upto (s : _root_.Go.ChangeSpec) : _root_.Go.OpenSpec := { _root_.Go.OpenSpec.ofChange s with cond := some uptoSmall }

/-- 'hornbeamlaw32.AttrGets', WHERE WHAT IT READS IS OF BULK AT MOST 1048576: true; the input reads as it did. -/
def attrGetsUptoRow : OpenClaim := { program := "ytdaadonfbnedaaagreat", sum := "e98ea38fe63ad6bef20de77a4d1265807ec6f2fe815b16cb366bfd660e0175d2", func := "hornbeam/hornbeamlaw32.AttrGets", spec := "attrGets", inPlace := ["slices.overlaps[hornbeam/api.VarCell]"], unfollowed := true, recurses := true, plainKeys := false, apart := false, narrowed := true }
def AttrGetsUptoSaid : Prop := attrGetsUptoRow.holds Tryz.pinned (OpenSpec.upto attrGetsSpec)

/-- 'hornbeamlaw32.AttrPuts', WHERE WHAT IT READS IS OF BULK AT MOST 1048576: true; the input reads as it did. -/
def attrPutsUptoRow : OpenClaim := { program := "ytdaadonfbnedaaagreat", sum := "e98ea38fe63ad6bef20de77a4d1265807ec6f2fe815b16cb366bfd660e0175d2", func := "hornbeam/hornbeamlaw32.AttrPuts", spec := "attrPuts", inPlace := ["slices.overlaps[hornbeam/api.VarCell]"], unfollowed := true, recurses := true, plainKeys := false, apart := false, narrowed := true }
def AttrPutsUptoSaid : Prop := attrPutsUptoRow.holds Tryz.pinned (OpenSpec.upto attrPutsSpec)

/-- 'hornbeamlaw32.AttrBinds', WHERE WHAT IT READS IS OF BULK AT MOST 1048576: true; the input reads as it did. -/
def attrBindsUptoRow : OpenClaim := { program := "ytdaadonfbnedaaagreat", sum := "e98ea38fe63ad6bef20de77a4d1265807ec6f2fe815b16cb366bfd660e0175d2", func := "hornbeam/hornbeamlaw32.AttrBinds", spec := "attrBinds", inPlace := ["slices.overlaps[hornbeam/api.VarCell]"], unfollowed := true, recurses := true, plainKeys := false, apart := false, narrowed := true }
def AttrBindsUptoSaid : Prop := attrBindsUptoRow.holds Tryz.pinned (OpenSpec.upto attrBindsSpec)

/-- 'hornbeamlaw32.AttrWakes', WHERE WHAT IT READS IS OF BULK AT MOST 1048576: true; the input reads as it did. -/
def attrWakesUptoRow : OpenClaim := { program := "ytdaadonfbnedaaagreat", sum := "e98ea38fe63ad6bef20de77a4d1265807ec6f2fe815b16cb366bfd660e0175d2", func := "hornbeam/hornbeamlaw32.AttrWakes", spec := "attrWakes", inPlace := ["slices.overlaps[hornbeam/api.VarCell]"], unfollowed := true, recurses := true, plainKeys := false, apart := false, narrowed := true }
def AttrWakesUptoSaid : Prop := attrWakesUptoRow.holds Tryz.pinned (OpenSpec.upto attrWakesSpec)

end Rows
end Go.Proofs.YtdaadonfbnedaaaGreat
