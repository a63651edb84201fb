/-
  No cell of these rows narrows 'for every input' (looked for: loops, veiled, ifaces, maps, wideKeys, modest, calm, conditions, laid).
  DERIVED. THE GIVEN ROWS OF THIS SEAT. 2 by the template 'for every input the law returns true; each argument reads behind the call as it read before'; 0 by the template 'total and deterministic' (their statements: YtbnipbhkdodfpaaTotals.lean).
  GIVEN WITH THE SEED: the statements are not yours to turn. If you find one false, say at which input.
  Laid BY PROGRAM, IN A SANDBOX (cutbox-rows.mjs): the forced cells as the released guide's own fill.sh prints them over the translation 434bab1f647c3c1e… (all of the seat's roots in one cut). By AI agents, Wed Nov 11 2026. No macro, syntax, notation, axiom, sorry.
-/
import Derived.Test.YtbnipbhkdodfpaaChecked
import GoSem.Claim
import GoSem.ClaimJoined
import GoSem.ClaimMapViews
import Derived.JoinedTies
import Derived.KernelRfl
namespace Go.Proofs.Ytbnipbhkdodfpaa
/- THE CELL 'sum', in the pinned program and in every row, IS THE sha256 OF THE DUMP (.gsa) THAT YtbnipbhkdodfpaaProg.lean LOADS. Nothing in Lean hashes anything: it is a label: what it is worth is what the hold of that sum in a sandbox is worth. -/
noncomputable def Try.pinned : Pinned := { name := "ytbnipbhkdodfpaa", sum := "434bab1f647c3c1e26d5a4251fe4b1f8de4f3ab1eea46c6d638d558f14f0d093", checked := Try.checked }
namespace Rows
def none {H : Type} : Left H := { results := [], args := [] }

/-- 'bramblelaw13.TernUndoes': WHATEVER THE INPUT: true; the input reads as it did. -/
def ternUndoesSpec : ChangeSpec := { name := "ternUndoes", fn := fun _ => fun
  | [d1, d2] => { results := [.lit (.bool true)], args := [d1, d2] }
  | _ => none }
def ternUndoesRow : OpenClaim := { program := "ytbnipbhkdodfpaa", sum := "434bab1f647c3c1e26d5a4251fe4b1f8de4f3ab1eea46c6d638d558f14f0d093", func := "bramble/bramblelaw13.TernUndoes", spec := "ternUndoes", inPlace := ["internal/bytealg.Compare", "slices.overlaps[bramble/api.Pair]"], unfollowed := true, recurses := true, apart := false }
def TernUndoesSaid : Prop := ternUndoesRow.holds Try.pinned (OpenSpec.ofChange ternUndoesSpec)

/-- ITS FALSE NEIGHBOUR: 'it returns false'. Refute it at one input. -/
def ternUndoesWrong : ChangeSpec := { name := "ternUndoes", fn := fun _ => fun
  | [d1, d2] => { results := [.lit (.bool false)], args := [d1, d2] }
  | _ => none }
def TernUndoesWrongFalsely : Prop := ternUndoesRow.holds Try.pinned (OpenSpec.ofChange ternUndoesWrong)

/-- 'bramblelaw13.TernNone': WHATEVER THE INPUT: true; the input reads as it did. -/
def ternNoneSpec : ChangeSpec := { name := "ternNone", fn := fun _ => fun
  | [d1, d2] => { results := [.lit (.bool true)], args := [d1, d2] }
  | _ => none }
def ternNoneRow : OpenClaim := { program := "ytbnipbhkdodfpaa", sum := "434bab1f647c3c1e26d5a4251fe4b1f8de4f3ab1eea46c6d638d558f14f0d093", func := "bramble/bramblelaw13.TernNone", spec := "ternNone", inPlace := ["internal/bytealg.Compare", "slices.overlaps[bramble/api.Pair]"], unfollowed := true, recurses := true, apart := false }
def TernNoneSaid : Prop := ternNoneRow.holds Try.pinned (OpenSpec.ofChange ternNoneSpec)

/-- ITS FALSE NEIGHBOUR: 'it returns false'. Refute it at one input. -/
def ternNoneWrong : ChangeSpec := { name := "ternNone", fn := fun _ => fun
  | [d1, d2] => { results := [.lit (.bool false)], args := [d1, d2] }
  | _ => none }
def TernNoneWrongFalsely : Prop := ternNoneRow.holds Try.pinned (OpenSpec.ofChange ternNoneWrong)

/- THE SECOND FORM. 'bulk': how many values and letters a reading holds, each counted each time it is reached (what is shared counts as often as it is met; a slice's spare places count too). A statement '..UptoSaid' is the law's where the arguments, and the package variables that the reading takes, are together of bulk at most 1048576: NARROWER than '..Said'. Prove '..Said' where nothing that the law and all that it calls make is longer than what came in: it says more and counts as full. Else prove '..UptoSaid'. A law counts once. -/
mutual
def uptoBulk {H : Type} : DataW H → Nat
  | .lit (.string bytes) => bytes.length + 1
  | .lit _ => 1
  | .nil => 1
  | .ptr d => uptoBulk d + 1
  | .slice elems spare => uptoBulkAll elems + uptoBulkAll spare + 1
  | .agg parts => uptoBulkAll parts + 1
  | .iface _ d => uptoBulk d + 1
  | .map entries => uptoBulkEntries entries + 1
  | .held _ => 1
def uptoBulkAll {H : Type} : List (DataW H) → Nat
  | [] => 0
  | d :: r => uptoBulk d + uptoBulkAll r
def uptoBulkEntries {H : Type} : List (Lit × DataW H) → Nat
  | [] => 0
  | x :: r => uptoBulkEntry x + uptoBulkEntries r
def uptoBulkEntry {H : Type} : Lit × DataW H → Nat
  | (.string bytes, d) => bytes.length + uptoBulk d + 1
  | (_, d) => uptoBulk d + 1
 end
def uptoSmall : (H : Type) → List (DataW H) → Bool := fun _ ds => decide (uptoBulkAll ds ≤ 1048576)
def OpenSpec.upto (s : _root_.Go.ChangeSpec) : _root_.Go.OpenSpec := { _root_.Go.OpenSpec.ofChange s with cond := some uptoSmall }

/-- 'bramblelaw13.TernUndoes', WHERE WHAT IT READS IS OF BULK AT MOST 1048576: true; the input reads as it did. -/
def ternUndoesUptoRow : OpenClaim := { program := "ytbnipbhkdodfpaa", sum := "434bab1f647c3c1e26d5a4251fe4b1f8de4f3ab1eea46c6d638d558f14f0d093", func := "bramble/bramblelaw13.TernUndoes", spec := "ternUndoes", inPlace := ["internal/bytealg.Compare", "slices.overlaps[bramble/api.Pair]"], unfollowed := true, recurses := true, apart := false, narrowed := true }
def TernUndoesUptoSaid : Prop := ternUndoesUptoRow.holds Try.pinned (OpenSpec.upto ternUndoesSpec)

/-- 'bramblelaw13.TernNone', WHERE WHAT IT READS IS OF BULK AT MOST 1048576: true; the input reads as it did. -/
def ternNoneUptoRow : OpenClaim := { program := "ytbnipbhkdodfpaa", sum := "434bab1f647c3c1e26d5a4251fe4b1f8de4f3ab1eea46c6d638d558f14f0d093", func := "bramble/bramblelaw13.TernNone", spec := "ternNone", inPlace := ["internal/bytealg.Compare", "slices.overlaps[bramble/api.Pair]"], unfollowed := true, recurses := true, apart := false, narrowed := true }
def TernNoneUptoSaid : Prop := ternNoneUptoRow.holds Try.pinned (OpenSpec.upto ternNoneSpec)

end Rows
end Go.Proofs.Ytbnipbhkdodfpaa
