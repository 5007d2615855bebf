/-
  No cell of these rows narrows 'for every input' (looked for: loops, veiled, ifaces, maps, wideKeys, modest, calm, conditions, laid).
  DERIVED. THE GIVEN ROWS OF THIS SEAT. 2 by the template 'for every input the law returns true; each argument reads behind the call as it read before'; 0 by the template 'total and deterministic' (their statements: YtaodhkbppgenbaaTotals.lean).
  GIVEN WITH THE SEED: the statements are not yours to turn. If you find one false, say at which input.
  Laid BY PROGRAM, IN A SANDBOX (cutbox-rows.mjs): the forced cells as the released guide's own fill.sh prints them over the translation e5a632fb1667516a… (all of the seat's roots in one cut). By AI agents, Wed Nov 11 2026. No macro, syntax, notation, axiom, sorry.
-/
import Derived.Test.YtaodhkbppgenbaaChecked
import GoSem.Claim
import GoSem.ClaimJoined
import GoSem.ClaimMapViews
import Derived.JoinedTies
import Derived.KernelRfl
namespace Go.Proofs.Ytaodhkbppgenbaa
/- THE CELL 'sum', in the pinned program and in every row, IS THE sha256 OF THE DUMP (.gsa) THAT YtaodhkbppgenbaaProg.lean LOADS. Nothing in Lean hashes anything: it is a label: what it is worth is what the hold of that sum in a sandbox is worth. -/
noncomputable def Try.pinned : Pinned := { name := "ytaodhkbppgenbaa", sum := "e5a632fb1667516aaa44f0ca4f889bf5ef0691a25f03037eed3e200e68524ee8", checked := Try.checked }
namespace Rows
def none {H : Type} : Left H := { results := [], args := [] }

/-- 'tourkeep3.ColumnSorts': WHATEVER THE INPUT: true; the input reads as it did. -/
def columnSortsSpec : ChangeSpec := { name := "columnSorts", fn := fun _ => fun
  | [d] => { results := [.lit (.bool true)], args := [d] }
  | _ => none }
def columnSortsRow : OpenClaim := { program := "ytaodhkbppgenbaa", sum := "e5a632fb1667516aaa44f0ca4f889bf5ef0691a25f03037eed3e200e68524ee8", func := "tourney/tourkeep3.ColumnSorts", spec := "columnSorts", unfollowed := true, recurses := true, apart := false }
def ColumnSortsSaid : Prop := columnSortsRow.holds Try.pinned (OpenSpec.ofChange columnSortsSpec)

/-- ITS FALSE NEIGHBOUR: 'it returns false'. Refute it at one input. -/
def columnSortsWrong : ChangeSpec := { name := "columnSorts", fn := fun _ => fun
  | [d] => { results := [.lit (.bool false)], args := [d] }
  | _ => none }
def ColumnSortsWrongFalsely : Prop := columnSortsRow.holds Try.pinned (OpenSpec.ofChange columnSortsWrong)

/-- 'tourtop.TopPackedWorld': WHATEVER THE INPUT: true; the input reads as it did. -/
def topPackedWorldSpec : ChangeSpec := { name := "topPackedWorld", fn := fun _ => fun
  | [d] => { results := [.lit (.bool true)], args := [d] }
  | _ => none }
def topPackedWorldRow : OpenClaim := { program := "ytaodhkbppgenbaa", sum := "e5a632fb1667516aaa44f0ca4f889bf5ef0691a25f03037eed3e200e68524ee8", func := "tourney/tourtop.TopPackedWorld", spec := "topPackedWorld", inPlace := ["slices.overlaps[tourney/api.Item]"], unfollowed := true, recurses := true, apart := false }
def TopPackedWorldSaid : Prop := topPackedWorldRow.holds Try.pinned (OpenSpec.ofChange topPackedWorldSpec)

/-- ITS FALSE NEIGHBOUR: 'it returns false'. Refute it at one input. -/
def topPackedWorldWrong : ChangeSpec := { name := "topPackedWorld", fn := fun _ => fun
  | [d] => { results := [.lit (.bool false)], args := [d] }
  | _ => none }
def TopPackedWorldWrongFalsely : Prop := topPackedWorldRow.holds Try.pinned (OpenSpec.ofChange topPackedWorldWrong)

/- THE SECOND FORM. 'bulk': how many values and letters a reading holds, each counted each time it is reached (what is shared counts as often as it is met; a slice's spare places count too). A statement '..UptoSaid' is the law's where the arguments, and the package variables that the reading takes, are together of bulk at most 1048576: NARROWER than '..Said'. Prove '..Said' where nothing that the law and all that it calls make is longer than what came in: it says more and counts as full. Else prove '..UptoSaid'. A law counts once. -/
mutual
def uptoBulk {H : Type} : DataW H → Nat
  | .lit (.string bytes) => bytes.length + 1
  | .lit _ => 1
  | .nil => 1
  | .ptr d => uptoBulk d + 1
  | .slice elems spare => uptoBulkAll elems + uptoBulkAll spare + 1
  | .agg parts => uptoBulkAll parts + 1
  | .iface _ d => uptoBulk d + 1
  | .map entries => uptoBulkEntries entries + 1
  | .held _ => 1
def uptoBulkAll {H : Type} : List (DataW H) → Nat
  | [] => 0
  | d :: r => uptoBulk d + uptoBulkAll r
def uptoBulkEntries {H : Type} : List (Lit × DataW H) → Nat
  | [] => 0
  | x :: r => uptoBulkEntry x + uptoBulkEntries r
def uptoBulkEntry {H : Type} : Lit × DataW H → Nat
  | (.string bytes, d) => bytes.length + uptoBulk d + 1
  | (_, d) => uptoBulk d + 1
 end
def uptoSmall : (H : Type) → List (DataW H) → Bool := fun _ ds => decide (uptoBulkAll ds ≤ 1048576)
def OpenSpec.upto (s : _root_.Go.ChangeSpec) : _root_.Go.OpenSpec := { _root_.Go.OpenSpec.ofChange s with cond := some uptoSmall }

/-- 'tourkeep3.ColumnSorts', WHERE WHAT IT READS IS OF BULK AT MOST 1048576: true; the input reads as it did. -/
def columnSortsUptoRow : OpenClaim := { program := "ytaodhkbppgenbaa", sum := "e5a632fb1667516aaa44f0ca4f889bf5ef0691a25f03037eed3e200e68524ee8", func := "tourney/tourkeep3.ColumnSorts", spec := "columnSorts", unfollowed := true, recurses := true, apart := false, narrowed := true }
def ColumnSortsUptoSaid : Prop := columnSortsUptoRow.holds Try.pinned (OpenSpec.upto columnSortsSpec)

/-- 'tourtop.TopPackedWorld', WHERE WHAT IT READS IS OF BULK AT MOST 1048576: true; the input reads as it did. -/
def topPackedWorldUptoRow : OpenClaim := { program := "ytaodhkbppgenbaa", sum := "e5a632fb1667516aaa44f0ca4f889bf5ef0691a25f03037eed3e200e68524ee8", func := "tourney/tourtop.TopPackedWorld", spec := "topPackedWorld", inPlace := ["slices.overlaps[tourney/api.Item]"], unfollowed := true, recurses := true, apart := false, narrowed := true }
def TopPackedWorldUptoSaid : Prop := topPackedWorldUptoRow.holds Try.pinned (OpenSpec.upto topPackedWorldSpec)

end Rows
end Go.Proofs.Ytaodhkbppgenbaa
