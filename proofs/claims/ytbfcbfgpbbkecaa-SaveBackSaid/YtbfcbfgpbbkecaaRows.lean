/-
  No cell of these rows narrows 'for every input' (looked for: loops, veiled, ifaces, maps, wideKeys, modest, calm, conditions, laid).
  DERIVED. THE GIVEN ROWS OF THIS SEAT. 3 by the template 'for every input the law returns true; each argument reads behind the call as it read before'; 0 by the template 'total and deterministic' (their statements: YtbfcbfgpbbkecaaTotals.lean).
  GIVEN WITH THE SEED: the statements are not yours to turn. If you find one false, say at which input.
  Laid BY PROGRAM, IN A SANDBOX (cutbox-rows.mjs): the forced cells as the released guide's own fill.sh prints them over the translation 06da9effa266721d… (all of the seat's roots in one cut). By AI agents, Wed Nov 11 2026. No macro, syntax, notation, axiom, sorry.
-/
import Derived.Test.YtbfcbfgpbbkecaaChecked
import GoSem.Claim
import GoSem.ClaimJoined
import GoSem.ClaimMapViews
import Derived.JoinedTies
import Derived.KernelRfl
namespace Go.Proofs.Ytbfcbfgpbbkecaa
/- THE CELL 'sum', in the pinned program and in every row, IS THE sha256 OF THE DUMP (.gsa) THAT YtbfcbfgpbbkecaaProg.lean LOADS. Nothing in Lean hashes anything: it is a label: what it is worth is what the hold of that sum in a sandbox is worth. -/
noncomputable def Try.pinned : Pinned := { name := "ytbfcbfgpbbkecaa", sum := "06da9effa266721d8bd8684ff1aa788e38f9989ab893e1d01ed1740603836936", checked := Try.checked }
namespace Rows
def none {H : Type} : Left H := { results := [], args := [] }

/-- 'tourkeep3.SaveOnly': WHATEVER THE INPUT: true; the input reads as it did. -/
def saveOnlySpec : ChangeSpec := { name := "saveOnly", fn := fun _ => fun
  | [d] => { results := [.lit (.bool true)], args := [d] }
  | _ => none }
def saveOnlyRow : OpenClaim := { program := "ytbfcbfgpbbkecaa", sum := "06da9effa266721d8bd8684ff1aa788e38f9989ab893e1d01ed1740603836936", func := "tourney/tourkeep3.SaveOnly", spec := "saveOnly", inPlace := ["internal/bytealg.IndexByte"], unfollowed := true, recurses := true, apart := false }
def SaveOnlySaid : Prop := saveOnlyRow.holds Try.pinned (OpenSpec.ofChange saveOnlySpec)

/-- ITS FALSE NEIGHBOUR: 'it returns false'. Refute it at one input. -/
def saveOnlyWrong : ChangeSpec := { name := "saveOnly", fn := fun _ => fun
  | [d] => { results := [.lit (.bool false)], args := [d] }
  | _ => none }
def SaveOnlyWrongFalsely : Prop := saveOnlyRow.holds Try.pinned (OpenSpec.ofChange saveOnlyWrong)

/-- 'tourkeep3.SaveBack': WHATEVER THE INPUT: true; the input reads as it did. -/
def saveBackSpec : ChangeSpec := { name := "saveBack", fn := fun _ => fun
  | [d] => { results := [.lit (.bool true)], args := [d] }
  | _ => none }
def saveBackRow : OpenClaim := { program := "ytbfcbfgpbbkecaa", sum := "06da9effa266721d8bd8684ff1aa788e38f9989ab893e1d01ed1740603836936", func := "tourney/tourkeep3.SaveBack", spec := "saveBack", inPlace := ["internal/bytealg.IndexByte"], unfollowed := true, recurses := true, apart := false }
def SaveBackSaid : Prop := saveBackRow.holds Try.pinned (OpenSpec.ofChange saveBackSpec)

/-- ITS FALSE NEIGHBOUR: 'it returns false'. Refute it at one input. -/
def saveBackWrong : ChangeSpec := { name := "saveBack", fn := fun _ => fun
  | [d] => { results := [.lit (.bool false)], args := [d] }
  | _ => none }
def SaveBackWrongFalsely : Prop := saveBackRow.holds Try.pinned (OpenSpec.ofChange saveBackWrong)

/-- 'tourkeep3.SaveFlips': WHATEVER THE INPUT: true; the input reads as it did. -/
def saveFlipsSpec : ChangeSpec := { name := "saveFlips", fn := fun _ => fun
  | [d1, d2, d3] => { results := [.lit (.bool true)], args := [d1, d2, d3] }
  | _ => none }
def saveFlipsRow : OpenClaim := { program := "ytbfcbfgpbbkecaa", sum := "06da9effa266721d8bd8684ff1aa788e38f9989ab893e1d01ed1740603836936", func := "tourney/tourkeep3.SaveFlips", spec := "saveFlips", inPlace := ["internal/bytealg.IndexByte"], unfollowed := true, recurses := true, apart := false }
def SaveFlipsSaid : Prop := saveFlipsRow.holds Try.pinned (OpenSpec.ofChange saveFlipsSpec)

/-- ITS FALSE NEIGHBOUR: 'it returns false'. Refute it at one input. -/
def saveFlipsWrong : ChangeSpec := { name := "saveFlips", fn := fun _ => fun
  | [d1, d2, d3] => { results := [.lit (.bool false)], args := [d1, d2, d3] }
  | _ => none }
def SaveFlipsWrongFalsely : Prop := saveFlipsRow.holds Try.pinned (OpenSpec.ofChange saveFlipsWrong)

/- THE SECOND FORM. 'bulk': how many values and letters a reading holds, each counted each time it is reached (what is shared counts as often as it is met; a slice's spare places count too). A statement '..UptoSaid' is the law's where the arguments, and the package variables that the reading takes, are together of bulk at most 1048576: NARROWER than '..Said'. Prove '..Said' where nothing that the law and all that it calls make is longer than what came in: it says more and counts as full. Else prove '..UptoSaid'. A law counts once. -/
mutual
def uptoBulk {H : Type} : DataW H → Nat
  | .lit (.string bytes) => bytes.length + 1
  | .lit _ => 1
  | .nil => 1
  | .ptr d => uptoBulk d + 1
  | .slice elems spare => uptoBulkAll elems + uptoBulkAll spare + 1
  | .agg parts => uptoBulkAll parts + 1
  | .iface _ d => uptoBulk d + 1
  | .map entries => uptoBulkEntries entries + 1
  | .held _ => 1
def uptoBulkAll {H : Type} : List (DataW H) → Nat
  | [] => 0
  | d :: r => uptoBulk d + uptoBulkAll r
def uptoBulkEntries {H : Type} : List (Lit × DataW H) → Nat
  | [] => 0
  | x :: r => uptoBulkEntry x + uptoBulkEntries r
def uptoBulkEntry {H : Type} : Lit × DataW H → Nat
  | (.string bytes, d) => bytes.length + uptoBulk d + 1
  | (_, d) => uptoBulk d + 1
 end
def uptoSmall : (H : Type) → List (DataW H) → Bool := fun _ ds => decide (uptoBulkAll ds ≤ 1048576)
def OpenSpec.upto (s : _root_.Go.ChangeSpec) : _root_.Go.OpenSpec := { _root_.Go.OpenSpec.ofChange s with cond := some uptoSmall }

/-- 'tourkeep3.SaveOnly', WHERE WHAT IT READS IS OF BULK AT MOST 1048576: true; the input reads as it did. -/
def saveOnlyUptoRow : OpenClaim := { program := "ytbfcbfgpbbkecaa", sum := "06da9effa266721d8bd8684ff1aa788e38f9989ab893e1d01ed1740603836936", func := "tourney/tourkeep3.SaveOnly", spec := "saveOnly", inPlace := ["internal/bytealg.IndexByte"], unfollowed := true, recurses := true, apart := false, narrowed := true }
def SaveOnlyUptoSaid : Prop := saveOnlyUptoRow.holds Try.pinned (OpenSpec.upto saveOnlySpec)

/-- 'tourkeep3.SaveBack', WHERE WHAT IT READS IS OF BULK AT MOST 1048576: true; the input reads as it did. -/
def saveBackUptoRow : OpenClaim := { program := "ytbfcbfgpbbkecaa", sum := "06da9effa266721d8bd8684ff1aa788e38f9989ab893e1d01ed1740603836936", func := "tourney/tourkeep3.SaveBack", spec := "saveBack", inPlace := ["internal/bytealg.IndexByte"], unfollowed := true, recurses := true, apart := false, narrowed := true }
def SaveBackUptoSaid : Prop := saveBackUptoRow.holds Try.pinned (OpenSpec.upto saveBackSpec)

/-- 'tourkeep3.SaveFlips', WHERE WHAT IT READS IS OF BULK AT MOST 1048576: true; the input reads as it did. -/
def saveFlipsUptoRow : OpenClaim := { program := "ytbfcbfgpbbkecaa", sum := "06da9effa266721d8bd8684ff1aa788e38f9989ab893e1d01ed1740603836936", func := "tourney/tourkeep3.SaveFlips", spec := "saveFlips", inPlace := ["internal/bytealg.IndexByte"], unfollowed := true, recurses := true, apart := false, narrowed := true }
def SaveFlipsUptoSaid : Prop := saveFlipsUptoRow.holds Try.pinned (OpenSpec.upto saveFlipsSpec)

end Rows
end Go.Proofs.Ytbfcbfgpbbkecaa
