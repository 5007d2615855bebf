/-
  No cell of these rows narrows 'for every input' (looked for: loops, veiled, ifaces, maps, wideKeys, modest, calm, conditions, laid).
  DERIVED. THE GIVEN ROWS OF THIS SEAT. 3 by the template 'for every input the law returns true; each argument reads behind the call as it read before'; 0 by the template 'total and deterministic' (their statements: YtmkahplhnbbgmaaGreatTotals.lean).
  GIVEN WITH THE SEED: the statements are not yours to turn. If you find one false, say at which input.
  Laid BY PROGRAM, IN A SANDBOX (cutbox-rows.mjs): the forced cells as the released guide's own fill.sh prints them over the translation 2d30dd6ea2acfd86… (all of the seat's roots in one cut). By AI agents, Wed Nov 11 2026. No macro, syntax, notation, axiom, sorry.
-/
import Derived.Test.YtmkahplhnbbgmaaGreatChecked
import GoSem.Claim
import GoSem.ClaimJoined
import GoSem.ClaimMapViews
import Derived.JoinedTies
import Derived.KernelRfl
namespace Go.Proofs.YtmkahplhnbbgmaaGreat
/- THE CELL 'sum', in the pinned program and in every row, IS THE sha256 OF THE DUMP (.gsa) THAT YtmkahplhnbbgmaaGreatProg.lean LOADS. Nothing in Lean hashes anything: it is a label: what it is worth is what the hold of that sum in a sandbox is worth. -/
noncomputable def Tryz.pinned : Pinned := { name := "ytmkahplhnbbgmaagreat", sum := "2d30dd6ea2acfd860c001ab2286d570bf600720acab4fa12d6baf6d38e5acd68", checked := Tryz.checked }
namespace Rows
def none {H : Type} : Left H := { results := [], args := [] }

/-- 'tourkeep3.WorldOwn': WHATEVER THE INPUT: true; the input reads as it did. -/
def worldOwnSpec : ChangeSpec := { name := "worldOwn", fn := fun _ => fun
  | [d1, d2] => { results := [.lit (.bool true)], args := [d1, d2] }
  | _ => none }
def worldOwnRow : OpenClaim := { program := "ytmkahplhnbbgmaagreat", sum := "2d30dd6ea2acfd860c001ab2286d570bf600720acab4fa12d6baf6d38e5acd68", func := "tourney/tourkeep3.WorldOwn", spec := "worldOwn", inPlace := ["slices.overlaps[tourney/api.Item]", "slices.overlaps[tourney/api.Comp]", "slices.overlaps[*tourney/arch.table]"], unfollowed := true, recurses := true, plainKeys := false, apart := false }
def WorldOwnSaid : Prop := worldOwnRow.holds Tryz.pinned (OpenSpec.ofChange worldOwnSpec)

/-- ITS FALSE NEIGHBOUR: 'it returns false'. Refute it at one input. -/
def worldOwnWrong : ChangeSpec := { name := "worldOwn", fn := fun _ => fun
  | [d1, d2] => { results := [.lit (.bool false)], args := [d1, d2] }
  | _ => none }
def WorldOwnWrongFalsely : Prop := worldOwnRow.holds Tryz.pinned (OpenSpec.ofChange worldOwnWrong)

/-- 'tourtop.TopMarks': WHATEVER THE INPUT: true; the input reads as it did. -/
def topMarksSpec : ChangeSpec := { name := "topMarks", fn := fun _ => fun
  | [d1, d2, d3, d4] => { results := [.lit (.bool true)], args := [d1, d2, d3, d4] }
  | _ => none }
def topMarksRow : OpenClaim := { program := "ytmkahplhnbbgmaagreat", sum := "2d30dd6ea2acfd860c001ab2286d570bf600720acab4fa12d6baf6d38e5acd68", func := "tourney/tourtop.TopMarks", spec := "topMarks", inPlace := ["slices.overlaps[*tourney/arch.table]"], unfollowed := true, recurses := true, named := ["math/bits.divideError", "math/bits.overflowError"], plainKeys := false, apart := false }
def TopMarksSaid : Prop := topMarksRow.holds Tryz.pinned (OpenSpec.ofChange topMarksSpec)

/-- ITS FALSE NEIGHBOUR: 'it returns false'. Refute it at one input. -/
def topMarksWrong : ChangeSpec := { name := "topMarks", fn := fun _ => fun
  | [d1, d2, d3, d4] => { results := [.lit (.bool false)], args := [d1, d2, d3, d4] }
  | _ => none }
def TopMarksWrongFalsely : Prop := topMarksRow.holds Tryz.pinned (OpenSpec.ofChange topMarksWrong)

/-- 'tourtop.TopSaved': WHATEVER THE INPUT: true; the input reads as it did. -/
def topSavedSpec : ChangeSpec := { name := "topSaved", fn := fun _ => fun
  | [d1, d2, d3] => { results := [.lit (.bool true)], args := [d1, d2, d3] }
  | _ => none }
def topSavedRow : OpenClaim := { program := "ytmkahplhnbbgmaagreat", sum := "2d30dd6ea2acfd860c001ab2286d570bf600720acab4fa12d6baf6d38e5acd68", func := "tourney/tourtop.TopSaved", spec := "topSaved", inPlace := ["slices.overlaps[*tourney/arch.table]", "internal/bytealg.IndexByte"], unfollowed := true, recurses := true, named := ["math/bits.divideError", "math/bits.overflowError"], plainKeys := false, apart := false }
def TopSavedSaid : Prop := topSavedRow.holds Tryz.pinned (OpenSpec.ofChange topSavedSpec)

/-- ITS FALSE NEIGHBOUR: 'it returns false'. Refute it at one input. -/
def topSavedWrong : ChangeSpec := { name := "topSaved", fn := fun _ => fun
  | [d1, d2, d3] => { results := [.lit (.bool false)], args := [d1, d2, d3] }
  | _ => none }
def TopSavedWrongFalsely : Prop := topSavedRow.holds Tryz.pinned (OpenSpec.ofChange topSavedWrong)

/- THE SECOND FORM. 'bulk': how many values and letters a reading holds, each counted each time it is reached (what is shared counts as often as it is met; a slice's spare places count too). A statement '..UptoSaid' is the law's where the arguments, and the package variables that the reading takes, are together of bulk at most 1048576: NARROWER than '..Said'. Prove '..Said' where nothing that the law and all that it calls make is longer than what came in: it says more and counts as full. Else prove '..UptoSaid'. A law counts once. -/
mutual
def uptoBulk {H : Type} : DataW H → Nat
  | .lit (.string bytes) => bytes.length + 1
  | .lit _ => 1
  | .nil => 1
  | .ptr d => uptoBulk d + 1
  | .slice elems spare => uptoBulkAll elems + uptoBulkAll spare + 1
  | .agg parts => uptoBulkAll parts + 1
  | .iface _ d => uptoBulk d + 1
  | .map entries => uptoBulkEntries entries + 1
  | .held _ => 1
def uptoBulkAll {H : Type} : List (DataW H) → Nat
  | [] => 0
  | d :: r => uptoBulk d + uptoBulkAll r
def uptoBulkEntries {H : Type} : List (Lit × DataW H) → Nat
  | [] => 0
  | x :: r => uptoBulkEntry x + uptoBulkEntries r
def uptoBulkEntry {H : Type} : Lit × DataW H → Nat
  | (.string bytes, d) => bytes.length + uptoBulk d + 1
  | (_, d) => uptoBulk d + 1
 end
def uptoSmall : (H : Type) → List (DataW H) → Bool := fun _ ds => decide (uptoBulkAll ds ≤ 1048576)
def OpenSpec.upto (s : _root_.Go.ChangeSpec) : _root_.Go.OpenSpec := { _root_.Go.OpenSpec.ofChange s with cond := some uptoSmall }

/-- 'tourkeep3.WorldOwn', WHERE WHAT IT READS IS OF BULK AT MOST 1048576: true; the input reads as it did. -/
def worldOwnUptoRow : OpenClaim := { program := "ytmkahplhnbbgmaagreat", sum := "2d30dd6ea2acfd860c001ab2286d570bf600720acab4fa12d6baf6d38e5acd68", func := "tourney/tourkeep3.WorldOwn", spec := "worldOwn", inPlace := ["slices.overlaps[tourney/api.Item]", "slices.overlaps[tourney/api.Comp]", "slices.overlaps[*tourney/arch.table]"], unfollowed := true, recurses := true, plainKeys := false, apart := false, narrowed := true }
def WorldOwnUptoSaid : Prop := worldOwnUptoRow.holds Tryz.pinned (OpenSpec.upto worldOwnSpec)

/-- 'tourtop.TopMarks', WHERE WHAT IT READS IS OF BULK AT MOST 1048576: true; the input reads as it did. -/
def topMarksUptoRow : OpenClaim := { program := "ytmkahplhnbbgmaagreat", sum := "2d30dd6ea2acfd860c001ab2286d570bf600720acab4fa12d6baf6d38e5acd68", func := "tourney/tourtop.TopMarks", spec := "topMarks", inPlace := ["slices.overlaps[*tourney/arch.table]"], unfollowed := true, recurses := true, named := ["math/bits.divideError", "math/bits.overflowError"], plainKeys := false, apart := false, narrowed := true }
def TopMarksUptoSaid : Prop := topMarksUptoRow.holds Tryz.pinned (OpenSpec.upto topMarksSpec)

/-- 'tourtop.TopSaved', WHERE WHAT IT READS IS OF BULK AT MOST 1048576: true; the input reads as it did. -/
def topSavedUptoRow : OpenClaim := { program := "ytmkahplhnbbgmaagreat", sum := "2d30dd6ea2acfd860c001ab2286d570bf600720acab4fa12d6baf6d38e5acd68", func := "tourney/tourtop.TopSaved", spec := "topSaved", inPlace := ["slices.overlaps[*tourney/arch.table]", "internal/bytealg.IndexByte"], unfollowed := true, recurses := true, named := ["math/bits.divideError", "math/bits.overflowError"], plainKeys := false, apart := false, narrowed := true }
def TopSavedUptoSaid : Prop := topSavedUptoRow.holds Tryz.pinned (OpenSpec.upto topSavedSpec)

end Rows
end Go.Proofs.YtmkahplhnbbgmaaGreat
