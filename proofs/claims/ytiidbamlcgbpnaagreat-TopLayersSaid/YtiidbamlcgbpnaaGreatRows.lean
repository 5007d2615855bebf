/-
  No cell of these rows narrows 'for every input' (looked for: loops, veiled, ifaces, maps, wideKeys, modest, calm, conditions, laid).
  DERIVED. THE GIVEN ROWS OF THIS SEAT. 8 by the template 'for every input the law returns true; each argument reads behind the call as it read before'; 0 by the template 'total and deterministic' (their statements: YtiidbamlcgbpnaaGreatTotals.lean).
  GIVEN WITH THE SEED: the statements are not yours to turn. If you find one false, say at which input.
  Laid BY PROGRAM, IN A SANDBOX (cutbox-rows.mjs): the forced cells as the released guide's own fill.sh prints them over the translation c7d74bb9df6a4715… (all of the seat's roots in one cut). By AI agents, Wed Nov 11 2026. No macro, syntax, notation, axiom, sorry.
-/
import Derived.Test.YtiidbamlcgbpnaaGreatChecked
import GoSem.Claim
import GoSem.ClaimJoined
import GoSem.ClaimMapViews
import Derived.JoinedTies
import Derived.KernelRfl
namespace Go.Proofs.YtiidbamlcgbpnaaGreat
/- THE CELL 'sum', in the pinned program and in every row, IS THE sha256 OF THE DUMP (.gsa) THAT YtiidbamlcgbpnaaGreatProg.lean LOADS. Nothing in Lean hashes anything: it is a label: what it is worth is what the hold of that sum in a sandbox is worth. -/
noncomputable def Tryz.pinned : Pinned := { name := "ytiidbamlcgbpnaagreat", sum := "c7d74bb9df6a47156162947bdf54ece267b72abd2ea6cdb5afc6f2cfb3d5dae5", checked := Tryz.checked }
namespace Rows
def none {H : Type} : Left H := { results := [], args := [] }

/-- 'tourkeep3.WorldOwn': WHATEVER THE INPUT: true; the input reads as it did. -/
def worldOwnSpec : ChangeSpec := { name := "worldOwn", fn := fun _ => fun
  | [d1, d2] => { results := [.lit (.bool true)], args := [d1, d2] }
  | _ => none }
def worldOwnRow : OpenClaim := { program := "ytiidbamlcgbpnaagreat", sum := "c7d74bb9df6a47156162947bdf54ece267b72abd2ea6cdb5afc6f2cfb3d5dae5", func := "tourney/tourkeep3.WorldOwn", spec := "worldOwn", inPlace := ["slices.overlaps[tourney/api.Item]", "slices.overlaps[tourney/api.Comp]", "slices.overlaps[*tourney/arch.table]"], unfollowed := true, recurses := true, plainKeys := false, apart := false }
def WorldOwnSaid : Prop := worldOwnRow.holds Tryz.pinned (OpenSpec.ofChange worldOwnSpec)

/-- ITS FALSE NEIGHBOUR: 'it returns false'. Refute it at one input. -/
def worldOwnWrong : ChangeSpec := { name := "worldOwn", fn := fun _ => fun
  | [d1, d2] => { results := [.lit (.bool false)], args := [d1, d2] }
  | _ => none }
def WorldOwnWrongFalsely : Prop := worldOwnRow.holds Tryz.pinned (OpenSpec.ofChange worldOwnWrong)

/-- 'tourkeep3.MarkPatches': WHATEVER THE INPUT: true; the input reads as it did. -/
def markPatchesSpec : ChangeSpec := { name := "markPatches", fn := fun _ => fun
  | [d1, d2] => { results := [.lit (.bool true)], args := [d1, d2] }
  | _ => none }
def markPatchesRow : OpenClaim := { program := "ytiidbamlcgbpnaagreat", sum := "c7d74bb9df6a47156162947bdf54ece267b72abd2ea6cdb5afc6f2cfb3d5dae5", func := "tourney/tourkeep3.MarkPatches", spec := "markPatches", inPlace := ["slices.overlaps[*tourney/arch.table]"], unfollowed := true, recurses := true, plainKeys := false, apart := false }
def MarkPatchesSaid : Prop := markPatchesRow.holds Tryz.pinned (OpenSpec.ofChange markPatchesSpec)

/-- ITS FALSE NEIGHBOUR: 'it returns false'. Refute it at one input. -/
def markPatchesWrong : ChangeSpec := { name := "markPatches", fn := fun _ => fun
  | [d1, d2] => { results := [.lit (.bool false)], args := [d1, d2] }
  | _ => none }
def MarkPatchesWrongFalsely : Prop := markPatchesRow.holds Tryz.pinned (OpenSpec.ofChange markPatchesWrong)

/-- 'tourkeep3.MarkLast': WHATEVER THE INPUT: true; the input reads as it did. -/
def markLastSpec : ChangeSpec := { name := "markLast", fn := fun _ => fun
  | [d1, d2, d3] => { results := [.lit (.bool true)], args := [d1, d2, d3] }
  | _ => none }
def markLastRow : OpenClaim := { program := "ytiidbamlcgbpnaagreat", sum := "c7d74bb9df6a47156162947bdf54ece267b72abd2ea6cdb5afc6f2cfb3d5dae5", func := "tourney/tourkeep3.MarkLast", spec := "markLast", inPlace := ["slices.overlaps[*tourney/arch.table]"], unfollowed := true, recurses := true, plainKeys := false, apart := false }
def MarkLastSaid : Prop := markLastRow.holds Tryz.pinned (OpenSpec.ofChange markLastSpec)

/-- ITS FALSE NEIGHBOUR: 'it returns false'. Refute it at one input. -/
def markLastWrong : ChangeSpec := { name := "markLast", fn := fun _ => fun
  | [d1, d2, d3] => { results := [.lit (.bool false)], args := [d1, d2, d3] }
  | _ => none }
def MarkLastWrongFalsely : Prop := markLastRow.holds Tryz.pinned (OpenSpec.ofChange markLastWrong)

/-- 'tourkeep3.MarkTold': WHATEVER THE INPUT: true; the input reads as it did. -/
def markToldSpec : ChangeSpec := { name := "markTold", fn := fun _ => fun
  | [d1, d2] => { results := [.lit (.bool true)], args := [d1, d2] }
  | _ => none }
def markToldRow : OpenClaim := { program := "ytiidbamlcgbpnaagreat", sum := "c7d74bb9df6a47156162947bdf54ece267b72abd2ea6cdb5afc6f2cfb3d5dae5", func := "tourney/tourkeep3.MarkTold", spec := "markTold", inPlace := ["slices.overlaps[*tourney/arch.table]"], unfollowed := true, recurses := true, plainKeys := false, apart := false }
def MarkToldSaid : Prop := markToldRow.holds Tryz.pinned (OpenSpec.ofChange markToldSpec)

/-- ITS FALSE NEIGHBOUR: 'it returns false'. Refute it at one input. -/
def markToldWrong : ChangeSpec := { name := "markTold", fn := fun _ => fun
  | [d1, d2] => { results := [.lit (.bool false)], args := [d1, d2] }
  | _ => none }
def MarkToldWrongFalsely : Prop := markToldRow.holds Tryz.pinned (OpenSpec.ofChange markToldWrong)

/-- 'tourtop.TopExchange': WHATEVER THE INPUT: true; the input reads as it did. -/
def topExchangeSpec : ChangeSpec := { name := "topExchange", fn := fun _ => fun
  | [d1, d2, d3, d4, d5] => { results := [.lit (.bool true)], args := [d1, d2, d3, d4, d5] }
  | _ => none }
def topExchangeRow : OpenClaim := { program := "ytiidbamlcgbpnaagreat", sum := "c7d74bb9df6a47156162947bdf54ece267b72abd2ea6cdb5afc6f2cfb3d5dae5", func := "tourney/tourtop.TopExchange", spec := "topExchange", inPlace := ["slices.overlaps[*tourney/arch.table]"], unfollowed := true, recurses := true, named := ["math/bits.divideError", "math/bits.overflowError"], plainKeys := false, apart := false }
def TopExchangeSaid : Prop := topExchangeRow.holds Tryz.pinned (OpenSpec.ofChange topExchangeSpec)

/-- ITS FALSE NEIGHBOUR: 'it returns false'. Refute it at one input. -/
def topExchangeWrong : ChangeSpec := { name := "topExchange", fn := fun _ => fun
  | [d1, d2, d3, d4, d5] => { results := [.lit (.bool false)], args := [d1, d2, d3, d4, d5] }
  | _ => none }
def TopExchangeWrongFalsely : Prop := topExchangeRow.holds Tryz.pinned (OpenSpec.ofChange topExchangeWrong)

/-- 'tourtop.TopLayers': WHATEVER THE INPUT: true; the input reads as it did. -/
def topLayersSpec : ChangeSpec := { name := "topLayers", fn := fun _ => fun
  | [d1, d2, d3, d4] => { results := [.lit (.bool true)], args := [d1, d2, d3, d4] }
  | _ => none }
def topLayersRow : OpenClaim := { program := "ytiidbamlcgbpnaagreat", sum := "c7d74bb9df6a47156162947bdf54ece267b72abd2ea6cdb5afc6f2cfb3d5dae5", func := "tourney/tourtop.TopLayers", spec := "topLayers", inPlace := ["slices.overlaps[*tourney/arch.table]"], unfollowed := true, recurses := true, named := ["math/bits.divideError", "math/bits.overflowError"], plainKeys := false, apart := false }
def TopLayersSaid : Prop := topLayersRow.holds Tryz.pinned (OpenSpec.ofChange topLayersSpec)

/-- ITS FALSE NEIGHBOUR: 'it returns false'. Refute it at one input. -/
def topLayersWrong : ChangeSpec := { name := "topLayers", fn := fun _ => fun
  | [d1, d2, d3, d4] => { results := [.lit (.bool false)], args := [d1, d2, d3, d4] }
  | _ => none }
def TopLayersWrongFalsely : Prop := topLayersRow.holds Tryz.pinned (OpenSpec.ofChange topLayersWrong)

/-- 'tourtop.TopMarks': WHATEVER THE INPUT: true; the input reads as it did. -/
def topMarksSpec : ChangeSpec := { name := "topMarks", fn := fun _ => fun
  | [d1, d2, d3, d4] => { results := [.lit (.bool true)], args := [d1, d2, d3, d4] }
  | _ => none }
def topMarksRow : OpenClaim := { program := "ytiidbamlcgbpnaagreat", sum := "c7d74bb9df6a47156162947bdf54ece267b72abd2ea6cdb5afc6f2cfb3d5dae5", func := "tourney/tourtop.TopMarks", spec := "topMarks", inPlace := ["slices.overlaps[*tourney/arch.table]"], unfollowed := true, recurses := true, named := ["math/bits.divideError", "math/bits.overflowError"], plainKeys := false, apart := false }
def TopMarksSaid : Prop := topMarksRow.holds Tryz.pinned (OpenSpec.ofChange topMarksSpec)

/-- ITS FALSE NEIGHBOUR: 'it returns false'. Refute it at one input. -/
def topMarksWrong : ChangeSpec := { name := "topMarks", fn := fun _ => fun
  | [d1, d2, d3, d4] => { results := [.lit (.bool false)], args := [d1, d2, d3, d4] }
  | _ => none }
def TopMarksWrongFalsely : Prop := topMarksRow.holds Tryz.pinned (OpenSpec.ofChange topMarksWrong)

/-- 'tourtop.TopSaved': WHATEVER THE INPUT: true; the input reads as it did. -/
def topSavedSpec : ChangeSpec := { name := "topSaved", fn := fun _ => fun
  | [d1, d2, d3] => { results := [.lit (.bool true)], args := [d1, d2, d3] }
  | _ => none }
def topSavedRow : OpenClaim := { program := "ytiidbamlcgbpnaagreat", sum := "c7d74bb9df6a47156162947bdf54ece267b72abd2ea6cdb5afc6f2cfb3d5dae5", func := "tourney/tourtop.TopSaved", spec := "topSaved", inPlace := ["slices.overlaps[*tourney/arch.table]", "internal/bytealg.IndexByte"], unfollowed := true, recurses := true, named := ["math/bits.divideError", "math/bits.overflowError"], plainKeys := false, apart := false }
def TopSavedSaid : Prop := topSavedRow.holds Tryz.pinned (OpenSpec.ofChange topSavedSpec)

/-- ITS FALSE NEIGHBOUR: 'it returns false'. Refute it at one input. -/
def topSavedWrong : ChangeSpec := { name := "topSaved", fn := fun _ => fun
  | [d1, d2, d3] => { results := [.lit (.bool false)], args := [d1, d2, d3] }
  | _ => none }
def TopSavedWrongFalsely : Prop := topSavedRow.holds Tryz.pinned (OpenSpec.ofChange topSavedWrong)

/- THE SECOND FORM. 'bulk': how many values and letters a reading holds, each counted each time it is reached (what is shared counts as often as it is met; a slice's spare places count too). A statement '..UptoSaid' is the law's where the arguments, and the package variables that the reading takes, are together of bulk at most 1048576: NARROWER than '..Said'. Prove '..Said' where nothing that the law and all that it calls make is longer than what came in: it says more and counts as full. Else prove '..UptoSaid'. A law counts once. -/
mutual
def uptoBulk {H : Type} : DataW H → Nat
  | .lit (.string bytes) => bytes.length + 1
  | .lit _ => 1
  | .nil => 1
  | .ptr d => uptoBulk d + 1
  | .slice elems spare => uptoBulkAll elems + uptoBulkAll spare + 1
  | .agg parts => uptoBulkAll parts + 1
  | .iface _ d => uptoBulk d + 1
  | .map entries => uptoBulkEntries entries + 1
  | .held _ => 1
def uptoBulkAll {H : Type} : List (DataW H) → Nat
  | [] => 0
  | d :: r => uptoBulk d + uptoBulkAll r
def uptoBulkEntries {H : Type} : List (Lit × DataW H) → Nat
  | [] => 0
  | x :: r => uptoBulkEntry x + uptoBulkEntries r
def uptoBulkEntry {H : Type} : Lit × DataW H → Nat
  | (.string bytes, d) => bytes.length + uptoBulk d + 1
  | (_, d) => uptoBulk d + 1
 end
def uptoSmall : (H : Type) → List (DataW H) → Bool := fun _ ds => decide (uptoBulkAll ds ≤ 1048576)
def OpenSpec.upto (s : _root_.Go.ChangeSpec) : _root_.Go.OpenSpec := { _root_.Go.OpenSpec.ofChange s with cond := some uptoSmall }

/-- 'tourkeep3.WorldOwn', WHERE WHAT IT READS IS OF BULK AT MOST 1048576: true; the input reads as it did. -/
def worldOwnUptoRow : OpenClaim := { program := "ytiidbamlcgbpnaagreat", sum := "c7d74bb9df6a47156162947bdf54ece267b72abd2ea6cdb5afc6f2cfb3d5dae5", func := "tourney/tourkeep3.WorldOwn", spec := "worldOwn", inPlace := ["slices.overlaps[tourney/api.Item]", "slices.overlaps[tourney/api.Comp]", "slices.overlaps[*tourney/arch.table]"], unfollowed := true, recurses := true, plainKeys := false, apart := false, narrowed := true }
def WorldOwnUptoSaid : Prop := worldOwnUptoRow.holds Tryz.pinned (OpenSpec.upto worldOwnSpec)

/-- 'tourkeep3.MarkPatches', WHERE WHAT IT READS IS OF BULK AT MOST 1048576: true; the input reads as it did. -/
def markPatchesUptoRow : OpenClaim := { program := "ytiidbamlcgbpnaagreat", sum := "c7d74bb9df6a47156162947bdf54ece267b72abd2ea6cdb5afc6f2cfb3d5dae5", func := "tourney/tourkeep3.MarkPatches", spec := "markPatches", inPlace := ["slices.overlaps[*tourney/arch.table]"], unfollowed := true, recurses := true, plainKeys := false, apart := false, narrowed := true }
def MarkPatchesUptoSaid : Prop := markPatchesUptoRow.holds Tryz.pinned (OpenSpec.upto markPatchesSpec)

/-- 'tourkeep3.MarkLast', WHERE WHAT IT READS IS OF BULK AT MOST 1048576: true; the input reads as it did. -/
def markLastUptoRow : OpenClaim := { program := "ytiidbamlcgbpnaagreat", sum := "c7d74bb9df6a47156162947bdf54ece267b72abd2ea6cdb5afc6f2cfb3d5dae5", func := "tourney/tourkeep3.MarkLast", spec := "markLast", inPlace := ["slices.overlaps[*tourney/arch.table]"], unfollowed := true, recurses := true, plainKeys := false, apart := false, narrowed := true }
def MarkLastUptoSaid : Prop := markLastUptoRow.holds Tryz.pinned (OpenSpec.upto markLastSpec)

/-- 'tourkeep3.MarkTold', WHERE WHAT IT READS IS OF BULK AT MOST 1048576: true; the input reads as it did. -/
def markToldUptoRow : OpenClaim := { program := "ytiidbamlcgbpnaagreat", sum := "c7d74bb9df6a47156162947bdf54ece267b72abd2ea6cdb5afc6f2cfb3d5dae5", func := "tourney/tourkeep3.MarkTold", spec := "markTold", inPlace := ["slices.overlaps[*tourney/arch.table]"], unfollowed := true, recurses := true, plainKeys := false, apart := false, narrowed := true }
def MarkToldUptoSaid : Prop := markToldUptoRow.holds Tryz.pinned (OpenSpec.upto markToldSpec)

/-- 'tourtop.TopExchange', WHERE WHAT IT READS IS OF BULK AT MOST 1048576: true; the input reads as it did. -/
def topExchangeUptoRow : OpenClaim := { program := "ytiidbamlcgbpnaagreat", sum := "c7d74bb9df6a47156162947bdf54ece267b72abd2ea6cdb5afc6f2cfb3d5dae5", func := "tourney/tourtop.TopExchange", spec := "topExchange", inPlace := ["slices.overlaps[*tourney/arch.table]"], unfollowed := true, recurses := true, named := ["math/bits.divideError", "math/bits.overflowError"], plainKeys := false, apart := false, narrowed := true }
def TopExchangeUptoSaid : Prop := topExchangeUptoRow.holds Tryz.pinned (OpenSpec.upto topExchangeSpec)

/-- 'tourtop.TopLayers', WHERE WHAT IT READS IS OF BULK AT MOST 1048576: true; the input reads as it did. -/
def topLayersUptoRow : OpenClaim := { program := "ytiidbamlcgbpnaagreat", sum := "c7d74bb9df6a47156162947bdf54ece267b72abd2ea6cdb5afc6f2cfb3d5dae5", func := "tourney/tourtop.TopLayers", spec := "topLayers", inPlace := ["slices.overlaps[*tourney/arch.table]"], unfollowed := true, recurses := true, named := ["math/bits.divideError", "math/bits.overflowError"], plainKeys := false, apart := false, narrowed := true }
def TopLayersUptoSaid : Prop := topLayersUptoRow.holds Tryz.pinned (OpenSpec.upto topLayersSpec)

/-- 'tourtop.TopMarks', WHERE WHAT IT READS IS OF BULK AT MOST 1048576: true; the input reads as it did. -/
def topMarksUptoRow : OpenClaim := { program := "ytiidbamlcgbpnaagreat", sum := "c7d74bb9df6a47156162947bdf54ece267b72abd2ea6cdb5afc6f2cfb3d5dae5", func := "tourney/tourtop.TopMarks", spec := "topMarks", inPlace := ["slices.overlaps[*tourney/arch.table]"], unfollowed := true, recurses := true, named := ["math/bits.divideError", "math/bits.overflowError"], plainKeys := false, apart := false, narrowed := true }
def TopMarksUptoSaid : Prop := topMarksUptoRow.holds Tryz.pinned (OpenSpec.upto topMarksSpec)

/-- 'tourtop.TopSaved', WHERE WHAT IT READS IS OF BULK AT MOST 1048576: true; the input reads as it did. -/
def topSavedUptoRow : OpenClaim := { program := "ytiidbamlcgbpnaagreat", sum := "c7d74bb9df6a47156162947bdf54ece267b72abd2ea6cdb5afc6f2cfb3d5dae5", func := "tourney/tourtop.TopSaved", spec := "topSaved", inPlace := ["slices.overlaps[*tourney/arch.table]", "internal/bytealg.IndexByte"], unfollowed := true, recurses := true, named := ["math/bits.divideError", "math/bits.overflowError"], plainKeys := false, apart := false, narrowed := true }
def TopSavedUptoSaid : Prop := topSavedUptoRow.holds Tryz.pinned (OpenSpec.upto topSavedSpec)

end Rows
end Go.Proofs.YtiidbamlcgbpnaaGreat
