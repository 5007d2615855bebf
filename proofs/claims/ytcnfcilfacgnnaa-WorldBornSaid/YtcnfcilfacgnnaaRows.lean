/-
  No cell of these rows narrows 'for every input' (looked for: loops, veiled, ifaces, maps, wideKeys, modest, calm, conditions, laid).
  DERIVED. THE GIVEN ROWS OF THIS SEAT. 5 by the template 'for every input the law returns true; each argument reads behind the call as it read before'; 0 by the template 'total and deterministic' (their statements: YtcnfcilfacgnnaaTotals.lean).
  GIVEN WITH THE SEED: the statements are not yours to turn. If you find one false, say at which input.
  Laid BY PROGRAM, IN A SANDBOX (cutbox-rows.mjs): the forced cells as the released guide's own fill.sh prints them over the translation 8a905c9e084a0e4f… (all of the seat's roots in one cut). By AI agents, Wed Nov 11 2026. No macro, syntax, notation, axiom, sorry.
-/
import Derived.Test.YtcnfcilfacgnnaaChecked
import GoSem.Claim
import GoSem.ClaimJoined
import GoSem.ClaimMapViews
import Derived.JoinedTies
import Derived.KernelRfl
namespace Go.Proofs.Ytcnfcilfacgnnaa
/- THE CELL 'sum', in the pinned program and in every row, IS THE sha256 OF THE DUMP (.gsa) THAT YtcnfcilfacgnnaaProg.lean LOADS. Nothing in Lean hashes anything: it is a label: what it is worth is what the hold of that sum in a sandbox is worth. -/
noncomputable def Try.pinned : Pinned := { name := "ytcnfcilfacgnnaa", sum := "8a905c9e084a0e4f65c1ccf09080cd396e8fe97c14ca460c45a8479f8ebefcd6", checked := Try.checked }
namespace Rows
def none {H : Type} : Left H := { results := [], args := [] }

/-- 'tourkeep3.WorldGets': WHATEVER THE INPUT: true; the input reads as it did. -/
def worldGetsSpec : ChangeSpec := { name := "worldGets", fn := fun _ => fun
  | [d1, d2, d3, d4] => { results := [.lit (.bool true)], args := [d1, d2, d3, d4] }
  | _ => none }
def worldGetsRow : OpenClaim := { program := "ytcnfcilfacgnnaa", sum := "8a905c9e084a0e4f65c1ccf09080cd396e8fe97c14ca460c45a8479f8ebefcd6", func := "tourney/tourkeep3.WorldGets", spec := "worldGets", inPlace := ["slices.overlaps[tourney/api.Comp]"], unfollowed := true, recurses := true, apart := false }
def WorldGetsSaid : Prop := worldGetsRow.holds Try.pinned (OpenSpec.ofChange worldGetsSpec)

/-- ITS FALSE NEIGHBOUR: 'it returns false'. Refute it at one input. -/
def worldGetsWrong : ChangeSpec := { name := "worldGets", fn := fun _ => fun
  | [d1, d2, d3, d4] => { results := [.lit (.bool false)], args := [d1, d2, d3, d4] }
  | _ => none }
def WorldGetsWrongFalsely : Prop := worldGetsRow.holds Try.pinned (OpenSpec.ofChange worldGetsWrong)

/-- 'tourkeep3.WorldDrops': WHATEVER THE INPUT: true; the input reads as it did. -/
def worldDropsSpec : ChangeSpec := { name := "worldDrops", fn := fun _ => fun
  | [d1, d2, d3] => { results := [.lit (.bool true)], args := [d1, d2, d3] }
  | _ => none }
def worldDropsRow : OpenClaim := { program := "ytcnfcilfacgnnaa", sum := "8a905c9e084a0e4f65c1ccf09080cd396e8fe97c14ca460c45a8479f8ebefcd6", func := "tourney/tourkeep3.WorldDrops", spec := "worldDrops", inPlace := ["slices.overlaps[tourney/api.Comp]"], unfollowed := true, recurses := true, apart := false }
def WorldDropsSaid : Prop := worldDropsRow.holds Try.pinned (OpenSpec.ofChange worldDropsSpec)

/-- ITS FALSE NEIGHBOUR: 'it returns false'. Refute it at one input. -/
def worldDropsWrong : ChangeSpec := { name := "worldDrops", fn := fun _ => fun
  | [d1, d2, d3] => { results := [.lit (.bool false)], args := [d1, d2, d3] }
  | _ => none }
def WorldDropsWrongFalsely : Prop := worldDropsRow.holds Try.pinned (OpenSpec.ofChange worldDropsWrong)

/-- 'tourkeep3.WorldOrder': WHATEVER THE INPUT: true; the input reads as it did. -/
def worldOrderSpec : ChangeSpec := { name := "worldOrder", fn := fun _ => fun
  | [d1, d2] => { results := [.lit (.bool true)], args := [d1, d2] }
  | _ => none }
def worldOrderRow : OpenClaim := { program := "ytcnfcilfacgnnaa", sum := "8a905c9e084a0e4f65c1ccf09080cd396e8fe97c14ca460c45a8479f8ebefcd6", func := "tourney/tourkeep3.WorldOrder", spec := "worldOrder", inPlace := ["slices.overlaps[tourney/api.Item]"], unfollowed := true, recurses := true, apart := false }
def WorldOrderSaid : Prop := worldOrderRow.holds Try.pinned (OpenSpec.ofChange worldOrderSpec)

/-- ITS FALSE NEIGHBOUR: 'it returns false'. Refute it at one input. -/
def worldOrderWrong : ChangeSpec := { name := "worldOrder", fn := fun _ => fun
  | [d1, d2] => { results := [.lit (.bool false)], args := [d1, d2] }
  | _ => none }
def WorldOrderWrongFalsely : Prop := worldOrderRow.holds Try.pinned (OpenSpec.ofChange worldOrderWrong)

/-- 'tourkeep3.WorldBorn': WHATEVER THE INPUT: true; the input reads as it did. -/
def worldBornSpec : ChangeSpec := { name := "worldBorn", fn := fun _ => fun
  | [d1, d2] => { results := [.lit (.bool true)], args := [d1, d2] }
  | _ => none }
def worldBornRow : OpenClaim := { program := "ytcnfcilfacgnnaa", sum := "8a905c9e084a0e4f65c1ccf09080cd396e8fe97c14ca460c45a8479f8ebefcd6", func := "tourney/tourkeep3.WorldBorn", spec := "worldBorn", inPlace := ["slices.overlaps[tourney/api.Item]"], unfollowed := true, recurses := true, apart := false }
def WorldBornSaid : Prop := worldBornRow.holds Try.pinned (OpenSpec.ofChange worldBornSpec)

/-- ITS FALSE NEIGHBOUR: 'it returns false'. Refute it at one input. -/
def worldBornWrong : ChangeSpec := { name := "worldBorn", fn := fun _ => fun
  | [d1, d2] => { results := [.lit (.bool false)], args := [d1, d2] }
  | _ => none }
def WorldBornWrongFalsely : Prop := worldBornRow.holds Try.pinned (OpenSpec.ofChange worldBornWrong)

/-- 'tourkeep3.SystemKeeps': WHATEVER THE INPUT: true; the input reads as it did. -/
def systemKeepsSpec : ChangeSpec := { name := "systemKeeps", fn := fun _ => fun
  | [d1, d2, d3, d4] => { results := [.lit (.bool true)], args := [d1, d2, d3, d4] }
  | _ => none }
def systemKeepsRow : OpenClaim := { program := "ytcnfcilfacgnnaa", sum := "8a905c9e084a0e4f65c1ccf09080cd396e8fe97c14ca460c45a8479f8ebefcd6", func := "tourney/tourkeep3.SystemKeeps", spec := "systemKeeps", unfollowed := true, recurses := true, named := ["math/bits.divideError", "math/bits.overflowError"], apart := false }
def SystemKeepsSaid : Prop := systemKeepsRow.holds Try.pinned (OpenSpec.ofChange systemKeepsSpec)

/-- ITS FALSE NEIGHBOUR: 'it returns false'. Refute it at one input. -/
def systemKeepsWrong : ChangeSpec := { name := "systemKeeps", fn := fun _ => fun
  | [d1, d2, d3, d4] => { results := [.lit (.bool false)], args := [d1, d2, d3, d4] }
  | _ => none }
def SystemKeepsWrongFalsely : Prop := systemKeepsRow.holds Try.pinned (OpenSpec.ofChange systemKeepsWrong)

/- THE SECOND FORM. 'bulk': how many values and letters a reading holds, each counted each time it is reached (what is shared counts as often as it is met; a slice's spare places count too). A statement '..UptoSaid' is the law's where the arguments, and the package variables that the reading takes, are together of bulk at most 1048576: NARROWER than '..Said'. Prove '..Said' where nothing that the law and all that it calls make is longer than what came in: it says more and counts as full. Else prove '..UptoSaid'. A law counts once. -/
mutual
def uptoBulk {H : Type} : DataW H → Nat
  | .lit (.string bytes) => bytes.length + 1
  | .lit _ => 1
  | .nil => 1
  | .ptr d => uptoBulk d + 1
  | .slice elems spare => uptoBulkAll elems + uptoBulkAll spare + 1
  | .agg parts => uptoBulkAll parts + 1
  | .iface _ d => uptoBulk d + 1
  | .map entries => uptoBulkEntries entries + 1
  | .held _ => 1
def uptoBulkAll {H : Type} : List (DataW H) → Nat
  | [] => 0
  | d :: r => uptoBulk d + uptoBulkAll r
def uptoBulkEntries {H : Type} : List (Lit × DataW H) → Nat
  | [] => 0
  | x :: r => uptoBulkEntry x + uptoBulkEntries r
def uptoBulkEntry {H : Type} : Lit × DataW H → Nat
  | (.string bytes, d) => bytes.length + uptoBulk d + 1
  | (_, d) => uptoBulk d + 1
 end
def uptoSmall : (H : Type) → List (DataW H) → Bool := fun _ ds => decide (uptoBulkAll ds ≤ 1048576)
def OpenSpec.upto (s : _root_.Go.ChangeSpec) : _root_.Go.OpenSpec := { _root_.Go.OpenSpec.ofChange s with cond := some uptoSmall }

/-- 'tourkeep3.WorldGets', WHERE WHAT IT READS IS OF BULK AT MOST 1048576: true; the input reads as it did. -/
def worldGetsUptoRow : OpenClaim := { program := "ytcnfcilfacgnnaa", sum := "8a905c9e084a0e4f65c1ccf09080cd396e8fe97c14ca460c45a8479f8ebefcd6", func := "tourney/tourkeep3.WorldGets", spec := "worldGets", inPlace := ["slices.overlaps[tourney/api.Comp]"], unfollowed := true, recurses := true, apart := false, narrowed := true }
def WorldGetsUptoSaid : Prop := worldGetsUptoRow.holds Try.pinned (OpenSpec.upto worldGetsSpec)

/-- 'tourkeep3.WorldDrops', WHERE WHAT IT READS IS OF BULK AT MOST 1048576: true; the input reads as it did. -/
def worldDropsUptoRow : OpenClaim := { program := "ytcnfcilfacgnnaa", sum := "8a905c9e084a0e4f65c1ccf09080cd396e8fe97c14ca460c45a8479f8ebefcd6", func := "tourney/tourkeep3.WorldDrops", spec := "worldDrops", inPlace := ["slices.overlaps[tourney/api.Comp]"], unfollowed := true, recurses := true, apart := false, narrowed := true }
def WorldDropsUptoSaid : Prop := worldDropsUptoRow.holds Try.pinned (OpenSpec.upto worldDropsSpec)

/-- 'tourkeep3.WorldOrder', WHERE WHAT IT READS IS OF BULK AT MOST 1048576: true; the input reads as it did. -/
def worldOrderUptoRow : OpenClaim := { program := "ytcnfcilfacgnnaa", sum := "8a905c9e084a0e4f65c1ccf09080cd396e8fe97c14ca460c45a8479f8ebefcd6", func := "tourney/tourkeep3.WorldOrder", spec := "worldOrder", inPlace := ["slices.overlaps[tourney/api.Item]"], unfollowed := true, recurses := true, apart := false, narrowed := true }
def WorldOrderUptoSaid : Prop := worldOrderUptoRow.holds Try.pinned (OpenSpec.upto worldOrderSpec)

/-- 'tourkeep3.WorldBorn', WHERE WHAT IT READS IS OF BULK AT MOST 1048576: true; the input reads as it did. -/
def worldBornUptoRow : OpenClaim := { program := "ytcnfcilfacgnnaa", sum := "8a905c9e084a0e4f65c1ccf09080cd396e8fe97c14ca460c45a8479f8ebefcd6", func := "tourney/tourkeep3.WorldBorn", spec := "worldBorn", inPlace := ["slices.overlaps[tourney/api.Item]"], unfollowed := true, recurses := true, apart := false, narrowed := true }
def WorldBornUptoSaid : Prop := worldBornUptoRow.holds Try.pinned (OpenSpec.upto worldBornSpec)

/-- 'tourkeep3.SystemKeeps', WHERE WHAT IT READS IS OF BULK AT MOST 1048576: true; the input reads as it did. -/
def systemKeepsUptoRow : OpenClaim := { program := "ytcnfcilfacgnnaa", sum := "8a905c9e084a0e4f65c1ccf09080cd396e8fe97c14ca460c45a8479f8ebefcd6", func := "tourney/tourkeep3.SystemKeeps", spec := "systemKeeps", unfollowed := true, recurses := true, named := ["math/bits.divideError", "math/bits.overflowError"], apart := false, narrowed := true }
def SystemKeepsUptoSaid : Prop := systemKeepsUptoRow.holds Try.pinned (OpenSpec.upto systemKeepsSpec)

end Rows
end Go.Proofs.Ytcnfcilfacgnnaa
