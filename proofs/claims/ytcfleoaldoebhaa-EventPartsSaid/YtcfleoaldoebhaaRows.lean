/-
  No cell of these rows narrows 'for every input' (looked for: loops, veiled, ifaces, maps, wideKeys, modest, calm, conditions, laid).
  DERIVED. THE GIVEN ROWS OF THIS SEAT. 7 by the template 'for every input the law returns true; each argument reads behind the call as it read before'; 0 by the template 'total and deterministic' (their statements: YtcfleoaldoebhaaTotals.lean).
  GIVEN WITH THE SEED: the statements are not yours to turn. If you find one false, say at which input.
  Laid BY PROGRAM, IN A SANDBOX (cutbox-rows.mjs): the forced cells as the released guide's own fill.sh prints them over the translation 44144066d6d7ae73… (all of the seat's roots in one cut). By AI agents, Wed Nov 11 2026. No macro, syntax, notation, axiom, sorry.
-/
import Derived.Test.YtcfleoaldoebhaaChecked
import GoSem.Claim
import GoSem.ClaimJoined
import GoSem.ClaimMapViews
import Derived.JoinedTies
import Derived.KernelRfl
namespace Go.Proofs.Ytcfleoaldoebhaa
/- THE CELL 'sum', in the pinned program and in every row, IS THE sha256 OF THE DUMP (.gsa) THAT YtcfleoaldoebhaaProg.lean LOADS. Nothing in Lean hashes anything: it is a label: what it is worth is what the hold of that sum in a sandbox is worth. -/
noncomputable def Try.pinned : Pinned := { name := "ytcfleoaldoebhaa", sum := "44144066d6d7ae738f4f1da88a9f00fa05e3c58430d2f6f6d1264de77f5eb022", checked := Try.checked }
namespace Rows
def none {H : Type} : Left H := { results := [], args := [] }

/-- 'tourkeep3.EventLate': WHATEVER THE INPUT: true; the input reads as it did. -/
def eventLateSpec : ChangeSpec := { name := "eventLate", fn := fun _ => fun
  | [d] => { results := [.lit (.bool true)], args := [d] }
  | _ => none }
def eventLateRow : OpenClaim := { program := "ytcfleoaldoebhaa", sum := "44144066d6d7ae738f4f1da88a9f00fa05e3c58430d2f6f6d1264de77f5eb022", func := "tourney/tourkeep3.EventLate", spec := "eventLate", apart := false }
def EventLateSaid : Prop := eventLateRow.holds Try.pinned (OpenSpec.ofChange eventLateSpec)

/-- ITS FALSE NEIGHBOUR: 'it returns false'. Refute it at one input. -/
def eventLateWrong : ChangeSpec := { name := "eventLate", fn := fun _ => fun
  | [d] => { results := [.lit (.bool false)], args := [d] }
  | _ => none }
def EventLateWrongFalsely : Prop := eventLateRow.holds Try.pinned (OpenSpec.ofChange eventLateWrong)

/-- 'tourkeep3.QuerySplits': WHATEVER THE INPUT: true; the input reads as it did. -/
def querySplitsSpec : ChangeSpec := { name := "querySplits", fn := fun _ => fun
  | [d1, d2, d3, d4] => { results := [.lit (.bool true)], args := [d1, d2, d3, d4] }
  | _ => none }
def querySplitsRow : OpenClaim := { program := "ytcfleoaldoebhaa", sum := "44144066d6d7ae738f4f1da88a9f00fa05e3c58430d2f6f6d1264de77f5eb022", func := "tourney/tourkeep3.QuerySplits", spec := "querySplits", unfollowed := true, recurses := true, apart := false }
def QuerySplitsSaid : Prop := querySplitsRow.holds Try.pinned (OpenSpec.ofChange querySplitsSpec)

/-- ITS FALSE NEIGHBOUR: 'it returns false'. Refute it at one input. -/
def querySplitsWrong : ChangeSpec := { name := "querySplits", fn := fun _ => fun
  | [d1, d2, d3, d4] => { results := [.lit (.bool false)], args := [d1, d2, d3, d4] }
  | _ => none }
def QuerySplitsWrongFalsely : Prop := querySplitsRow.holds Try.pinned (OpenSpec.ofChange querySplitsWrong)

/-- 'tourkeep3.KindTwice': WHATEVER THE INPUT: true; the input reads as it did. -/
def kindTwiceSpec : ChangeSpec := { name := "kindTwice", fn := fun _ => fun
  | [d1, d2] => { results := [.lit (.bool true)], args := [d1, d2] }
  | _ => none }
def kindTwiceRow : OpenClaim := { program := "ytcfleoaldoebhaa", sum := "44144066d6d7ae738f4f1da88a9f00fa05e3c58430d2f6f6d1264de77f5eb022", func := "tourney/tourkeep3.KindTwice", spec := "kindTwice", apart := false }
def KindTwiceSaid : Prop := kindTwiceRow.holds Try.pinned (OpenSpec.ofChange kindTwiceSpec)

/-- ITS FALSE NEIGHBOUR: 'it returns false'. Refute it at one input. -/
def kindTwiceWrong : ChangeSpec := { name := "kindTwice", fn := fun _ => fun
  | [d1, d2] => { results := [.lit (.bool false)], args := [d1, d2] }
  | _ => none }
def KindTwiceWrongFalsely : Prop := kindTwiceRow.holds Try.pinned (OpenSpec.ofChange kindTwiceWrong)

/-- 'tourkeep3.KindFits': WHATEVER THE INPUT: true; the input reads as it did. -/
def kindFitsSpec : ChangeSpec := { name := "kindFits", fn := fun _ => fun
  | [d1, d2] => { results := [.lit (.bool true)], args := [d1, d2] }
  | _ => none }
def kindFitsRow : OpenClaim := { program := "ytcfleoaldoebhaa", sum := "44144066d6d7ae738f4f1da88a9f00fa05e3c58430d2f6f6d1264de77f5eb022", func := "tourney/tourkeep3.KindFits", spec := "kindFits", apart := false }
def KindFitsSaid : Prop := kindFitsRow.holds Try.pinned (OpenSpec.ofChange kindFitsSpec)

/-- ITS FALSE NEIGHBOUR: 'it returns false'. Refute it at one input. -/
def kindFitsWrong : ChangeSpec := { name := "kindFits", fn := fun _ => fun
  | [d1, d2] => { results := [.lit (.bool false)], args := [d1, d2] }
  | _ => none }
def KindFitsWrongFalsely : Prop := kindFitsRow.holds Try.pinned (OpenSpec.ofChange kindFitsWrong)

/-- 'tourkeep3.PlanReads': WHATEVER THE INPUT: true; the input reads as it did. -/
def planReadsSpec : ChangeSpec := { name := "planReads", fn := fun _ => fun
  | [d1, d2] => { results := [.lit (.bool true)], args := [d1, d2] }
  | _ => none }
def planReadsRow : OpenClaim := { program := "ytcfleoaldoebhaa", sum := "44144066d6d7ae738f4f1da88a9f00fa05e3c58430d2f6f6d1264de77f5eb022", func := "tourney/tourkeep3.PlanReads", spec := "planReads", unfollowed := true, recurses := true, apart := false }
def PlanReadsSaid : Prop := planReadsRow.holds Try.pinned (OpenSpec.ofChange planReadsSpec)

/-- ITS FALSE NEIGHBOUR: 'it returns false'. Refute it at one input. -/
def planReadsWrong : ChangeSpec := { name := "planReads", fn := fun _ => fun
  | [d1, d2] => { results := [.lit (.bool false)], args := [d1, d2] }
  | _ => none }
def PlanReadsWrongFalsely : Prop := planReadsRow.holds Try.pinned (OpenSpec.ofChange planReadsWrong)

/-- 'tourkeep3.PlanKeeps': WHATEVER THE INPUT: true; the input reads as it did. -/
def planKeepsSpec : ChangeSpec := { name := "planKeeps", fn := fun _ => fun
  | [d1, d2] => { results := [.lit (.bool true)], args := [d1, d2] }
  | _ => none }
def planKeepsRow : OpenClaim := { program := "ytcfleoaldoebhaa", sum := "44144066d6d7ae738f4f1da88a9f00fa05e3c58430d2f6f6d1264de77f5eb022", func := "tourney/tourkeep3.PlanKeeps", spec := "planKeeps", unfollowed := true, recurses := true, apart := false }
def PlanKeepsSaid : Prop := planKeepsRow.holds Try.pinned (OpenSpec.ofChange planKeepsSpec)

/-- ITS FALSE NEIGHBOUR: 'it returns false'. Refute it at one input. -/
def planKeepsWrong : ChangeSpec := { name := "planKeeps", fn := fun _ => fun
  | [d1, d2] => { results := [.lit (.bool false)], args := [d1, d2] }
  | _ => none }
def PlanKeepsWrongFalsely : Prop := planKeepsRow.holds Try.pinned (OpenSpec.ofChange planKeepsWrong)

/-- 'tourkeep3.EventParts': WHATEVER THE INPUT: true; the input reads as it did. -/
def eventPartsSpec : ChangeSpec := { name := "eventParts", fn := fun _ => fun
  | [d1, d2] => { results := [.lit (.bool true)], args := [d1, d2] }
  | _ => none }
def eventPartsRow : OpenClaim := { program := "ytcfleoaldoebhaa", sum := "44144066d6d7ae738f4f1da88a9f00fa05e3c58430d2f6f6d1264de77f5eb022", func := "tourney/tourkeep3.EventParts", spec := "eventParts", inPlace := ["slices.overlaps[tourney/event.Count]", "slices.overlaps[tourney/api.Event]"], unfollowed := true, recurses := true, apart := false }
def EventPartsSaid : Prop := eventPartsRow.holds Try.pinned (OpenSpec.ofChange eventPartsSpec)

/-- ITS FALSE NEIGHBOUR: 'it returns false'. Refute it at one input. -/
def eventPartsWrong : ChangeSpec := { name := "eventParts", fn := fun _ => fun
  | [d1, d2] => { results := [.lit (.bool false)], args := [d1, d2] }
  | _ => none }
def EventPartsWrongFalsely : Prop := eventPartsRow.holds Try.pinned (OpenSpec.ofChange eventPartsWrong)

/- THE SECOND FORM. 'bulk': how many values and letters a reading holds, each counted each time it is reached (what is shared counts as often as it is met; a slice's spare places count too). A statement '..UptoSaid' is the law's where the arguments, and the package variables that the reading takes, are together of bulk at most 1048576: NARROWER than '..Said'. Prove '..Said' where nothing that the law and all that it calls make is longer than what came in: it says more and counts as full. Else prove '..UptoSaid'. A law counts once. -/
mutual
def uptoBulk {H : Type} : DataW H → Nat
  | .lit (.string bytes) => bytes.length + 1
  | .lit _ => 1
  | .nil => 1
  | .ptr d => uptoBulk d + 1
  | .slice elems spare => uptoBulkAll elems + uptoBulkAll spare + 1
  | .agg parts => uptoBulkAll parts + 1
  | .iface _ d => uptoBulk d + 1
  | .map entries => uptoBulkEntries entries + 1
  | .held _ => 1
def uptoBulkAll {H : Type} : List (DataW H) → Nat
  | [] => 0
  | d :: r => uptoBulk d + uptoBulkAll r
def uptoBulkEntries {H : Type} : List (Lit × DataW H) → Nat
  | [] => 0
  | x :: r => uptoBulkEntry x + uptoBulkEntries r
def uptoBulkEntry {H : Type} : Lit × DataW H → Nat
  | (.string bytes, d) => bytes.length + uptoBulk d + 1
  | (_, d) => uptoBulk d + 1
 end
def uptoSmall : (H : Type) → List (DataW H) → Bool := fun _ ds => decide (uptoBulkAll ds ≤ 1048576)
def OpenSpec.upto (s : _root_.Go.ChangeSpec) : _root_.Go.OpenSpec := { _root_.Go.OpenSpec.ofChange s with cond := some uptoSmall }

/-- 'tourkeep3.EventLate', WHERE WHAT IT READS IS OF BULK AT MOST 1048576: true; the input reads as it did. -/
def eventLateUptoRow : OpenClaim := { program := "ytcfleoaldoebhaa", sum := "44144066d6d7ae738f4f1da88a9f00fa05e3c58430d2f6f6d1264de77f5eb022", func := "tourney/tourkeep3.EventLate", spec := "eventLate", apart := false, narrowed := true }
def EventLateUptoSaid : Prop := eventLateUptoRow.holds Try.pinned (OpenSpec.upto eventLateSpec)

/-- 'tourkeep3.QuerySplits', WHERE WHAT IT READS IS OF BULK AT MOST 1048576: true; the input reads as it did. -/
def querySplitsUptoRow : OpenClaim := { program := "ytcfleoaldoebhaa", sum := "44144066d6d7ae738f4f1da88a9f00fa05e3c58430d2f6f6d1264de77f5eb022", func := "tourney/tourkeep3.QuerySplits", spec := "querySplits", unfollowed := true, recurses := true, apart := false, narrowed := true }
def QuerySplitsUptoSaid : Prop := querySplitsUptoRow.holds Try.pinned (OpenSpec.upto querySplitsSpec)

/-- 'tourkeep3.KindTwice', WHERE WHAT IT READS IS OF BULK AT MOST 1048576: true; the input reads as it did. -/
def kindTwiceUptoRow : OpenClaim := { program := "ytcfleoaldoebhaa", sum := "44144066d6d7ae738f4f1da88a9f00fa05e3c58430d2f6f6d1264de77f5eb022", func := "tourney/tourkeep3.KindTwice", spec := "kindTwice", apart := false, narrowed := true }
def KindTwiceUptoSaid : Prop := kindTwiceUptoRow.holds Try.pinned (OpenSpec.upto kindTwiceSpec)

/-- 'tourkeep3.KindFits', WHERE WHAT IT READS IS OF BULK AT MOST 1048576: true; the input reads as it did. -/
def kindFitsUptoRow : OpenClaim := { program := "ytcfleoaldoebhaa", sum := "44144066d6d7ae738f4f1da88a9f00fa05e3c58430d2f6f6d1264de77f5eb022", func := "tourney/tourkeep3.KindFits", spec := "kindFits", apart := false, narrowed := true }
def KindFitsUptoSaid : Prop := kindFitsUptoRow.holds Try.pinned (OpenSpec.upto kindFitsSpec)

/-- 'tourkeep3.PlanReads', WHERE WHAT IT READS IS OF BULK AT MOST 1048576: true; the input reads as it did. -/
def planReadsUptoRow : OpenClaim := { program := "ytcfleoaldoebhaa", sum := "44144066d6d7ae738f4f1da88a9f00fa05e3c58430d2f6f6d1264de77f5eb022", func := "tourney/tourkeep3.PlanReads", spec := "planReads", unfollowed := true, recurses := true, apart := false, narrowed := true }
def PlanReadsUptoSaid : Prop := planReadsUptoRow.holds Try.pinned (OpenSpec.upto planReadsSpec)

/-- 'tourkeep3.PlanKeeps', WHERE WHAT IT READS IS OF BULK AT MOST 1048576: true; the input reads as it did. -/
def planKeepsUptoRow : OpenClaim := { program := "ytcfleoaldoebhaa", sum := "44144066d6d7ae738f4f1da88a9f00fa05e3c58430d2f6f6d1264de77f5eb022", func := "tourney/tourkeep3.PlanKeeps", spec := "planKeeps", unfollowed := true, recurses := true, apart := false, narrowed := true }
def PlanKeepsUptoSaid : Prop := planKeepsUptoRow.holds Try.pinned (OpenSpec.upto planKeepsSpec)

/-- 'tourkeep3.EventParts', WHERE WHAT IT READS IS OF BULK AT MOST 1048576: true; the input reads as it did. -/
def eventPartsUptoRow : OpenClaim := { program := "ytcfleoaldoebhaa", sum := "44144066d6d7ae738f4f1da88a9f00fa05e3c58430d2f6f6d1264de77f5eb022", func := "tourney/tourkeep3.EventParts", spec := "eventParts", inPlace := ["slices.overlaps[tourney/event.Count]", "slices.overlaps[tourney/api.Event]"], unfollowed := true, recurses := true, apart := false, narrowed := true }
def EventPartsUptoSaid : Prop := eventPartsUptoRow.holds Try.pinned (OpenSpec.upto eventPartsSpec)

end Rows
end Go.Proofs.Ytcfleoaldoebhaa
