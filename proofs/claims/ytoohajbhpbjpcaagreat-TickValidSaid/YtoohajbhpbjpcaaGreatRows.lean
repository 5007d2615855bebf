/-
  No cell of these rows narrows 'for every input' (looked for: loops, veiled, ifaces, maps, wideKeys, modest, calm, conditions, laid).
  DERIVED. THE GIVEN ROWS OF THIS SEAT. 6 by the template 'for every input the law returns true; each argument reads behind the call as it read before'; 0 by the template 'total and deterministic' (their statements: YtoohajbhpbjpcaaGreatTotals.lean).
  GIVEN WITH THE SEED: the statements are not yours to turn. If you find one false, say at which input.
  Laid BY PROGRAM, IN A SANDBOX (cutbox-rows.mjs): the forced cells as the released guide's own fill.sh prints them over the translation f8284778afe919aa… (all of the seat's roots in one cut). By AI agents, Wed Nov 11 2026. No macro, syntax, notation, axiom, sorry.
-/
import Derived.Test.YtoohajbhpbjpcaaGreatChecked
import GoSem.Claim
import GoSem.ClaimJoined
import GoSem.ClaimMapViews
import Derived.JoinedTies
import Derived.KernelRfl
namespace Go.Proofs.YtoohajbhpbjpcaaGreat
/- THE CELL 'sum', in the pinned program and in every row, IS THE sha256 OF THE DUMP (.gsa) THAT YtoohajbhpbjpcaaGreatProg.lean LOADS. Nothing in Lean hashes anything: it is a label: what it is worth is what the hold of that sum in a sandbox is worth. -/
noncomputable def Tryz.pinned : Pinned := { name := "ytoohajbhpbjpcaagreat", sum := "f8284778afe919aa9f5b8c0f9265f475ad0136452928a2e37df0a368e80544de", checked := Tryz.checked }
namespace Rows
def none {H : Type} : Left H := { results := [], args := [] }

/-- 'tourkeep3.MarkPatches': WHATEVER THE INPUT: true; the input reads as it did. -/
def markPatchesSpec : ChangeSpec := { name := "markPatches", fn := fun _ => fun
  | [d1, d2] => { results := [.lit (.bool true)], args := [d1, d2] }
  | _ => none }
def markPatchesRow : OpenClaim := { program := "ytoohajbhpbjpcaagreat", sum := "f8284778afe919aa9f5b8c0f9265f475ad0136452928a2e37df0a368e80544de", func := "tourney/tourkeep3.MarkPatches", spec := "markPatches", inPlace := ["slices.overlaps[*tourney/arch.table]"], unfollowed := true, recurses := true, plainKeys := false, leaving := true, apart := false }
def MarkPatchesSaid : Prop := markPatchesRow.holds Tryz.pinned (OpenSpec.ofChange markPatchesSpec)

/-- ITS FALSE NEIGHBOUR: 'it returns false'. Refute it at one input. -/
def markPatchesWrong : ChangeSpec := { name := "markPatches", fn := fun _ => fun
  | [d1, d2] => { results := [.lit (.bool false)], args := [d1, d2] }
  | _ => none }
def MarkPatchesWrongFalsely : Prop := markPatchesRow.holds Tryz.pinned (OpenSpec.ofChange markPatchesWrong)

/-- 'tourkeep3.MarkLast': WHATEVER THE INPUT: true; the input reads as it did. -/
def markLastSpec : ChangeSpec := { name := "markLast", fn := fun _ => fun
  | [d1, d2, d3] => { results := [.lit (.bool true)], args := [d1, d2, d3] }
  | _ => none }
def markLastRow : OpenClaim := { program := "ytoohajbhpbjpcaagreat", sum := "f8284778afe919aa9f5b8c0f9265f475ad0136452928a2e37df0a368e80544de", func := "tourney/tourkeep3.MarkLast", spec := "markLast", inPlace := ["slices.overlaps[*tourney/arch.table]"], unfollowed := true, recurses := true, plainKeys := false, leaving := true, apart := false }
def MarkLastSaid : Prop := markLastRow.holds Tryz.pinned (OpenSpec.ofChange markLastSpec)

/-- ITS FALSE NEIGHBOUR: 'it returns false'. Refute it at one input. -/
def markLastWrong : ChangeSpec := { name := "markLast", fn := fun _ => fun
  | [d1, d2, d3] => { results := [.lit (.bool false)], args := [d1, d2, d3] }
  | _ => none }
def MarkLastWrongFalsely : Prop := markLastRow.holds Tryz.pinned (OpenSpec.ofChange markLastWrong)

/-- 'tourkeep3.MarkTold': WHATEVER THE INPUT: true; the input reads as it did. -/
def markToldSpec : ChangeSpec := { name := "markTold", fn := fun _ => fun
  | [d1, d2] => { results := [.lit (.bool true)], args := [d1, d2] }
  | _ => none }
def markToldRow : OpenClaim := { program := "ytoohajbhpbjpcaagreat", sum := "f8284778afe919aa9f5b8c0f9265f475ad0136452928a2e37df0a368e80544de", func := "tourney/tourkeep3.MarkTold", spec := "markTold", inPlace := ["slices.overlaps[*tourney/arch.table]"], unfollowed := true, recurses := true, plainKeys := false, leaving := true, apart := false }
def MarkToldSaid : Prop := markToldRow.holds Tryz.pinned (OpenSpec.ofChange markToldSpec)

/-- ITS FALSE NEIGHBOUR: 'it returns false'. Refute it at one input. -/
def markToldWrong : ChangeSpec := { name := "markTold", fn := fun _ => fun
  | [d1, d2] => { results := [.lit (.bool false)], args := [d1, d2] }
  | _ => none }
def MarkToldWrongFalsely : Prop := markToldRow.holds Tryz.pinned (OpenSpec.ofChange markToldWrong)

/-- 'tourkeep3.TickParts': WHATEVER THE INPUT: true; the input reads as it did. -/
def tickPartsSpec : ChangeSpec := { name := "tickParts", fn := fun _ => fun
  | [d1, d2, d3, d4, d5] => { results := [.lit (.bool true)], args := [d1, d2, d3, d4, d5] }
  | _ => none }
def tickPartsRow : OpenClaim := { program := "ytoohajbhpbjpcaagreat", sum := "f8284778afe919aa9f5b8c0f9265f475ad0136452928a2e37df0a368e80544de", func := "tourney/tourkeep3.TickParts", spec := "tickParts", inPlace := ["slices.overlaps[*tourney/arch.table]"], unfollowed := true, recurses := true, named := ["math/bits.divideError", "math/bits.overflowError"], plainKeys := false, leaving := true, apart := false }
def TickPartsSaid : Prop := tickPartsRow.holds Tryz.pinned (OpenSpec.ofChange tickPartsSpec)

/-- ITS FALSE NEIGHBOUR: 'it returns false'. Refute it at one input. -/
def tickPartsWrong : ChangeSpec := { name := "tickParts", fn := fun _ => fun
  | [d1, d2, d3, d4, d5] => { results := [.lit (.bool false)], args := [d1, d2, d3, d4, d5] }
  | _ => none }
def TickPartsWrongFalsely : Prop := tickPartsRow.holds Tryz.pinned (OpenSpec.ofChange tickPartsWrong)

/-- 'tourkeep3.TickValid': WHATEVER THE INPUT: true; the input reads as it did. -/
def tickValidSpec : ChangeSpec := { name := "tickValid", fn := fun _ => fun
  | [d1, d2, d3, d4] => { results := [.lit (.bool true)], args := [d1, d2, d3, d4] }
  | _ => none }
def tickValidRow : OpenClaim := { program := "ytoohajbhpbjpcaagreat", sum := "f8284778afe919aa9f5b8c0f9265f475ad0136452928a2e37df0a368e80544de", func := "tourney/tourkeep3.TickValid", spec := "tickValid", inPlace := ["slices.overlaps[*tourney/arch.table]"], unfollowed := true, recurses := true, named := ["math/bits.divideError", "math/bits.overflowError"], plainKeys := false, leaving := true, apart := false }
def TickValidSaid : Prop := tickValidRow.holds Tryz.pinned (OpenSpec.ofChange tickValidSpec)

/-- ITS FALSE NEIGHBOUR: 'it returns false'. Refute it at one input. -/
def tickValidWrong : ChangeSpec := { name := "tickValid", fn := fun _ => fun
  | [d1, d2, d3, d4] => { results := [.lit (.bool false)], args := [d1, d2, d3, d4] }
  | _ => none }
def TickValidWrongFalsely : Prop := tickValidRow.holds Tryz.pinned (OpenSpec.ofChange tickValidWrong)

/-- 'tourkeep3.ParWorkers': WHATEVER THE INPUT: true; the input reads as it did. -/
def parWorkersSpec : ChangeSpec := { name := "parWorkers", fn := fun _ => fun
  | [d1, d2, d3, d4, d5, d6] => { results := [.lit (.bool true)], args := [d1, d2, d3, d4, d5, d6] }
  | _ => none }
def parWorkersRow : OpenClaim := { program := "ytoohajbhpbjpcaagreat", sum := "f8284778afe919aa9f5b8c0f9265f475ad0136452928a2e37df0a368e80544de", func := "tourney/tourkeep3.ParWorkers", spec := "parWorkers", inPlace := ["(*sync.WaitGroup).Add", "internal/race.ReleaseMerge", "internal/race.Disable", "internal/race.Enable", "internal/synctest.IsInBubble", "internal/synctest.Associate[sync.WaitGroup]", "sync.fatal", "sync/atomic.OrUint64", "sync/atomic.AddUint64", "internal/race.Read", "sync/atomic.LoadUint64", "sync/atomic.StoreUint64", "internal/synctest.Disassociate[sync.WaitGroup]", "sync.runtime_Semrelease", "(*sync.WaitGroup).Done", "(*sync.WaitGroup).Wait", "internal/race.Acquire", "internal/synctest.IsAssociated[sync.WaitGroup]", "sync/atomic.CompareAndSwapUint64", "internal/race.Write", "sync.runtime_SemacquireWaitGroup", "slices.overlaps[*tourney/arch.table]"], unfollowed := true, recurses := true, named := ["math/bits.divideError", "math/bits.overflowError"], plainKeys := false, leaving := true, apart := false }
def ParWorkersSaid : Prop := parWorkersRow.holds Tryz.pinned (OpenSpec.ofChange parWorkersSpec)

/-- ITS FALSE NEIGHBOUR: 'it returns false'. Refute it at one input. -/
def parWorkersWrong : ChangeSpec := { name := "parWorkers", fn := fun _ => fun
  | [d1, d2, d3, d4, d5, d6] => { results := [.lit (.bool false)], args := [d1, d2, d3, d4, d5, d6] }
  | _ => none }
def ParWorkersWrongFalsely : Prop := parWorkersRow.holds Tryz.pinned (OpenSpec.ofChange parWorkersWrong)

/- THE SECOND FORM. 'bulk': how many values and letters a reading holds, each counted each time it is reached (what is shared counts as often as it is met; a slice's spare places count too). A statement '..UptoSaid' is the law's where the arguments, and the package variables that the reading takes, are together of bulk at most 1048576: NARROWER than '..Said'. Prove '..Said' where nothing that the law and all that it calls make is longer than what came in: it says more and counts as full. Else prove '..UptoSaid'. A law counts once. -/
mutual
def uptoBulk {H : Type} : DataW H → Nat
  | .lit (.string bytes) => bytes.length + 1
  | .lit _ => 1
  | .nil => 1
  | .ptr d => uptoBulk d + 1
  | .slice elems spare => uptoBulkAll elems + uptoBulkAll spare + 1
  | .agg parts => uptoBulkAll parts + 1
  | .iface _ d => uptoBulk d + 1
  | .map entries => uptoBulkEntries entries + 1
  | .held _ => 1
def uptoBulkAll {H : Type} : List (DataW H) → Nat
  | [] => 0
  | d :: r => uptoBulk d + uptoBulkAll r
def uptoBulkEntries {H : Type} : List (Lit × DataW H) → Nat
  | [] => 0
  | x :: r => uptoBulkEntry x + uptoBulkEntries r
def uptoBulkEntry {H : Type} : Lit × DataW H → Nat
  | (.string bytes, d) => bytes.length + uptoBulk d + 1
  | (_, d) => uptoBulk d + 1
 end
def uptoSmall : (H : Type) → List (DataW H) → Bool := fun _ ds => decide (uptoBulkAll ds ≤ 1048576)
def OpenSpec.upto (s : _root_.Go.ChangeSpec) : _root_.Go.OpenSpec := { _root_.Go.OpenSpec.ofChange s with cond := some uptoSmall }

/-- 'tourkeep3.MarkPatches', WHERE WHAT IT READS IS OF BULK AT MOST 1048576: true; the input reads as it did. -/
def markPatchesUptoRow : OpenClaim := { program := "ytoohajbhpbjpcaagreat", sum := "f8284778afe919aa9f5b8c0f9265f475ad0136452928a2e37df0a368e80544de", func := "tourney/tourkeep3.MarkPatches", spec := "markPatches", inPlace := ["slices.overlaps[*tourney/arch.table]"], unfollowed := true, recurses := true, plainKeys := false, leaving := true, apart := false, narrowed := true }
def MarkPatchesUptoSaid : Prop := markPatchesUptoRow.holds Tryz.pinned (OpenSpec.upto markPatchesSpec)

/-- 'tourkeep3.MarkLast', WHERE WHAT IT READS IS OF BULK AT MOST 1048576: true; the input reads as it did. -/
def markLastUptoRow : OpenClaim := { program := "ytoohajbhpbjpcaagreat", sum := "f8284778afe919aa9f5b8c0f9265f475ad0136452928a2e37df0a368e80544de", func := "tourney/tourkeep3.MarkLast", spec := "markLast", inPlace := ["slices.overlaps[*tourney/arch.table]"], unfollowed := true, recurses := true, plainKeys := false, leaving := true, apart := false, narrowed := true }
def MarkLastUptoSaid : Prop := markLastUptoRow.holds Tryz.pinned (OpenSpec.upto markLastSpec)

/-- 'tourkeep3.MarkTold', WHERE WHAT IT READS IS OF BULK AT MOST 1048576: true; the input reads as it did. -/
def markToldUptoRow : OpenClaim := { program := "ytoohajbhpbjpcaagreat", sum := "f8284778afe919aa9f5b8c0f9265f475ad0136452928a2e37df0a368e80544de", func := "tourney/tourkeep3.MarkTold", spec := "markTold", inPlace := ["slices.overlaps[*tourney/arch.table]"], unfollowed := true, recurses := true, plainKeys := false, leaving := true, apart := false, narrowed := true }
def MarkToldUptoSaid : Prop := markToldUptoRow.holds Tryz.pinned (OpenSpec.upto markToldSpec)

/-- 'tourkeep3.TickParts', WHERE WHAT IT READS IS OF BULK AT MOST 1048576: true; the input reads as it did. -/
def tickPartsUptoRow : OpenClaim := { program := "ytoohajbhpbjpcaagreat", sum := "f8284778afe919aa9f5b8c0f9265f475ad0136452928a2e37df0a368e80544de", func := "tourney/tourkeep3.TickParts", spec := "tickParts", inPlace := ["slices.overlaps[*tourney/arch.table]"], unfollowed := true, recurses := true, named := ["math/bits.divideError", "math/bits.overflowError"], plainKeys := false, leaving := true, apart := false, narrowed := true }
def TickPartsUptoSaid : Prop := tickPartsUptoRow.holds Tryz.pinned (OpenSpec.upto tickPartsSpec)

/-- 'tourkeep3.TickValid', WHERE WHAT IT READS IS OF BULK AT MOST 1048576: true; the input reads as it did. -/
def tickValidUptoRow : OpenClaim := { program := "ytoohajbhpbjpcaagreat", sum := "f8284778afe919aa9f5b8c0f9265f475ad0136452928a2e37df0a368e80544de", func := "tourney/tourkeep3.TickValid", spec := "tickValid", inPlace := ["slices.overlaps[*tourney/arch.table]"], unfollowed := true, recurses := true, named := ["math/bits.divideError", "math/bits.overflowError"], plainKeys := false, leaving := true, apart := false, narrowed := true }
def TickValidUptoSaid : Prop := tickValidUptoRow.holds Tryz.pinned (OpenSpec.upto tickValidSpec)

/-- 'tourkeep3.ParWorkers', WHERE WHAT IT READS IS OF BULK AT MOST 1048576: true; the input reads as it did. -/
def parWorkersUptoRow : OpenClaim := { program := "ytoohajbhpbjpcaagreat", sum := "f8284778afe919aa9f5b8c0f9265f475ad0136452928a2e37df0a368e80544de", func := "tourney/tourkeep3.ParWorkers", spec := "parWorkers", inPlace := ["(*sync.WaitGroup).Add", "internal/race.ReleaseMerge", "internal/race.Disable", "internal/race.Enable", "internal/synctest.IsInBubble", "internal/synctest.Associate[sync.WaitGroup]", "sync.fatal", "sync/atomic.OrUint64", "sync/atomic.AddUint64", "internal/race.Read", "sync/atomic.LoadUint64", "sync/atomic.StoreUint64", "internal/synctest.Disassociate[sync.WaitGroup]", "sync.runtime_Semrelease", "(*sync.WaitGroup).Done", "(*sync.WaitGroup).Wait", "internal/race.Acquire", "internal/synctest.IsAssociated[sync.WaitGroup]", "sync/atomic.CompareAndSwapUint64", "internal/race.Write", "sync.runtime_SemacquireWaitGroup", "slices.overlaps[*tourney/arch.table]"], unfollowed := true, recurses := true, named := ["math/bits.divideError", "math/bits.overflowError"], plainKeys := false, leaving := true, apart := false, narrowed := true }
def ParWorkersUptoSaid : Prop := parWorkersUptoRow.holds Tryz.pinned (OpenSpec.upto parWorkersSpec)

end Rows
end Go.Proofs.YtoohajbhpbjpcaaGreat
