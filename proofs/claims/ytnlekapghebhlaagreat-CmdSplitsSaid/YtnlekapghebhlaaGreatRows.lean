/-
  No cell of these rows narrows 'for every input' (looked for: loops, veiled, ifaces, maps, wideKeys, modest, calm, conditions, laid).
  DERIVED. THE GIVEN ROWS OF THIS SEAT. 4 by the template 'for every input the law returns true; each argument reads behind the call as it read before'; 0 by the template 'total and deterministic' (their statements: YtnlekapghebhlaaGreatTotals.lean).
  GIVEN WITH THE SEED: the statements are not yours to turn. If you find one false, say at which input.
  Laid BY PROGRAM, IN A SANDBOX (cutbox-rows.mjs): the forced cells as the released guide's own fill.sh prints them over the translation 0add08e1327021c0… (all of the seat's roots in one cut). By AI agents, Wed Nov 11 2026. No macro, syntax, notation, axiom, sorry.
-/
import Derived.Test.YtnlekapghebhlaaGreatChecked
import GoSem.Claim
import GoSem.ClaimJoined
import GoSem.ClaimMapViews
import Derived.JoinedTies
import Derived.KernelRfl
namespace Go.Proofs.YtnlekapghebhlaaGreat
/- THE CELL 'sum', in the pinned program and in every row, IS THE sha256 OF THE DUMP (.gsa) THAT YtnlekapghebhlaaGreatProg.lean LOADS. Nothing in Lean hashes anything: it is a label: what it is worth is what the hold of that sum in a sandbox is worth. -/
noncomputable def Tryz.pinned : Pinned := { name := "ytnlekapghebhlaagreat", sum := "0add08e1327021c00cd189dbc5bab6038ee44454194c0bbc0b43ab5144444184", checked := Tryz.checked }
namespace Rows
def none {H : Type} : Left H := { results := [], args := [] }

/-- 'tourkeep3.WorldOwn': WHATEVER THE INPUT: true; the input reads as it did. -/
def worldOwnSpec : ChangeSpec := { name := "worldOwn", fn := fun _ => fun
  | [d1, d2] => { results := [.lit (.bool true)], args := [d1, d2] }
  | _ => none }
def worldOwnRow : OpenClaim := { program := "ytnlekapghebhlaagreat", sum := "0add08e1327021c00cd189dbc5bab6038ee44454194c0bbc0b43ab5144444184", func := "tourney/tourkeep3.WorldOwn", spec := "worldOwn", inPlace := ["slices.overlaps[tourney/api.Item]", "slices.overlaps[tourney/api.Comp]", "slices.overlaps[*tourney/arch.table]"], unfollowed := true, recurses := true, apart := false }
def WorldOwnSaid : Prop := worldOwnRow.holds Tryz.pinned (OpenSpec.ofChange worldOwnSpec)

/-- ITS FALSE NEIGHBOUR: 'it returns false'. Refute it at one input. -/
def worldOwnWrong : ChangeSpec := { name := "worldOwn", fn := fun _ => fun
  | [d1, d2] => { results := [.lit (.bool false)], args := [d1, d2] }
  | _ => none }
def WorldOwnWrongFalsely : Prop := worldOwnRow.holds Tryz.pinned (OpenSpec.ofChange worldOwnWrong)

/-- 'tourkeep3.CmdKills': WHATEVER THE INPUT: true; the input reads as it did. -/
def cmdKillsSpec : ChangeSpec := { name := "cmdKills", fn := fun _ => fun
  | [d] => { results := [.lit (.bool true)], args := [d] }
  | _ => none }
def cmdKillsRow : OpenClaim := { program := "ytnlekapghebhlaagreat", sum := "0add08e1327021c00cd189dbc5bab6038ee44454194c0bbc0b43ab5144444184", func := "tourney/tourkeep3.CmdKills", spec := "cmdKills", inPlace := ["slices.overlaps[*tourney/arch.table]"], unfollowed := true, recurses := true, apart := false }
def CmdKillsSaid : Prop := cmdKillsRow.holds Tryz.pinned (OpenSpec.ofChange cmdKillsSpec)

/-- ITS FALSE NEIGHBOUR: 'it returns false'. Refute it at one input. -/
def cmdKillsWrong : ChangeSpec := { name := "cmdKills", fn := fun _ => fun
  | [d] => { results := [.lit (.bool false)], args := [d] }
  | _ => none }
def CmdKillsWrongFalsely : Prop := cmdKillsRow.holds Tryz.pinned (OpenSpec.ofChange cmdKillsWrong)

/-- 'tourkeep3.CmdTrims': WHATEVER THE INPUT: true; the input reads as it did. -/
def cmdTrimsSpec : ChangeSpec := { name := "cmdTrims", fn := fun _ => fun
  | [d1, d2] => { results := [.lit (.bool true)], args := [d1, d2] }
  | _ => none }
def cmdTrimsRow : OpenClaim := { program := "ytnlekapghebhlaagreat", sum := "0add08e1327021c00cd189dbc5bab6038ee44454194c0bbc0b43ab5144444184", func := "tourney/tourkeep3.CmdTrims", spec := "cmdTrims", inPlace := ["slices.overlaps[*tourney/arch.table]"], unfollowed := true, recurses := true, apart := false }
def CmdTrimsSaid : Prop := cmdTrimsRow.holds Tryz.pinned (OpenSpec.ofChange cmdTrimsSpec)

/-- ITS FALSE NEIGHBOUR: 'it returns false'. Refute it at one input. -/
def cmdTrimsWrong : ChangeSpec := { name := "cmdTrims", fn := fun _ => fun
  | [d1, d2] => { results := [.lit (.bool false)], args := [d1, d2] }
  | _ => none }
def CmdTrimsWrongFalsely : Prop := cmdTrimsRow.holds Tryz.pinned (OpenSpec.ofChange cmdTrimsWrong)

/-- 'tourkeep3.CmdSplits': WHATEVER THE INPUT: true; the input reads as it did. -/
def cmdSplitsSpec : ChangeSpec := { name := "cmdSplits", fn := fun _ => fun
  | [d1, d2, d3] => { results := [.lit (.bool true)], args := [d1, d2, d3] }
  | _ => none }
def cmdSplitsRow : OpenClaim := { program := "ytnlekapghebhlaagreat", sum := "0add08e1327021c00cd189dbc5bab6038ee44454194c0bbc0b43ab5144444184", func := "tourney/tourkeep3.CmdSplits", spec := "cmdSplits", inPlace := ["slices.overlaps[*tourney/arch.table]"], unfollowed := true, recurses := true, apart := false }
def CmdSplitsSaid : Prop := cmdSplitsRow.holds Tryz.pinned (OpenSpec.ofChange cmdSplitsSpec)

/-- ITS FALSE NEIGHBOUR: 'it returns false'. Refute it at one input. -/
def cmdSplitsWrong : ChangeSpec := { name := "cmdSplits", fn := fun _ => fun
  | [d1, d2, d3] => { results := [.lit (.bool false)], args := [d1, d2, d3] }
  | _ => none }
def CmdSplitsWrongFalsely : Prop := cmdSplitsRow.holds Tryz.pinned (OpenSpec.ofChange cmdSplitsWrong)

/- THE SECOND FORM. 'bulk': how many values and letters a reading holds, each counted each time it is reached (what is shared counts as often as it is met; a slice's spare places count too). A statement '..UptoSaid' is the law's where the arguments, and the package variables that the reading takes, are together of bulk at most 1048576: NARROWER than '..Said'. Prove '..Said' where nothing that the law and all that it calls make is longer than what came in: it says more and counts as full. Else prove '..UptoSaid'. A law counts once. -/
mutual
def uptoBulk {H : Type} : DataW H → Nat
  | .lit (.string bytes) => bytes.length + 1
  | .lit _ => 1
  | .nil => 1
  | .ptr d => uptoBulk d + 1
  | .slice elems spare => uptoBulkAll elems + uptoBulkAll spare + 1
  | .agg parts => uptoBulkAll parts + 1
  | .iface _ d => uptoBulk d + 1
  | .map entries => uptoBulkEntries entries + 1
  | .held _ => 1
def uptoBulkAll {H : Type} : List (DataW H) → Nat
  | [] => 0
  | d :: r => uptoBulk d + uptoBulkAll r
def uptoBulkEntries {H : Type} : List (Lit × DataW H) → Nat
  | [] => 0
  | x :: r => uptoBulkEntry x + uptoBulkEntries r
def uptoBulkEntry {H : Type} : Lit × DataW H → Nat
  | (.string bytes, d) => bytes.length + uptoBulk d + 1
  | (_, d) => uptoBulk d + 1
 end
def uptoSmall : (H : Type) → List (DataW H) → Bool := fun _ ds => decide (uptoBulkAll ds ≤ 1048576)
def OpenSpec.upto (s : _root_.Go.ChangeSpec) : _root_.Go.OpenSpec := { _root_.Go.OpenSpec.ofChange s with cond := some uptoSmall }

/-- 'tourkeep3.WorldOwn', WHERE WHAT IT READS IS OF BULK AT MOST 1048576: true; the input reads as it did. -/
def worldOwnUptoRow : OpenClaim := { program := "ytnlekapghebhlaagreat", sum := "0add08e1327021c00cd189dbc5bab6038ee44454194c0bbc0b43ab5144444184", func := "tourney/tourkeep3.WorldOwn", spec := "worldOwn", inPlace := ["slices.overlaps[tourney/api.Item]", "slices.overlaps[tourney/api.Comp]", "slices.overlaps[*tourney/arch.table]"], unfollowed := true, recurses := true, apart := false, narrowed := true }
def WorldOwnUptoSaid : Prop := worldOwnUptoRow.holds Tryz.pinned (OpenSpec.upto worldOwnSpec)

/-- 'tourkeep3.CmdKills', WHERE WHAT IT READS IS OF BULK AT MOST 1048576: true; the input reads as it did. -/
def cmdKillsUptoRow : OpenClaim := { program := "ytnlekapghebhlaagreat", sum := "0add08e1327021c00cd189dbc5bab6038ee44454194c0bbc0b43ab5144444184", func := "tourney/tourkeep3.CmdKills", spec := "cmdKills", inPlace := ["slices.overlaps[*tourney/arch.table]"], unfollowed := true, recurses := true, apart := false, narrowed := true }
def CmdKillsUptoSaid : Prop := cmdKillsUptoRow.holds Tryz.pinned (OpenSpec.upto cmdKillsSpec)

/-- 'tourkeep3.CmdTrims', WHERE WHAT IT READS IS OF BULK AT MOST 1048576: true; the input reads as it did. -/
def cmdTrimsUptoRow : OpenClaim := { program := "ytnlekapghebhlaagreat", sum := "0add08e1327021c00cd189dbc5bab6038ee44454194c0bbc0b43ab5144444184", func := "tourney/tourkeep3.CmdTrims", spec := "cmdTrims", inPlace := ["slices.overlaps[*tourney/arch.table]"], unfollowed := true, recurses := true, apart := false, narrowed := true }
def CmdTrimsUptoSaid : Prop := cmdTrimsUptoRow.holds Tryz.pinned (OpenSpec.upto cmdTrimsSpec)

/-- 'tourkeep3.CmdSplits', WHERE WHAT IT READS IS OF BULK AT MOST 1048576: true; the input reads as it did. -/
def cmdSplitsUptoRow : OpenClaim := { program := "ytnlekapghebhlaagreat", sum := "0add08e1327021c00cd189dbc5bab6038ee44454194c0bbc0b43ab5144444184", func := "tourney/tourkeep3.CmdSplits", spec := "cmdSplits", inPlace := ["slices.overlaps[*tourney/arch.table]"], unfollowed := true, recurses := true, apart := false, narrowed := true }
def CmdSplitsUptoSaid : Prop := cmdSplitsUptoRow.holds Tryz.pinned (OpenSpec.upto cmdSplitsSpec)

end Rows
end Go.Proofs.YtnlekapghebhlaaGreat
