/-
  No cell of these rows narrows 'for every input' (looked for: loops, veiled, ifaces, maps, wideKeys, modest, calm, conditions, laid).
  DERIVED. THE GIVEN ROWS OF THIS SEAT. 11 by the template 'for every input the law returns true; each argument reads behind the call as it read before'; 0 by the template 'total and deterministic' (their statements: YtniccejlmbfpdaaTotals.lean).
  GIVEN WITH THE SEED: the statements are not yours to turn. If you find one false, say at which input.
  Laid BY PROGRAM, IN A SANDBOX (cutbox-rows.mjs): the forced cells as the released guide's own fill.sh prints them over the translation bb6755f7dd44eb48… (all of the seat's roots in one cut). By AI agents, Wed Nov 11 2026. No macro, syntax, notation, axiom, sorry.
-/
import Derived.Test.YtniccejlmbfpdaaChecked
import GoSem.Claim
import GoSem.ClaimJoined
import GoSem.ClaimMapViews
import Derived.JoinedTies
import Derived.KernelRfl
namespace Go.Proofs.Ytniccejlmbfpdaa
/- THE CELL 'sum', in the pinned program and in every row, IS THE sha256 OF THE DUMP (.gsa) THAT YtniccejlmbfpdaaProg.lean LOADS. Nothing in Lean hashes anything: it is a label: what it is worth is what the hold of that sum in a sandbox is worth. -/
noncomputable def Try.pinned : Pinned := { name := "ytniccejlmbfpdaa", sum := "bb6755f7dd44eb48d143dabf75995b624ff9a47c49cd36515a887c68f4f88b0a", checked := Try.checked }
namespace Rows
def none {H : Type} : Left H := { results := [], args := [] }

/-- 'teasellaw7.LogNewer': WHATEVER THE INPUT: true; the input reads as it did. -/
def logNewerSpec : ChangeSpec := { name := "logNewer", fn := fun _ => fun
  | [d1, d2] => { results := [.lit (.bool true)], args := [d1, d2] }
  | _ => none }
def logNewerRow : OpenClaim := { program := "ytniccejlmbfpdaa", sum := "bb6755f7dd44eb48d143dabf75995b624ff9a47c49cd36515a887c68f4f88b0a", func := "teasel/teasellaw7.LogNewer", spec := "logNewer", apart := false }
def LogNewerSaid : Prop := logNewerRow.holds Try.pinned (OpenSpec.ofChange logNewerSpec)

/-- ITS FALSE NEIGHBOUR: 'it returns false'. Refute it at one input. -/
def logNewerWrong : ChangeSpec := { name := "logNewer", fn := fun _ => fun
  | [d1, d2] => { results := [.lit (.bool false)], args := [d1, d2] }
  | _ => none }
def LogNewerWrongFalsely : Prop := logNewerRow.holds Try.pinned (OpenSpec.ofChange logNewerWrong)

/-- 'teasellaw7.LogMerges': WHATEVER THE INPUT: true; the input reads as it did. -/
def logMergesSpec : ChangeSpec := { name := "logMerges", fn := fun _ => fun
  | [d1, d2, d3] => { results := [.lit (.bool true)], args := [d1, d2, d3] }
  | _ => none }
def logMergesRow : OpenClaim := { program := "ytniccejlmbfpdaa", sum := "bb6755f7dd44eb48d143dabf75995b624ff9a47c49cd36515a887c68f4f88b0a", func := "teasel/teasellaw7.LogMerges", spec := "logMerges", apart := false }
def LogMergesSaid : Prop := logMergesRow.holds Try.pinned (OpenSpec.ofChange logMergesSpec)

/-- ITS FALSE NEIGHBOUR: 'it returns false'. Refute it at one input. -/
def logMergesWrong : ChangeSpec := { name := "logMerges", fn := fun _ => fun
  | [d1, d2, d3] => { results := [.lit (.bool false)], args := [d1, d2, d3] }
  | _ => none }
def LogMergesWrongFalsely : Prop := logMergesRow.holds Try.pinned (OpenSpec.ofChange logMergesWrong)

/-- 'teasellaw4.DiskAll': WHATEVER THE INPUT: true; the input reads as it did. -/
def diskAllSpec : ChangeSpec := { name := "diskAll", fn := fun _ => fun
  | [d1, d2] => { results := [.lit (.bool true)], args := [d1, d2] }
  | _ => none }
def diskAllRow : OpenClaim := { program := "ytniccejlmbfpdaa", sum := "bb6755f7dd44eb48d143dabf75995b624ff9a47c49cd36515a887c68f4f88b0a", func := "teasel/teasellaw4.DiskAll", spec := "diskAll", unfollowed := true, recurses := true, apart := false }
def DiskAllSaid : Prop := diskAllRow.holds Try.pinned (OpenSpec.ofChange diskAllSpec)

/-- ITS FALSE NEIGHBOUR: 'it returns false'. Refute it at one input. -/
def diskAllWrong : ChangeSpec := { name := "diskAll", fn := fun _ => fun
  | [d1, d2] => { results := [.lit (.bool false)], args := [d1, d2] }
  | _ => none }
def DiskAllWrongFalsely : Prop := diskAllRow.holds Try.pinned (OpenSpec.ofChange diskAllWrong)

/-- 'teasellaw7.LogHints': WHATEVER THE INPUT: true; the input reads as it did. -/
def logHintsSpec : ChangeSpec := { name := "logHints", fn := fun _ => fun
  | [d1, d2, d3, d4] => { results := [.lit (.bool true)], args := [d1, d2, d3, d4] }
  | _ => none }
def logHintsRow : OpenClaim := { program := "ytniccejlmbfpdaa", sum := "bb6755f7dd44eb48d143dabf75995b624ff9a47c49cd36515a887c68f4f88b0a", func := "teasel/teasellaw7.LogHints", spec := "logHints", apart := false }
def LogHintsSaid : Prop := logHintsRow.holds Try.pinned (OpenSpec.ofChange logHintsSpec)

/-- ITS FALSE NEIGHBOUR: 'it returns false'. Refute it at one input. -/
def logHintsWrong : ChangeSpec := { name := "logHints", fn := fun _ => fun
  | [d1, d2, d3, d4] => { results := [.lit (.bool false)], args := [d1, d2, d3, d4] }
  | _ => none }
def LogHintsWrongFalsely : Prop := logHintsRow.holds Try.pinned (OpenSpec.ofChange logHintsWrong)

/-- 'teasellaw4.DiskOwn': WHATEVER THE INPUT: true; the input reads as it did. -/
def diskOwnSpec : ChangeSpec := { name := "diskOwn", fn := fun _ => fun
  | [d1, d2] => { results := [.lit (.bool true)], args := [d1, d2] }
  | _ => none }
def diskOwnRow : OpenClaim := { program := "ytniccejlmbfpdaa", sum := "bb6755f7dd44eb48d143dabf75995b624ff9a47c49cd36515a887c68f4f88b0a", func := "teasel/teasellaw4.DiskOwn", spec := "diskOwn", unfollowed := true, recurses := true, apart := false }
def DiskOwnSaid : Prop := diskOwnRow.holds Try.pinned (OpenSpec.ofChange diskOwnSpec)

/-- ITS FALSE NEIGHBOUR: 'it returns false'. Refute it at one input. -/
def diskOwnWrong : ChangeSpec := { name := "diskOwn", fn := fun _ => fun
  | [d1, d2] => { results := [.lit (.bool false)], args := [d1, d2] }
  | _ => none }
def DiskOwnWrongFalsely : Prop := diskOwnRow.holds Try.pinned (OpenSpec.ofChange diskOwnWrong)

/-- 'teasellaw7.LogCompacts': WHATEVER THE INPUT: true; the input reads as it did. -/
def logCompactsSpec : ChangeSpec := { name := "logCompacts", fn := fun _ => fun
  | [d1, d2] => { results := [.lit (.bool true)], args := [d1, d2] }
  | _ => none }
def logCompactsRow : OpenClaim := { program := "ytniccejlmbfpdaa", sum := "bb6755f7dd44eb48d143dabf75995b624ff9a47c49cd36515a887c68f4f88b0a", func := "teasel/teasellaw7.LogCompacts", spec := "logCompacts", apart := false }
def LogCompactsSaid : Prop := logCompactsRow.holds Try.pinned (OpenSpec.ofChange logCompactsSpec)

/-- ITS FALSE NEIGHBOUR: 'it returns false'. Refute it at one input. -/
def logCompactsWrong : ChangeSpec := { name := "logCompacts", fn := fun _ => fun
  | [d1, d2] => { results := [.lit (.bool false)], args := [d1, d2] }
  | _ => none }
def LogCompactsWrongFalsely : Prop := logCompactsRow.holds Try.pinned (OpenSpec.ofChange logCompactsWrong)

/-- 'teasellaw4.DiskOutlasts': WHATEVER THE INPUT: true; the input reads as it did. -/
def diskOutlastsSpec : ChangeSpec := { name := "diskOutlasts", fn := fun _ => fun
  | [d1, d2, d3] => { results := [.lit (.bool true)], args := [d1, d2, d3] }
  | _ => none }
def diskOutlastsRow : OpenClaim := { program := "ytniccejlmbfpdaa", sum := "bb6755f7dd44eb48d143dabf75995b624ff9a47c49cd36515a887c68f4f88b0a", func := "teasel/teasellaw4.DiskOutlasts", spec := "diskOutlasts", unfollowed := true, recurses := true, apart := false }
def DiskOutlastsSaid : Prop := diskOutlastsRow.holds Try.pinned (OpenSpec.ofChange diskOutlastsSpec)

/-- ITS FALSE NEIGHBOUR: 'it returns false'. Refute it at one input. -/
def diskOutlastsWrong : ChangeSpec := { name := "diskOutlasts", fn := fun _ => fun
  | [d1, d2, d3] => { results := [.lit (.bool false)], args := [d1, d2, d3] }
  | _ => none }
def DiskOutlastsWrongFalsely : Prop := diskOutlastsRow.holds Try.pinned (OpenSpec.ofChange diskOutlastsWrong)

/-- 'teasellaw4.DiskArmed': WHATEVER THE INPUT: true; the input reads as it did. -/
def diskArmedSpec : ChangeSpec := { name := "diskArmed", fn := fun _ => fun
  | [d1, d2, d3] => { results := [.lit (.bool true)], args := [d1, d2, d3] }
  | _ => none }
def diskArmedRow : OpenClaim := { program := "ytniccejlmbfpdaa", sum := "bb6755f7dd44eb48d143dabf75995b624ff9a47c49cd36515a887c68f4f88b0a", func := "teasel/teasellaw4.DiskArmed", spec := "diskArmed", unfollowed := true, recurses := true, apart := false }
def DiskArmedSaid : Prop := diskArmedRow.holds Try.pinned (OpenSpec.ofChange diskArmedSpec)

/-- ITS FALSE NEIGHBOUR: 'it returns false'. Refute it at one input. -/
def diskArmedWrong : ChangeSpec := { name := "diskArmed", fn := fun _ => fun
  | [d1, d2, d3] => { results := [.lit (.bool false)], args := [d1, d2, d3] }
  | _ => none }
def DiskArmedWrongFalsely : Prop := diskArmedRow.holds Try.pinned (OpenSpec.ofChange diskArmedWrong)

/-- 'teasellaw4.DiskPlays': WHATEVER THE INPUT: true; the input reads as it did. -/
def diskPlaysSpec : ChangeSpec := { name := "diskPlays", fn := fun _ => fun
  | [d1, d2, d3] => { results := [.lit (.bool true)], args := [d1, d2, d3] }
  | _ => none }
def diskPlaysRow : OpenClaim := { program := "ytniccejlmbfpdaa", sum := "bb6755f7dd44eb48d143dabf75995b624ff9a47c49cd36515a887c68f4f88b0a", func := "teasel/teasellaw4.DiskPlays", spec := "diskPlays", unfollowed := true, recurses := true, apart := false }
def DiskPlaysSaid : Prop := diskPlaysRow.holds Try.pinned (OpenSpec.ofChange diskPlaysSpec)

/-- ITS FALSE NEIGHBOUR: 'it returns false'. Refute it at one input. -/
def diskPlaysWrong : ChangeSpec := { name := "diskPlays", fn := fun _ => fun
  | [d1, d2, d3] => { results := [.lit (.bool false)], args := [d1, d2, d3] }
  | _ => none }
def DiskPlaysWrongFalsely : Prop := diskPlaysRow.holds Try.pinned (OpenSpec.ofChange diskPlaysWrong)

/-- 'teasellaw7.LogPlays': WHATEVER THE INPUT: true; the input reads as it did. -/
def logPlaysSpec : ChangeSpec := { name := "logPlays", fn := fun _ => fun
  | [d1, d2, d3, d4] => { results := [.lit (.bool true)], args := [d1, d2, d3, d4] }
  | _ => none }
def logPlaysRow : OpenClaim := { program := "ytniccejlmbfpdaa", sum := "bb6755f7dd44eb48d143dabf75995b624ff9a47c49cd36515a887c68f4f88b0a", func := "teasel/teasellaw7.LogPlays", spec := "logPlays", apart := false }
def LogPlaysSaid : Prop := logPlaysRow.holds Try.pinned (OpenSpec.ofChange logPlaysSpec)

/-- ITS FALSE NEIGHBOUR: 'it returns false'. Refute it at one input. -/
def logPlaysWrong : ChangeSpec := { name := "logPlays", fn := fun _ => fun
  | [d1, d2, d3, d4] => { results := [.lit (.bool false)], args := [d1, d2, d3, d4] }
  | _ => none }
def LogPlaysWrongFalsely : Prop := logPlaysRow.holds Try.pinned (OpenSpec.ofChange logPlaysWrong)

/-- 'teasellaw15.TimersAcks': WHATEVER THE INPUT: true; the input reads as it did. -/
def timersAcksSpec : ChangeSpec := { name := "timersAcks", fn := fun _ => fun
  | [d1, d2] => { results := [.lit (.bool true)], args := [d1, d2] }
  | _ => none }
def timersAcksRow : OpenClaim := { program := "ytniccejlmbfpdaa", sum := "bb6755f7dd44eb48d143dabf75995b624ff9a47c49cd36515a887c68f4f88b0a", func := "teasel/teasellaw15.TimersAcks", spec := "timersAcks", inPlace := ["slices.overlaps[teasel/timers.Item]"], unfollowed := true, recurses := true, apart := false }
def TimersAcksSaid : Prop := timersAcksRow.holds Try.pinned (OpenSpec.ofChange timersAcksSpec)

/-- ITS FALSE NEIGHBOUR: 'it returns false'. Refute it at one input. -/
def timersAcksWrong : ChangeSpec := { name := "timersAcks", fn := fun _ => fun
  | [d1, d2] => { results := [.lit (.bool false)], args := [d1, d2] }
  | _ => none }
def TimersAcksWrongFalsely : Prop := timersAcksRow.holds Try.pinned (OpenSpec.ofChange timersAcksWrong)

/- THE SECOND FORM. 'bulk': how many values and letters a reading holds, each counted each time it is reached (what is shared counts as often as it is met; a slice's spare places count too). A statement '..UptoSaid' is the law's where the arguments, and the package variables that the reading takes, are together of bulk at most 1048576: NARROWER than '..Said'. Prove '..Said' where nothing that the law and all that it calls make is longer than what came in: it says more and counts as full. Else prove '..UptoSaid'. A law counts once. -/
mutual
def uptoBulk {H : Type} : DataW H → Nat
  | .lit (.string bytes) => bytes.length + 1
  | .lit _ => 1
  | .nil => 1
  | .ptr d => uptoBulk d + 1
  | .slice elems spare => uptoBulkAll elems + uptoBulkAll spare + 1
  | .agg parts => uptoBulkAll parts + 1
  | .iface _ d => uptoBulk d + 1
  | .map entries => uptoBulkEntries entries + 1
  | .held _ => 1
def uptoBulkAll {H : Type} : List (DataW H) → Nat
  | [] => 0
  | d :: r => uptoBulk d + uptoBulkAll r
def uptoBulkEntries {H : Type} : List (Lit × DataW H) → Nat
  | [] => 0
  | x :: r => uptoBulkEntry x + uptoBulkEntries r
def uptoBulkEntry {H : Type} : Lit × DataW H → Nat
  | (.string bytes, d) => bytes.length + uptoBulk d + 1
  | (_, d) => uptoBulk d + 1
 end
def uptoSmall : (H : Type) → List (DataW H) → Bool := fun _ ds => decide (uptoBulkAll ds ≤ 1048576)
def OpenSpec.upto (s : _root_.Go.ChangeSpec) : _root_.Go.OpenSpec := { _root_.Go.OpenSpec.ofChange s with cond := some uptoSmall }

/-- 'teasellaw7.LogNewer', WHERE WHAT IT READS IS OF BULK AT MOST 1048576: true; the input reads as it did. -/
def logNewerUptoRow : OpenClaim := { program := "ytniccejlmbfpdaa", sum := "bb6755f7dd44eb48d143dabf75995b624ff9a47c49cd36515a887c68f4f88b0a", func := "teasel/teasellaw7.LogNewer", spec := "logNewer", apart := false, narrowed := true }
def LogNewerUptoSaid : Prop := logNewerUptoRow.holds Try.pinned (OpenSpec.upto logNewerSpec)

/-- 'teasellaw7.LogMerges', WHERE WHAT IT READS IS OF BULK AT MOST 1048576: true; the input reads as it did. -/
def logMergesUptoRow : OpenClaim := { program := "ytniccejlmbfpdaa", sum := "bb6755f7dd44eb48d143dabf75995b624ff9a47c49cd36515a887c68f4f88b0a", func := "teasel/teasellaw7.LogMerges", spec := "logMerges", apart := false, narrowed := true }
def LogMergesUptoSaid : Prop := logMergesUptoRow.holds Try.pinned (OpenSpec.upto logMergesSpec)

/-- 'teasellaw4.DiskAll', WHERE WHAT IT READS IS OF BULK AT MOST 1048576: true; the input reads as it did. -/
def diskAllUptoRow : OpenClaim := { program := "ytniccejlmbfpdaa", sum := "bb6755f7dd44eb48d143dabf75995b624ff9a47c49cd36515a887c68f4f88b0a", func := "teasel/teasellaw4.DiskAll", spec := "diskAll", unfollowed := true, recurses := true, apart := false, narrowed := true }
def DiskAllUptoSaid : Prop := diskAllUptoRow.holds Try.pinned (OpenSpec.upto diskAllSpec)

/-- 'teasellaw7.LogHints', WHERE WHAT IT READS IS OF BULK AT MOST 1048576: true; the input reads as it did. -/
def logHintsUptoRow : OpenClaim := { program := "ytniccejlmbfpdaa", sum := "bb6755f7dd44eb48d143dabf75995b624ff9a47c49cd36515a887c68f4f88b0a", func := "teasel/teasellaw7.LogHints", spec := "logHints", apart := false, narrowed := true }
def LogHintsUptoSaid : Prop := logHintsUptoRow.holds Try.pinned (OpenSpec.upto logHintsSpec)

/-- 'teasellaw4.DiskOwn', WHERE WHAT IT READS IS OF BULK AT MOST 1048576: true; the input reads as it did. -/
def diskOwnUptoRow : OpenClaim := { program := "ytniccejlmbfpdaa", sum := "bb6755f7dd44eb48d143dabf75995b624ff9a47c49cd36515a887c68f4f88b0a", func := "teasel/teasellaw4.DiskOwn", spec := "diskOwn", unfollowed := true, recurses := true, apart := false, narrowed := true }
def DiskOwnUptoSaid : Prop := diskOwnUptoRow.holds Try.pinned (OpenSpec.upto diskOwnSpec)

/-- 'teasellaw7.LogCompacts', WHERE WHAT IT READS IS OF BULK AT MOST 1048576: true; the input reads as it did. -/
def logCompactsUptoRow : OpenClaim := { program := "ytniccejlmbfpdaa", sum := "bb6755f7dd44eb48d143dabf75995b624ff9a47c49cd36515a887c68f4f88b0a", func := "teasel/teasellaw7.LogCompacts", spec := "logCompacts", apart := false, narrowed := true }
def LogCompactsUptoSaid : Prop := logCompactsUptoRow.holds Try.pinned (OpenSpec.upto logCompactsSpec)

/-- 'teasellaw4.DiskOutlasts', WHERE WHAT IT READS IS OF BULK AT MOST 1048576: true; the input reads as it did. -/
def diskOutlastsUptoRow : OpenClaim := { program := "ytniccejlmbfpdaa", sum := "bb6755f7dd44eb48d143dabf75995b624ff9a47c49cd36515a887c68f4f88b0a", func := "teasel/teasellaw4.DiskOutlasts", spec := "diskOutlasts", unfollowed := true, recurses := true, apart := false, narrowed := true }
def DiskOutlastsUptoSaid : Prop := diskOutlastsUptoRow.holds Try.pinned (OpenSpec.upto diskOutlastsSpec)

/-- 'teasellaw4.DiskArmed', WHERE WHAT IT READS IS OF BULK AT MOST 1048576: true; the input reads as it did. -/
def diskArmedUptoRow : OpenClaim := { program := "ytniccejlmbfpdaa", sum := "bb6755f7dd44eb48d143dabf75995b624ff9a47c49cd36515a887c68f4f88b0a", func := "teasel/teasellaw4.DiskArmed", spec := "diskArmed", unfollowed := true, recurses := true, apart := false, narrowed := true }
def DiskArmedUptoSaid : Prop := diskArmedUptoRow.holds Try.pinned (OpenSpec.upto diskArmedSpec)

/-- 'teasellaw4.DiskPlays', WHERE WHAT IT READS IS OF BULK AT MOST 1048576: true; the input reads as it did. -/
def diskPlaysUptoRow : OpenClaim := { program := "ytniccejlmbfpdaa", sum := "bb6755f7dd44eb48d143dabf75995b624ff9a47c49cd36515a887c68f4f88b0a", func := "teasel/teasellaw4.DiskPlays", spec := "diskPlays", unfollowed := true, recurses := true, apart := false, narrowed := true }
def DiskPlaysUptoSaid : Prop := diskPlaysUptoRow.holds Try.pinned (OpenSpec.upto diskPlaysSpec)

/-- 'teasellaw7.LogPlays', WHERE WHAT IT READS IS OF BULK AT MOST 1048576: true; the input reads as it did. -/
def logPlaysUptoRow : OpenClaim := { program := "ytniccejlmbfpdaa", sum := "bb6755f7dd44eb48d143dabf75995b624ff9a47c49cd36515a887c68f4f88b0a", func := "teasel/teasellaw7.LogPlays", spec := "logPlays", apart := false, narrowed := true }
def LogPlaysUptoSaid : Prop := logPlaysUptoRow.holds Try.pinned (OpenSpec.upto logPlaysSpec)

/-- 'teasellaw15.TimersAcks', WHERE WHAT IT READS IS OF BULK AT MOST 1048576: true; the input reads as it did. -/
def timersAcksUptoRow : OpenClaim := { program := "ytniccejlmbfpdaa", sum := "bb6755f7dd44eb48d143dabf75995b624ff9a47c49cd36515a887c68f4f88b0a", func := "teasel/teasellaw15.TimersAcks", spec := "timersAcks", inPlace := ["slices.overlaps[teasel/timers.Item]"], unfollowed := true, recurses := true, apart := false, narrowed := true }
def TimersAcksUptoSaid : Prop := timersAcksUptoRow.holds Try.pinned (OpenSpec.upto timersAcksSpec)

end Rows
end Go.Proofs.Ytniccejlmbfpdaa
