/-
  No cell of these rows narrows 'for every input' (looked for: loops, veiled, ifaces, maps, wideKeys, modest, calm, conditions, laid).
  DERIVED. THE GIVEN ROWS OF THIS SEAT. 10 by the template 'for every input the law returns true; each argument reads behind the call as it read before'; 0 by the template 'total and deterministic' (their statements: YtaojjneajiobnaaTotals.lean).
  GIVEN WITH THE SEED: the statements are not yours to turn. If you find one false, say at which input.
  Laid BY PROGRAM, IN A SANDBOX (cutbox-rows.mjs): the forced cells as the released guide's own fill.sh prints them over the translation 371929a36220f454… (all of the seat's roots in one cut). By AI agents, Wed Nov 11 2026. No macro, syntax, notation, axiom, sorry.
-/
import Derived.Test.YtaojjneajiobnaaChecked
import GoSem.Claim
import GoSem.ClaimJoined
import GoSem.ClaimMapViews
import Derived.JoinedTies
import Derived.KernelRfl
namespace Go.Proofs.Ytaojjneajiobnaa
/- THE CELL 'sum', in the pinned program and in every row, IS THE sha256 OF THE DUMP (.gsa) THAT YtaojjneajiobnaaProg.lean LOADS. Nothing in Lean hashes anything: it is a label: what it is worth is what the hold of that sum in a sandbox is worth. -/
noncomputable def Try.pinned : Pinned := { name := "ytaojjneajiobnaa", sum := "371929a36220f454c3ed62b1ec0ad667e88141785a61b1ba24191ad4c8acb302", checked := Try.checked }
namespace Rows
def none {H : Type} : Left H := { results := [], args := [] }

/-- 'fascialaw19.LevelTells': WHATEVER THE INPUT: true; the input reads as it did. -/
def levelTellsSpec : ChangeSpec := { name := "levelTells", fn := fun _ => fun
  | [d1, d2, d3, d4, d5] => { results := [.lit (.bool true)], args := [d1, d2, d3, d4, d5] }
  | _ => none }
def levelTellsRow : OpenClaim := { program := "ytaojjneajiobnaa", sum := "371929a36220f454c3ed62b1ec0ad667e88141785a61b1ba24191ad4c8acb302", func := "fascia/fascialaw19.LevelTells", spec := "levelTells", unfollowed := true, recurses := true, apart := false }
def LevelTellsSaid : Prop := levelTellsRow.holds Try.pinned (OpenSpec.ofChange levelTellsSpec)

/-- ITS FALSE NEIGHBOUR: 'it returns false'. Refute it at one input. -/
def levelTellsWrong : ChangeSpec := { name := "levelTells", fn := fun _ => fun
  | [d1, d2, d3, d4, d5] => { results := [.lit (.bool false)], args := [d1, d2, d3, d4, d5] }
  | _ => none }
def LevelTellsWrongFalsely : Prop := levelTellsRow.holds Try.pinned (OpenSpec.ofChange levelTellsWrong)

/-- 'fascialaw19.LevelMatch': WHATEVER THE INPUT: true; the input reads as it did. -/
def levelMatchSpec : ChangeSpec := { name := "levelMatch", fn := fun _ => fun
  | [d] => { results := [.lit (.bool true)], args := [d] }
  | _ => none }
def levelMatchRow : OpenClaim := { program := "ytaojjneajiobnaa", sum := "371929a36220f454c3ed62b1ec0ad667e88141785a61b1ba24191ad4c8acb302", func := "fascia/fascialaw19.LevelMatch", spec := "levelMatch", unfollowed := true, recurses := true, apart := false }
def LevelMatchSaid : Prop := levelMatchRow.holds Try.pinned (OpenSpec.ofChange levelMatchSpec)

/-- ITS FALSE NEIGHBOUR: 'it returns false'. Refute it at one input. -/
def levelMatchWrong : ChangeSpec := { name := "levelMatch", fn := fun _ => fun
  | [d] => { results := [.lit (.bool false)], args := [d] }
  | _ => none }
def LevelMatchWrongFalsely : Prop := levelMatchRow.holds Try.pinned (OpenSpec.ofChange levelMatchWrong)

/-- 'fascialaw19.LevelBounds': WHATEVER THE INPUT: true; the input reads as it did. -/
def levelBoundsSpec : ChangeSpec := { name := "levelBounds", fn := fun _ => fun
  | [d1, d2] => { results := [.lit (.bool true)], args := [d1, d2] }
  | _ => none }
def levelBoundsRow : OpenClaim := { program := "ytaojjneajiobnaa", sum := "371929a36220f454c3ed62b1ec0ad667e88141785a61b1ba24191ad4c8acb302", func := "fascia/fascialaw19.LevelBounds", spec := "levelBounds", unfollowed := true, recurses := true, apart := false }
def LevelBoundsSaid : Prop := levelBoundsRow.holds Try.pinned (OpenSpec.ofChange levelBoundsSpec)

/-- ITS FALSE NEIGHBOUR: 'it returns false'. Refute it at one input. -/
def levelBoundsWrong : ChangeSpec := { name := "levelBounds", fn := fun _ => fun
  | [d1, d2] => { results := [.lit (.bool false)], args := [d1, d2] }
  | _ => none }
def LevelBoundsWrongFalsely : Prop := levelBoundsRow.holds Try.pinned (OpenSpec.ofChange levelBoundsWrong)

/-- 'fascialaw19.LevelPlain': WHATEVER THE INPUT: true; the input reads as it did. -/
def levelPlainSpec : ChangeSpec := { name := "levelPlain", fn := fun _ => fun
  | [d1, d2] => { results := [.lit (.bool true)], args := [d1, d2] }
  | _ => none }
def levelPlainRow : OpenClaim := { program := "ytaojjneajiobnaa", sum := "371929a36220f454c3ed62b1ec0ad667e88141785a61b1ba24191ad4c8acb302", func := "fascia/fascialaw19.LevelPlain", spec := "levelPlain", unfollowed := true, recurses := true, apart := false }
def LevelPlainSaid : Prop := levelPlainRow.holds Try.pinned (OpenSpec.ofChange levelPlainSpec)

/-- ITS FALSE NEIGHBOUR: 'it returns false'. Refute it at one input. -/
def levelPlainWrong : ChangeSpec := { name := "levelPlain", fn := fun _ => fun
  | [d1, d2] => { results := [.lit (.bool false)], args := [d1, d2] }
  | _ => none }
def LevelPlainWrongFalsely : Prop := levelPlainRow.holds Try.pinned (OpenSpec.ofChange levelPlainWrong)

/-- 'fascialaw19.LevelIsolates': WHATEVER THE INPUT: true; the input reads as it did. -/
def levelIsolatesSpec : ChangeSpec := { name := "levelIsolates", fn := fun _ => fun
  | [d1, d2, d3, d4, d5, d6] => { results := [.lit (.bool true)], args := [d1, d2, d3, d4, d5, d6] }
  | _ => none }
def levelIsolatesRow : OpenClaim := { program := "ytaojjneajiobnaa", sum := "371929a36220f454c3ed62b1ec0ad667e88141785a61b1ba24191ad4c8acb302", func := "fascia/fascialaw19.LevelIsolates", spec := "levelIsolates", unfollowed := true, recurses := true, apart := false }
def LevelIsolatesSaid : Prop := levelIsolatesRow.holds Try.pinned (OpenSpec.ofChange levelIsolatesSpec)

/-- ITS FALSE NEIGHBOUR: 'it returns false'. Refute it at one input. -/
def levelIsolatesWrong : ChangeSpec := { name := "levelIsolates", fn := fun _ => fun
  | [d1, d2, d3, d4, d5, d6] => { results := [.lit (.bool false)], args := [d1, d2, d3, d4, d5, d6] }
  | _ => none }
def LevelIsolatesWrongFalsely : Prop := levelIsolatesRow.holds Try.pinned (OpenSpec.ofChange levelIsolatesWrong)

/-- 'fascialaw19.LevelDepth': WHATEVER THE INPUT: true; the input reads as it did. -/
def levelDepthSpec : ChangeSpec := { name := "levelDepth", fn := fun _ => fun
  | [d1, d2] => { results := [.lit (.bool true)], args := [d1, d2] }
  | _ => none }
def levelDepthRow : OpenClaim := { program := "ytaojjneajiobnaa", sum := "371929a36220f454c3ed62b1ec0ad667e88141785a61b1ba24191ad4c8acb302", func := "fascia/fascialaw19.LevelDepth", spec := "levelDepth", unfollowed := true, recurses := true, apart := false }
def LevelDepthSaid : Prop := levelDepthRow.holds Try.pinned (OpenSpec.ofChange levelDepthSpec)

/-- ITS FALSE NEIGHBOUR: 'it returns false'. Refute it at one input. -/
def levelDepthWrong : ChangeSpec := { name := "levelDepth", fn := fun _ => fun
  | [d1, d2] => { results := [.lit (.bool false)], args := [d1, d2] }
  | _ => none }
def LevelDepthWrongFalsely : Prop := levelDepthRow.holds Try.pinned (OpenSpec.ofChange levelDepthWrong)

/-- 'fascialaw20.RunsTell': WHATEVER THE INPUT: true; the input reads as it did. -/
def runsTellSpec : ChangeSpec := { name := "runsTell", fn := fun _ => fun
  | [d1, d2, d3] => { results := [.lit (.bool true)], args := [d1, d2, d3] }
  | _ => none }
def runsTellRow : OpenClaim := { program := "ytaojjneajiobnaa", sum := "371929a36220f454c3ed62b1ec0ad667e88141785a61b1ba24191ad4c8acb302", func := "fascia/fascialaw20.RunsTell", spec := "runsTell", unfollowed := true, recurses := true, apart := false }
def RunsTellSaid : Prop := runsTellRow.holds Try.pinned (OpenSpec.ofChange runsTellSpec)

/-- ITS FALSE NEIGHBOUR: 'it returns false'. Refute it at one input. -/
def runsTellWrong : ChangeSpec := { name := "runsTell", fn := fun _ => fun
  | [d1, d2, d3] => { results := [.lit (.bool false)], args := [d1, d2, d3] }
  | _ => none }
def RunsTellWrongFalsely : Prop := runsTellRow.holds Try.pinned (OpenSpec.ofChange runsTellWrong)

/-- 'fascialaw20.RunsOnce': WHATEVER THE INPUT: true; the input reads as it did. -/
def runsOnceSpec : ChangeSpec := { name := "runsOnce", fn := fun _ => fun
  | [d1, d2] => { results := [.lit (.bool true)], args := [d1, d2] }
  | _ => none }
def runsOnceRow : OpenClaim := { program := "ytaojjneajiobnaa", sum := "371929a36220f454c3ed62b1ec0ad667e88141785a61b1ba24191ad4c8acb302", func := "fascia/fascialaw20.RunsOnce", spec := "runsOnce", unfollowed := true, recurses := true, apart := false }
def RunsOnceSaid : Prop := runsOnceRow.holds Try.pinned (OpenSpec.ofChange runsOnceSpec)

/-- ITS FALSE NEIGHBOUR: 'it returns false'. Refute it at one input. -/
def runsOnceWrong : ChangeSpec := { name := "runsOnce", fn := fun _ => fun
  | [d1, d2] => { results := [.lit (.bool false)], args := [d1, d2] }
  | _ => none }
def RunsOnceWrongFalsely : Prop := runsOnceRow.holds Try.pinned (OpenSpec.ofChange runsOnceWrong)

/-- 'fascialaw20.RunsPlain': WHATEVER THE INPUT: true; the input reads as it did. -/
def runsPlainSpec : ChangeSpec := { name := "runsPlain", fn := fun _ => fun
  | [d1, d2] => { results := [.lit (.bool true)], args := [d1, d2] }
  | _ => none }
def runsPlainRow : OpenClaim := { program := "ytaojjneajiobnaa", sum := "371929a36220f454c3ed62b1ec0ad667e88141785a61b1ba24191ad4c8acb302", func := "fascia/fascialaw20.RunsPlain", spec := "runsPlain", unfollowed := true, recurses := true, apart := false }
def RunsPlainSaid : Prop := runsPlainRow.holds Try.pinned (OpenSpec.ofChange runsPlainSpec)

/-- ITS FALSE NEIGHBOUR: 'it returns false'. Refute it at one input. -/
def runsPlainWrong : ChangeSpec := { name := "runsPlain", fn := fun _ => fun
  | [d1, d2] => { results := [.lit (.bool false)], args := [d1, d2] }
  | _ => none }
def RunsPlainWrongFalsely : Prop := runsPlainRow.holds Try.pinned (OpenSpec.ofChange runsPlainWrong)

/-- 'fascialaw20.RunsSides': WHATEVER THE INPUT: true; the input reads as it did. -/
def runsSidesSpec : ChangeSpec := { name := "runsSides", fn := fun _ => fun
  | [d1, d2, d3] => { results := [.lit (.bool true)], args := [d1, d2, d3] }
  | _ => none }
def runsSidesRow : OpenClaim := { program := "ytaojjneajiobnaa", sum := "371929a36220f454c3ed62b1ec0ad667e88141785a61b1ba24191ad4c8acb302", func := "fascia/fascialaw20.RunsSides", spec := "runsSides", unfollowed := true, recurses := true, apart := false }
def RunsSidesSaid : Prop := runsSidesRow.holds Try.pinned (OpenSpec.ofChange runsSidesSpec)

/-- ITS FALSE NEIGHBOUR: 'it returns false'. Refute it at one input. -/
def runsSidesWrong : ChangeSpec := { name := "runsSides", fn := fun _ => fun
  | [d1, d2, d3] => { results := [.lit (.bool false)], args := [d1, d2, d3] }
  | _ => none }
def RunsSidesWrongFalsely : Prop := runsSidesRow.holds Try.pinned (OpenSpec.ofChange runsSidesWrong)

/- THE SECOND FORM. 'bulk': how many values and letters a reading holds, each counted each time it is reached (what is shared counts as often as it is met; a slice's spare places count too). A statement '..UptoSaid' is the law's where the arguments, and the package variables that the reading takes, are together of bulk at most 1048576: NARROWER than '..Said'. Prove '..Said' where nothing that the law and all that it calls make is longer than what came in: it says more and counts as full. Else prove '..UptoSaid'. A law counts once. -/
mutual
def uptoBulk {H : Type} : DataW H → Nat
  | .lit (.string bytes) => bytes.length + 1
  | .lit _ => 1
  | .nil => 1
  | .ptr d => uptoBulk d + 1
  | .slice elems spare => uptoBulkAll elems + uptoBulkAll spare + 1
  | .agg parts => uptoBulkAll parts + 1
  | .iface _ d => uptoBulk d + 1
  | .map entries => uptoBulkEntries entries + 1
  | .held _ => 1
def uptoBulkAll {H : Type} : List (DataW H) → Nat
  | [] => 0
  | d :: r => uptoBulk d + uptoBulkAll r
def uptoBulkEntries {H : Type} : List (Lit × DataW H) → Nat
  | [] => 0
  | x :: r => uptoBulkEntry x + uptoBulkEntries r
def uptoBulkEntry {H : Type} : Lit × DataW H → Nat
  | (.string bytes, d) => bytes.length + uptoBulk d + 1
  | (_, d) => uptoBulk d + 1
 end
def uptoSmall : (H : Type) → List (DataW H) → Bool := fun _ ds => decide (uptoBulkAll ds ≤ 1048576)
def OpenSpec.upto (s : _root_.Go.ChangeSpec) : _root_.Go.OpenSpec := { _root_.Go.OpenSpec.ofChange s with cond := some uptoSmall }

/-- 'fascialaw19.LevelTells', WHERE WHAT IT READS IS OF BULK AT MOST 1048576: true; the input reads as it did. -/
def levelTellsUptoRow : OpenClaim := { program := "ytaojjneajiobnaa", sum := "371929a36220f454c3ed62b1ec0ad667e88141785a61b1ba24191ad4c8acb302", func := "fascia/fascialaw19.LevelTells", spec := "levelTells", unfollowed := true, recurses := true, apart := false, narrowed := true }
def LevelTellsUptoSaid : Prop := levelTellsUptoRow.holds Try.pinned (OpenSpec.upto levelTellsSpec)

/-- 'fascialaw19.LevelMatch', WHERE WHAT IT READS IS OF BULK AT MOST 1048576: true; the input reads as it did. -/
def levelMatchUptoRow : OpenClaim := { program := "ytaojjneajiobnaa", sum := "371929a36220f454c3ed62b1ec0ad667e88141785a61b1ba24191ad4c8acb302", func := "fascia/fascialaw19.LevelMatch", spec := "levelMatch", unfollowed := true, recurses := true, apart := false, narrowed := true }
def LevelMatchUptoSaid : Prop := levelMatchUptoRow.holds Try.pinned (OpenSpec.upto levelMatchSpec)

/-- 'fascialaw19.LevelBounds', WHERE WHAT IT READS IS OF BULK AT MOST 1048576: true; the input reads as it did. -/
def levelBoundsUptoRow : OpenClaim := { program := "ytaojjneajiobnaa", sum := "371929a36220f454c3ed62b1ec0ad667e88141785a61b1ba24191ad4c8acb302", func := "fascia/fascialaw19.LevelBounds", spec := "levelBounds", unfollowed := true, recurses := true, apart := false, narrowed := true }
def LevelBoundsUptoSaid : Prop := levelBoundsUptoRow.holds Try.pinned (OpenSpec.upto levelBoundsSpec)

/-- 'fascialaw19.LevelPlain', WHERE WHAT IT READS IS OF BULK AT MOST 1048576: true; the input reads as it did. -/
def levelPlainUptoRow : OpenClaim := { program := "ytaojjneajiobnaa", sum := "371929a36220f454c3ed62b1ec0ad667e88141785a61b1ba24191ad4c8acb302", func := "fascia/fascialaw19.LevelPlain", spec := "levelPlain", unfollowed := true, recurses := true, apart := false, narrowed := true }
def LevelPlainUptoSaid : Prop := levelPlainUptoRow.holds Try.pinned (OpenSpec.upto levelPlainSpec)

/-- 'fascialaw19.LevelIsolates', WHERE WHAT IT READS IS OF BULK AT MOST 1048576: true; the input reads as it did. -/
def levelIsolatesUptoRow : OpenClaim := { program := "ytaojjneajiobnaa", sum := "371929a36220f454c3ed62b1ec0ad667e88141785a61b1ba24191ad4c8acb302", func := "fascia/fascialaw19.LevelIsolates", spec := "levelIsolates", unfollowed := true, recurses := true, apart := false, narrowed := true }
def LevelIsolatesUptoSaid : Prop := levelIsolatesUptoRow.holds Try.pinned (OpenSpec.upto levelIsolatesSpec)

/-- 'fascialaw19.LevelDepth', WHERE WHAT IT READS IS OF BULK AT MOST 1048576: true; the input reads as it did. -/
def levelDepthUptoRow : OpenClaim := { program := "ytaojjneajiobnaa", sum := "371929a36220f454c3ed62b1ec0ad667e88141785a61b1ba24191ad4c8acb302", func := "fascia/fascialaw19.LevelDepth", spec := "levelDepth", unfollowed := true, recurses := true, apart := false, narrowed := true }
def LevelDepthUptoSaid : Prop := levelDepthUptoRow.holds Try.pinned (OpenSpec.upto levelDepthSpec)

/-- 'fascialaw20.RunsTell', WHERE WHAT IT READS IS OF BULK AT MOST 1048576: true; the input reads as it did. -/
def runsTellUptoRow : OpenClaim := { program := "ytaojjneajiobnaa", sum := "371929a36220f454c3ed62b1ec0ad667e88141785a61b1ba24191ad4c8acb302", func := "fascia/fascialaw20.RunsTell", spec := "runsTell", unfollowed := true, recurses := true, apart := false, narrowed := true }
def RunsTellUptoSaid : Prop := runsTellUptoRow.holds Try.pinned (OpenSpec.upto runsTellSpec)

/-- 'fascialaw20.RunsOnce', WHERE WHAT IT READS IS OF BULK AT MOST 1048576: true; the input reads as it did. -/
def runsOnceUptoRow : OpenClaim := { program := "ytaojjneajiobnaa", sum := "371929a36220f454c3ed62b1ec0ad667e88141785a61b1ba24191ad4c8acb302", func := "fascia/fascialaw20.RunsOnce", spec := "runsOnce", unfollowed := true, recurses := true, apart := false, narrowed := true }
def RunsOnceUptoSaid : Prop := runsOnceUptoRow.holds Try.pinned (OpenSpec.upto runsOnceSpec)

/-- 'fascialaw20.RunsPlain', WHERE WHAT IT READS IS OF BULK AT MOST 1048576: true; the input reads as it did. -/
def runsPlainUptoRow : OpenClaim := { program := "ytaojjneajiobnaa", sum := "371929a36220f454c3ed62b1ec0ad667e88141785a61b1ba24191ad4c8acb302", func := "fascia/fascialaw20.RunsPlain", spec := "runsPlain", unfollowed := true, recurses := true, apart := false, narrowed := true }
def RunsPlainUptoSaid : Prop := runsPlainUptoRow.holds Try.pinned (OpenSpec.upto runsPlainSpec)

/-- 'fascialaw20.RunsSides', WHERE WHAT IT READS IS OF BULK AT MOST 1048576: true; the input reads as it did. -/
def runsSidesUptoRow : OpenClaim := { program := "ytaojjneajiobnaa", sum := "371929a36220f454c3ed62b1ec0ad667e88141785a61b1ba24191ad4c8acb302", func := "fascia/fascialaw20.RunsSides", spec := "runsSides", unfollowed := true, recurses := true, apart := false, narrowed := true }
def RunsSidesUptoSaid : Prop := runsSidesUptoRow.holds Try.pinned (OpenSpec.upto runsSidesSpec)

end Rows
end Go.Proofs.Ytaojjneajiobnaa
