/-
  No cell of these rows narrows 'for every input' (looked for: loops, veiled, ifaces, maps, wideKeys, modest, calm, conditions, laid).
  DERIVED. THE GIVEN ROWS OF THIS SEAT. 10 by the template 'for every input the law returns true; each argument reads behind the call as it read before'; 0 by the template 'total and deterministic' (their statements: YtmbjdchknjollaaTotals.lean).
  GIVEN WITH THE SEED: the statements are not yours to turn. If you find one false, say at which input.
  Laid BY PROGRAM, IN A SANDBOX (cutbox-rows.mjs): the forced cells as the released guide's own fill.sh prints them over the translation cd3d54e6dd1e292f… (all of the seat's roots in one cut). By AI agents, Wed Nov 11 2026. No macro, syntax, notation, axiom, sorry.
-/
import Derived.Test.YtmbjdchknjollaaChecked
import GoSem.Claim
import GoSem.ClaimJoined
import GoSem.ClaimMapViews
import Derived.JoinedTies
import Derived.KernelRfl
namespace Go.Proofs.Ytmbjdchknjollaa
/- THE CELL 'sum', in the pinned program and in every row, IS THE sha256 OF THE DUMP (.gsa) THAT YtmbjdchknjollaaProg.lean LOADS. Nothing in Lean hashes anything: it is a label: what it is worth is what the hold of that sum in a sandbox is worth. -/
noncomputable def Try.pinned : Pinned := { name := "ytmbjdchknjollaa", sum := "cd3d54e6dd1e292f02ee87bda188b93c179abc73b4c1fdba37f3f2e70e30ed18", checked := Try.checked }
namespace Rows
def none {H : Type} : Left H := { results := [], args := [] }

/-- 'fascialaw23.PlainTells': WHATEVER THE INPUT: true; the input reads as it did. -/
def plainTellsSpec : ChangeSpec := { name := "plainTells", fn := fun _ => fun
  | [d1, d2, d3, d4, d5] => { results := [.lit (.bool true)], args := [d1, d2, d3, d4, d5] }
  | _ => none }
def plainTellsRow : OpenClaim := { program := "ytmbjdchknjollaa", sum := "cd3d54e6dd1e292f02ee87bda188b93c179abc73b4c1fdba37f3f2e70e30ed18", func := "fascia/fascialaw23.PlainTells", spec := "plainTells", unfollowed := true, recurses := true, apart := false }
def PlainTellsSaid : Prop := plainTellsRow.holds Try.pinned (OpenSpec.ofChange plainTellsSpec)

/-- ITS FALSE NEIGHBOUR: 'it returns false'. Refute it at one input. -/
def plainTellsWrong : ChangeSpec := { name := "plainTells", fn := fun _ => fun
  | [d1, d2, d3, d4, d5] => { results := [.lit (.bool false)], args := [d1, d2, d3, d4, d5] }
  | _ => none }
def PlainTellsWrongFalsely : Prop := plainTellsRow.holds Try.pinned (OpenSpec.ofChange plainTellsWrong)

/-- 'fascialaw23.PlainNone': WHATEVER THE INPUT: true; the input reads as it did. -/
def plainNoneSpec : ChangeSpec := { name := "plainNone", fn := fun _ => fun
  | [d1, d2, d3, d4] => { results := [.lit (.bool true)], args := [d1, d2, d3, d4] }
  | _ => none }
def plainNoneRow : OpenClaim := { program := "ytmbjdchknjollaa", sum := "cd3d54e6dd1e292f02ee87bda188b93c179abc73b4c1fdba37f3f2e70e30ed18", func := "fascia/fascialaw23.PlainNone", spec := "plainNone", unfollowed := true, recurses := true, apart := false }
def PlainNoneSaid : Prop := plainNoneRow.holds Try.pinned (OpenSpec.ofChange plainNoneSpec)

/-- ITS FALSE NEIGHBOUR: 'it returns false'. Refute it at one input. -/
def plainNoneWrong : ChangeSpec := { name := "plainNone", fn := fun _ => fun
  | [d1, d2, d3, d4] => { results := [.lit (.bool false)], args := [d1, d2, d3, d4] }
  | _ => none }
def PlainNoneWrongFalsely : Prop := plainNoneRow.holds Try.pinned (OpenSpec.ofChange plainNoneWrong)

/-- 'fascialaw23.PlainBoth': WHATEVER THE INPUT: true; the input reads as it did. -/
def plainBothSpec : ChangeSpec := { name := "plainBoth", fn := fun _ => fun
  | [d1, d2, d3, d4] => { results := [.lit (.bool true)], args := [d1, d2, d3, d4] }
  | _ => none }
def plainBothRow : OpenClaim := { program := "ytmbjdchknjollaa", sum := "cd3d54e6dd1e292f02ee87bda188b93c179abc73b4c1fdba37f3f2e70e30ed18", func := "fascia/fascialaw23.PlainBoth", spec := "plainBoth", unfollowed := true, recurses := true, apart := false }
def PlainBothSaid : Prop := plainBothRow.holds Try.pinned (OpenSpec.ofChange plainBothSpec)

/-- ITS FALSE NEIGHBOUR: 'it returns false'. Refute it at one input. -/
def plainBothWrong : ChangeSpec := { name := "plainBoth", fn := fun _ => fun
  | [d1, d2, d3, d4] => { results := [.lit (.bool false)], args := [d1, d2, d3, d4] }
  | _ => none }
def PlainBothWrongFalsely : Prop := plainBothRow.holds Try.pinned (OpenSpec.ofChange plainBothWrong)

/-- 'fascialaw23.PlainLevels': WHATEVER THE INPUT: true; the input reads as it did. -/
def plainLevelsSpec : ChangeSpec := { name := "plainLevels", fn := fun _ => fun
  | [d1, d2] => { results := [.lit (.bool true)], args := [d1, d2] }
  | _ => none }
def plainLevelsRow : OpenClaim := { program := "ytmbjdchknjollaa", sum := "cd3d54e6dd1e292f02ee87bda188b93c179abc73b4c1fdba37f3f2e70e30ed18", func := "fascia/fascialaw23.PlainLevels", spec := "plainLevels", unfollowed := true, recurses := true, apart := false }
def PlainLevelsSaid : Prop := plainLevelsRow.holds Try.pinned (OpenSpec.ofChange plainLevelsSpec)

/-- ITS FALSE NEIGHBOUR: 'it returns false'. Refute it at one input. -/
def plainLevelsWrong : ChangeSpec := { name := "plainLevels", fn := fun _ => fun
  | [d1, d2] => { results := [.lit (.bool false)], args := [d1, d2] }
  | _ => none }
def PlainLevelsWrongFalsely : Prop := plainLevelsRow.holds Try.pinned (OpenSpec.ofChange plainLevelsWrong)

/-- 'fascialaw23.PlainKinds': WHATEVER THE INPUT: true; the input reads as it did. -/
def plainKindsSpec : ChangeSpec := { name := "plainKinds", fn := fun _ => fun
  | [d] => { results := [.lit (.bool true)], args := [d] }
  | _ => none }
def plainKindsRow : OpenClaim := { program := "ytmbjdchknjollaa", sum := "cd3d54e6dd1e292f02ee87bda188b93c179abc73b4c1fdba37f3f2e70e30ed18", func := "fascia/fascialaw23.PlainKinds", spec := "plainKinds", unfollowed := true, recurses := true, apart := false }
def PlainKindsSaid : Prop := plainKindsRow.holds Try.pinned (OpenSpec.ofChange plainKindsSpec)

/-- ITS FALSE NEIGHBOUR: 'it returns false'. Refute it at one input. -/
def plainKindsWrong : ChangeSpec := { name := "plainKinds", fn := fun _ => fun
  | [d] => { results := [.lit (.bool false)], args := [d] }
  | _ => none }
def PlainKindsWrongFalsely : Prop := plainKindsRow.holds Try.pinned (OpenSpec.ofChange plainKindsWrong)

/-- 'fascialaw21.WeakTells': WHATEVER THE INPUT: true; the input reads as it did. -/
def weakTellsSpec : ChangeSpec := { name := "weakTells", fn := fun _ => fun
  | [d1, d2] => { results := [.lit (.bool true)], args := [d1, d2] }
  | _ => none }
def weakTellsRow : OpenClaim := { program := "ytmbjdchknjollaa", sum := "cd3d54e6dd1e292f02ee87bda188b93c179abc73b4c1fdba37f3f2e70e30ed18", func := "fascia/fascialaw21.WeakTells", spec := "weakTells", unfollowed := true, recurses := true, apart := false }
def WeakTellsSaid : Prop := weakTellsRow.holds Try.pinned (OpenSpec.ofChange weakTellsSpec)

/-- ITS FALSE NEIGHBOUR: 'it returns false'. Refute it at one input. -/
def weakTellsWrong : ChangeSpec := { name := "weakTells", fn := fun _ => fun
  | [d1, d2] => { results := [.lit (.bool false)], args := [d1, d2] }
  | _ => none }
def WeakTellsWrongFalsely : Prop := weakTellsRow.holds Try.pinned (OpenSpec.ofChange weakTellsWrong)

/-- 'fascialaw21.WeakKinds': WHATEVER THE INPUT: true; the input reads as it did. -/
def weakKindsSpec : ChangeSpec := { name := "weakKinds", fn := fun _ => fun
  | [d1, d2] => { results := [.lit (.bool true)], args := [d1, d2] }
  | _ => none }
def weakKindsRow : OpenClaim := { program := "ytmbjdchknjollaa", sum := "cd3d54e6dd1e292f02ee87bda188b93c179abc73b4c1fdba37f3f2e70e30ed18", func := "fascia/fascialaw21.WeakKinds", spec := "weakKinds", unfollowed := true, recurses := true, apart := false }
def WeakKindsSaid : Prop := weakKindsRow.holds Try.pinned (OpenSpec.ofChange weakKindsSpec)

/-- ITS FALSE NEIGHBOUR: 'it returns false'. Refute it at one input. -/
def weakKindsWrong : ChangeSpec := { name := "weakKinds", fn := fun _ => fun
  | [d1, d2] => { results := [.lit (.bool false)], args := [d1, d2] }
  | _ => none }
def WeakKindsWrongFalsely : Prop := weakKindsRow.holds Try.pinned (OpenSpec.ofChange weakKindsWrong)

/-- 'fascialaw21.WeakCuts': WHATEVER THE INPUT: true; the input reads as it did. -/
def weakCutsSpec : ChangeSpec := { name := "weakCuts", fn := fun _ => fun
  | [d1, d2, d3, d4] => { results := [.lit (.bool true)], args := [d1, d2, d3, d4] }
  | _ => none }
def weakCutsRow : OpenClaim := { program := "ytmbjdchknjollaa", sum := "cd3d54e6dd1e292f02ee87bda188b93c179abc73b4c1fdba37f3f2e70e30ed18", func := "fascia/fascialaw21.WeakCuts", spec := "weakCuts", unfollowed := true, recurses := true, apart := false }
def WeakCutsSaid : Prop := weakCutsRow.holds Try.pinned (OpenSpec.ofChange weakCutsSpec)

/-- ITS FALSE NEIGHBOUR: 'it returns false'. Refute it at one input. -/
def weakCutsWrong : ChangeSpec := { name := "weakCuts", fn := fun _ => fun
  | [d1, d2, d3, d4] => { results := [.lit (.bool false)], args := [d1, d2, d3, d4] }
  | _ => none }
def WeakCutsWrongFalsely : Prop := weakCutsRow.holds Try.pinned (OpenSpec.ofChange weakCutsWrong)

/-- 'fascialaw21.WeakNumbers': WHATEVER THE INPUT: true; the input reads as it did. -/
def weakNumbersSpec : ChangeSpec := { name := "weakNumbers", fn := fun _ => fun
  | [d1, d2] => { results := [.lit (.bool true)], args := [d1, d2] }
  | _ => none }
def weakNumbersRow : OpenClaim := { program := "ytmbjdchknjollaa", sum := "cd3d54e6dd1e292f02ee87bda188b93c179abc73b4c1fdba37f3f2e70e30ed18", func := "fascia/fascialaw21.WeakNumbers", spec := "weakNumbers", unfollowed := true, recurses := true, apart := false }
def WeakNumbersSaid : Prop := weakNumbersRow.holds Try.pinned (OpenSpec.ofChange weakNumbersSpec)

/-- ITS FALSE NEIGHBOUR: 'it returns false'. Refute it at one input. -/
def weakNumbersWrong : ChangeSpec := { name := "weakNumbers", fn := fun _ => fun
  | [d1, d2] => { results := [.lit (.bool false)], args := [d1, d2] }
  | _ => none }
def WeakNumbersWrongFalsely : Prop := weakNumbersRow.holds Try.pinned (OpenSpec.ofChange weakNumbersWrong)

/-- 'fascialaw21.WeakMarks': WHATEVER THE INPUT: true; the input reads as it did. -/
def weakMarksSpec : ChangeSpec := { name := "weakMarks", fn := fun _ => fun
  | [d1, d2, d3, d4] => { results := [.lit (.bool true)], args := [d1, d2, d3, d4] }
  | _ => none }
def weakMarksRow : OpenClaim := { program := "ytmbjdchknjollaa", sum := "cd3d54e6dd1e292f02ee87bda188b93c179abc73b4c1fdba37f3f2e70e30ed18", func := "fascia/fascialaw21.WeakMarks", spec := "weakMarks", unfollowed := true, recurses := true, apart := false }
def WeakMarksSaid : Prop := weakMarksRow.holds Try.pinned (OpenSpec.ofChange weakMarksSpec)

/-- ITS FALSE NEIGHBOUR: 'it returns false'. Refute it at one input. -/
def weakMarksWrong : ChangeSpec := { name := "weakMarks", fn := fun _ => fun
  | [d1, d2, d3, d4] => { results := [.lit (.bool false)], args := [d1, d2, d3, d4] }
  | _ => none }
def WeakMarksWrongFalsely : Prop := weakMarksRow.holds Try.pinned (OpenSpec.ofChange weakMarksWrong)

/- THE SECOND FORM. 'bulk': how many values and letters a reading holds, each counted each time it is reached (what is shared counts as often as it is met; a slice's spare places count too). A statement '..UptoSaid' is the law's where the arguments, and the package variables that the reading takes, are together of bulk at most 1048576: NARROWER than '..Said'. Prove '..Said' where nothing that the law and all that it calls make is longer than what came in: it says more and counts as full. Else prove '..UptoSaid'. A law counts once. -/
mutual
def uptoBulk {H : Type} : DataW H → Nat
  | .lit (.string bytes) => bytes.length + 1
  | .lit _ => 1
  | .nil => 1
  | .ptr d => uptoBulk d + 1
  | .slice elems spare => uptoBulkAll elems + uptoBulkAll spare + 1
  | .agg parts => uptoBulkAll parts + 1
  | .iface _ d => uptoBulk d + 1
  | .map entries => uptoBulkEntries entries + 1
  | .held _ => 1
def uptoBulkAll {H : Type} : List (DataW H) → Nat
  | [] => 0
  | d :: r => uptoBulk d + uptoBulkAll r
def uptoBulkEntries {H : Type} : List (Lit × DataW H) → Nat
  | [] => 0
  | x :: r => uptoBulkEntry x + uptoBulkEntries r
def uptoBulkEntry {H : Type} : Lit × DataW H → Nat
  | (.string bytes, d) => bytes.length + uptoBulk d + 1
  | (_, d) => uptoBulk d + 1
 end
def uptoSmall : (H : Type) → List (DataW H) → Bool := fun _ ds => decide (uptoBulkAll ds ≤ 1048576)
def OpenSpec.upto (s : _root_.Go.ChangeSpec) : _root_.Go.OpenSpec := { _root_.Go.OpenSpec.ofChange s with cond := some uptoSmall }

/-- 'fascialaw23.PlainTells', WHERE WHAT IT READS IS OF BULK AT MOST 1048576: true; the input reads as it did. -/
def plainTellsUptoRow : OpenClaim := { program := "ytmbjdchknjollaa", sum := "cd3d54e6dd1e292f02ee87bda188b93c179abc73b4c1fdba37f3f2e70e30ed18", func := "fascia/fascialaw23.PlainTells", spec := "plainTells", unfollowed := true, recurses := true, apart := false, narrowed := true }
def PlainTellsUptoSaid : Prop := plainTellsUptoRow.holds Try.pinned (OpenSpec.upto plainTellsSpec)

/-- 'fascialaw23.PlainNone', WHERE WHAT IT READS IS OF BULK AT MOST 1048576: true; the input reads as it did. -/
def plainNoneUptoRow : OpenClaim := { program := "ytmbjdchknjollaa", sum := "cd3d54e6dd1e292f02ee87bda188b93c179abc73b4c1fdba37f3f2e70e30ed18", func := "fascia/fascialaw23.PlainNone", spec := "plainNone", unfollowed := true, recurses := true, apart := false, narrowed := true }
def PlainNoneUptoSaid : Prop := plainNoneUptoRow.holds Try.pinned (OpenSpec.upto plainNoneSpec)

/-- 'fascialaw23.PlainBoth', WHERE WHAT IT READS IS OF BULK AT MOST 1048576: true; the input reads as it did. -/
def plainBothUptoRow : OpenClaim := { program := "ytmbjdchknjollaa", sum := "cd3d54e6dd1e292f02ee87bda188b93c179abc73b4c1fdba37f3f2e70e30ed18", func := "fascia/fascialaw23.PlainBoth", spec := "plainBoth", unfollowed := true, recurses := true, apart := false, narrowed := true }
def PlainBothUptoSaid : Prop := plainBothUptoRow.holds Try.pinned (OpenSpec.upto plainBothSpec)

/-- 'fascialaw23.PlainLevels', WHERE WHAT IT READS IS OF BULK AT MOST 1048576: true; the input reads as it did. -/
def plainLevelsUptoRow : OpenClaim := { program := "ytmbjdchknjollaa", sum := "cd3d54e6dd1e292f02ee87bda188b93c179abc73b4c1fdba37f3f2e70e30ed18", func := "fascia/fascialaw23.PlainLevels", spec := "plainLevels", unfollowed := true, recurses := true, apart := false, narrowed := true }
def PlainLevelsUptoSaid : Prop := plainLevelsUptoRow.holds Try.pinned (OpenSpec.upto plainLevelsSpec)

/-- 'fascialaw23.PlainKinds', WHERE WHAT IT READS IS OF BULK AT MOST 1048576: true; the input reads as it did. -/
def plainKindsUptoRow : OpenClaim := { program := "ytmbjdchknjollaa", sum := "cd3d54e6dd1e292f02ee87bda188b93c179abc73b4c1fdba37f3f2e70e30ed18", func := "fascia/fascialaw23.PlainKinds", spec := "plainKinds", unfollowed := true, recurses := true, apart := false, narrowed := true }
def PlainKindsUptoSaid : Prop := plainKindsUptoRow.holds Try.pinned (OpenSpec.upto plainKindsSpec)

/-- 'fascialaw21.WeakTells', WHERE WHAT IT READS IS OF BULK AT MOST 1048576: true; the input reads as it did. -/
def weakTellsUptoRow : OpenClaim := { program := "ytmbjdchknjollaa", sum := "cd3d54e6dd1e292f02ee87bda188b93c179abc73b4c1fdba37f3f2e70e30ed18", func := "fascia/fascialaw21.WeakTells", spec := "weakTells", unfollowed := true, recurses := true, apart := false, narrowed := true }
def WeakTellsUptoSaid : Prop := weakTellsUptoRow.holds Try.pinned (OpenSpec.upto weakTellsSpec)

/-- 'fascialaw21.WeakKinds', WHERE WHAT IT READS IS OF BULK AT MOST 1048576: true; the input reads as it did. -/
def weakKindsUptoRow : OpenClaim := { program := "ytmbjdchknjollaa", sum := "cd3d54e6dd1e292f02ee87bda188b93c179abc73b4c1fdba37f3f2e70e30ed18", func := "fascia/fascialaw21.WeakKinds", spec := "weakKinds", unfollowed := true, recurses := true, apart := false, narrowed := true }
def WeakKindsUptoSaid : Prop := weakKindsUptoRow.holds Try.pinned (OpenSpec.upto weakKindsSpec)

/-- 'fascialaw21.WeakCuts', WHERE WHAT IT READS IS OF BULK AT MOST 1048576: true; the input reads as it did. -/
def weakCutsUptoRow : OpenClaim := { program := "ytmbjdchknjollaa", sum := "cd3d54e6dd1e292f02ee87bda188b93c179abc73b4c1fdba37f3f2e70e30ed18", func := "fascia/fascialaw21.WeakCuts", spec := "weakCuts", unfollowed := true, recurses := true, apart := false, narrowed := true }
def WeakCutsUptoSaid : Prop := weakCutsUptoRow.holds Try.pinned (OpenSpec.upto weakCutsSpec)

/-- 'fascialaw21.WeakNumbers', WHERE WHAT IT READS IS OF BULK AT MOST 1048576: true; the input reads as it did. -/
def weakNumbersUptoRow : OpenClaim := { program := "ytmbjdchknjollaa", sum := "cd3d54e6dd1e292f02ee87bda188b93c179abc73b4c1fdba37f3f2e70e30ed18", func := "fascia/fascialaw21.WeakNumbers", spec := "weakNumbers", unfollowed := true, recurses := true, apart := false, narrowed := true }
def WeakNumbersUptoSaid : Prop := weakNumbersUptoRow.holds Try.pinned (OpenSpec.upto weakNumbersSpec)

/-- 'fascialaw21.WeakMarks', WHERE WHAT IT READS IS OF BULK AT MOST 1048576: true; the input reads as it did. -/
def weakMarksUptoRow : OpenClaim := { program := "ytmbjdchknjollaa", sum := "cd3d54e6dd1e292f02ee87bda188b93c179abc73b4c1fdba37f3f2e70e30ed18", func := "fascia/fascialaw21.WeakMarks", spec := "weakMarks", unfollowed := true, recurses := true, apart := false, narrowed := true }
def WeakMarksUptoSaid : Prop := weakMarksUptoRow.holds Try.pinned (OpenSpec.upto weakMarksSpec)

end Rows
end Go.Proofs.Ytmbjdchknjollaa
