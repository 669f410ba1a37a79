/-
  No cell of these rows narrows 'for every input' (looked for: loops, veiled, ifaces, maps, wideKeys, modest, calm, conditions, laid).
  DERIVED. THE GIVEN ROWS OF THIS SEAT. 7 by the template 'for every input the law returns true; each argument reads behind the call as it read before'; 0 by the template 'total and deterministic' (their statements: YtaphhmefkfhepaaTotals.lean).
  GIVEN WITH THE SEED: the statements are not yours to turn. If you find one false, say at which input.
  Laid BY PROGRAM, IN A SANDBOX (cutbox-rows.mjs): the forced cells as the released guide's own fill.sh prints them over the translation 31180fefa05ac605… (all of the seat's roots in one cut). By AI agents, Wed Nov 11 2026. No macro, syntax, notation, axiom, sorry.
-/
import Derived.Test.YtaphhmefkfhepaaChecked
import GoSem.Claim
import GoSem.ClaimJoined
import GoSem.ClaimMapViews
import Derived.JoinedTies
import Derived.KernelRfl
namespace Go.Proofs.Ytaphhmefkfhepaa
/- THE CELL 'sum', in the pinned program and in every row, IS THE sha256 OF THE DUMP (.gsa) THAT YtaphhmefkfhepaaProg.lean LOADS. Nothing in Lean hashes anything: it is a label: what it is worth is what the hold of that sum in a sandbox is worth. -/
noncomputable def Try.pinned : Pinned := { name := "ytaphhmefkfhepaa", sum := "31180fefa05ac605ca8269456b02645c686fd41302b31e59fd9aaff02207c569", checked := Try.checked }
namespace Rows
def none {H : Type} : Left H := { results := [], args := [] }

/-- 'rotuletlaw05.RunsNext': WHATEVER THE INPUT: true; the input reads as it did. -/
def runsNextSpec : ChangeSpec := { name := "runsNext", fn := fun _ => fun
  | [d] => { results := [.lit (.bool true)], args := [d] }
  | _ => none }
def runsNextRow : OpenClaim := { program := "ytaphhmefkfhepaa", sum := "31180fefa05ac605ca8269456b02645c686fd41302b31e59fd9aaff02207c569", func := "rotulet/rotuletlaw05.RunsNext", spec := "runsNext", inPlace := ["slices.overlaps[rotulet/runs.Run]"], unfollowed := true, recurses := true, apart := false }
def RunsNextSaid : Prop := runsNextRow.holds Try.pinned (OpenSpec.ofChange runsNextSpec)

/-- ITS FALSE NEIGHBOUR: 'it returns false'. Refute it at one input. -/
def runsNextWrong : ChangeSpec := { name := "runsNext", fn := fun _ => fun
  | [d] => { results := [.lit (.bool false)], args := [d] }
  | _ => none }
def RunsNextWrongFalsely : Prop := runsNextRow.holds Try.pinned (OpenSpec.ofChange runsNextWrong)

/-- 'rotuletlaw05.RunsPlays': WHATEVER THE INPUT: true; the input reads as it did. -/
def runsPlaysSpec : ChangeSpec := { name := "runsPlays", fn := fun _ => fun
  | [d1, d2] => { results := [.lit (.bool true)], args := [d1, d2] }
  | _ => none }
def runsPlaysRow : OpenClaim := { program := "ytaphhmefkfhepaa", sum := "31180fefa05ac605ca8269456b02645c686fd41302b31e59fd9aaff02207c569", func := "rotulet/rotuletlaw05.RunsPlays", spec := "runsPlays", inPlace := ["slices.overlaps[rotulet/runs.Run]"], unfollowed := true, recurses := true, apart := false }
def RunsPlaysSaid : Prop := runsPlaysRow.holds Try.pinned (OpenSpec.ofChange runsPlaysSpec)

/-- ITS FALSE NEIGHBOUR: 'it returns false'. Refute it at one input. -/
def runsPlaysWrong : ChangeSpec := { name := "runsPlays", fn := fun _ => fun
  | [d1, d2] => { results := [.lit (.bool false)], args := [d1, d2] }
  | _ => none }
def RunsPlaysWrongFalsely : Prop := runsPlaysRow.holds Try.pinned (OpenSpec.ofChange runsPlaysWrong)

/-- 'rotuletlaw05.RunsNil': WHATEVER THE INPUT: true; the input reads as it did. -/
def runsNilSpec : ChangeSpec := { name := "runsNil", fn := fun _ => fun
  | [d] => { results := [.lit (.bool true)], args := [d] }
  | _ => none }
def runsNilRow : OpenClaim := { program := "ytaphhmefkfhepaa", sum := "31180fefa05ac605ca8269456b02645c686fd41302b31e59fd9aaff02207c569", func := "rotulet/rotuletlaw05.RunsNil", spec := "runsNil", inPlace := ["slices.overlaps[rotulet/runs.Run]"], unfollowed := true, recurses := true, apart := false }
def RunsNilSaid : Prop := runsNilRow.holds Try.pinned (OpenSpec.ofChange runsNilSpec)

/-- ITS FALSE NEIGHBOUR: 'it returns false'. Refute it at one input. -/
def runsNilWrong : ChangeSpec := { name := "runsNil", fn := fun _ => fun
  | [d] => { results := [.lit (.bool false)], args := [d] }
  | _ => none }
def RunsNilWrongFalsely : Prop := runsNilRow.holds Try.pinned (OpenSpec.ofChange runsNilWrong)

/-- 'rotuletlaw05.RunsFew': WHATEVER THE INPUT: true; the input reads as it did. -/
def runsFewSpec : ChangeSpec := { name := "runsFew", fn := fun _ => fun
  | [d1, d2] => { results := [.lit (.bool true)], args := [d1, d2] }
  | _ => none }
def runsFewRow : OpenClaim := { program := "ytaphhmefkfhepaa", sum := "31180fefa05ac605ca8269456b02645c686fd41302b31e59fd9aaff02207c569", func := "rotulet/rotuletlaw05.RunsFew", spec := "runsFew", inPlace := ["slices.overlaps[rotulet/runs.Run]"], unfollowed := true, recurses := true, apart := false }
def RunsFewSaid : Prop := runsFewRow.holds Try.pinned (OpenSpec.ofChange runsFewSpec)

/-- ITS FALSE NEIGHBOUR: 'it returns false'. Refute it at one input. -/
def runsFewWrong : ChangeSpec := { name := "runsFew", fn := fun _ => fun
  | [d1, d2] => { results := [.lit (.bool false)], args := [d1, d2] }
  | _ => none }
def RunsFewWrongFalsely : Prop := runsFewRow.holds Try.pinned (OpenSpec.ofChange runsFewWrong)

/-- 'rotuletlaw05.RunsCount': WHATEVER THE INPUT: true; the input reads as it did. -/
def runsCountSpec : ChangeSpec := { name := "runsCount", fn := fun _ => fun
  | [d1, d2, d3] => { results := [.lit (.bool true)], args := [d1, d2, d3] }
  | _ => none }
def runsCountRow : OpenClaim := { program := "ytaphhmefkfhepaa", sum := "31180fefa05ac605ca8269456b02645c686fd41302b31e59fd9aaff02207c569", func := "rotulet/rotuletlaw05.RunsCount", spec := "runsCount", inPlace := ["slices.overlaps[rotulet/runs.Run]"], unfollowed := true, recurses := true, apart := false }
def RunsCountSaid : Prop := runsCountRow.holds Try.pinned (OpenSpec.ofChange runsCountSpec)

/-- ITS FALSE NEIGHBOUR: 'it returns false'. Refute it at one input. -/
def runsCountWrong : ChangeSpec := { name := "runsCount", fn := fun _ => fun
  | [d1, d2, d3] => { results := [.lit (.bool false)], args := [d1, d2, d3] }
  | _ => none }
def RunsCountWrongFalsely : Prop := runsCountRow.holds Try.pinned (OpenSpec.ofChange runsCountWrong)

/-- 'rotuletlaw05.RunsMeets': WHATEVER THE INPUT: true; the input reads as it did. -/
def runsMeetsSpec : ChangeSpec := { name := "runsMeets", fn := fun _ => fun
  | [d1, d2, d3] => { results := [.lit (.bool true)], args := [d1, d2, d3] }
  | _ => none }
def runsMeetsRow : OpenClaim := { program := "ytaphhmefkfhepaa", sum := "31180fefa05ac605ca8269456b02645c686fd41302b31e59fd9aaff02207c569", func := "rotulet/rotuletlaw05.RunsMeets", spec := "runsMeets", inPlace := ["slices.overlaps[rotulet/runs.Run]"], unfollowed := true, recurses := true, apart := false }
def RunsMeetsSaid : Prop := runsMeetsRow.holds Try.pinned (OpenSpec.ofChange runsMeetsSpec)

/-- ITS FALSE NEIGHBOUR: 'it returns false'. Refute it at one input. -/
def runsMeetsWrong : ChangeSpec := { name := "runsMeets", fn := fun _ => fun
  | [d1, d2, d3] => { results := [.lit (.bool false)], args := [d1, d2, d3] }
  | _ => none }
def RunsMeetsWrongFalsely : Prop := runsMeetsRow.holds Try.pinned (OpenSpec.ofChange runsMeetsWrong)

/-- 'rotuletlaw05.RunsSets': WHATEVER THE INPUT: true; the input reads as it did. -/
def runsSetsSpec : ChangeSpec := { name := "runsSets", fn := fun _ => fun
  | [d1, d2] => { results := [.lit (.bool true)], args := [d1, d2] }
  | _ => none }
def runsSetsRow : OpenClaim := { program := "ytaphhmefkfhepaa", sum := "31180fefa05ac605ca8269456b02645c686fd41302b31e59fd9aaff02207c569", func := "rotulet/rotuletlaw05.RunsSets", spec := "runsSets", inPlace := ["slices.overlaps[rotulet/runs.Run]"], unfollowed := true, recurses := true, apart := false }
def RunsSetsSaid : Prop := runsSetsRow.holds Try.pinned (OpenSpec.ofChange runsSetsSpec)

/-- ITS FALSE NEIGHBOUR: 'it returns false'. Refute it at one input. -/
def runsSetsWrong : ChangeSpec := { name := "runsSets", fn := fun _ => fun
  | [d1, d2] => { results := [.lit (.bool false)], args := [d1, d2] }
  | _ => none }
def RunsSetsWrongFalsely : Prop := runsSetsRow.holds Try.pinned (OpenSpec.ofChange runsSetsWrong)

/- THE SECOND FORM. 'bulk': how many values and letters a reading holds, each counted each time it is reached (what is shared counts as often as it is met; a slice's spare places count too). A statement '..UptoSaid' is the law's where the arguments, and the package variables that the reading takes, are together of bulk at most 1048576: NARROWER than '..Said'. Prove '..Said' where nothing that the law and all that it calls make is longer than what came in: it says more and counts as full. Else prove '..UptoSaid'. A law counts once. -/
mutual
def uptoBulk {H : Type} : DataW H → Nat
  | .lit (.string bytes) => bytes.length + 1
  | .lit _ => 1
  | .nil => 1
  | .ptr d => uptoBulk d + 1
  | .slice elems spare => uptoBulkAll elems + uptoBulkAll spare + 1
  | .agg parts => uptoBulkAll parts + 1
  | .iface _ d => uptoBulk d + 1
  | .map entries => uptoBulkEntries entries + 1
  | .held _ => 1
def uptoBulkAll {H : Type} : List (DataW H) → Nat
  | [] => 0
  | d :: r => uptoBulk d + uptoBulkAll r
def uptoBulkEntries {H : Type} : List (Lit × DataW H) → Nat
  | [] => 0
  | x :: r => uptoBulkEntry x + uptoBulkEntries r
def uptoBulkEntry {H : Type} : Lit × DataW H → Nat
  | (.string bytes, d) => bytes.length + uptoBulk d + 1
  | (_, d) => uptoBulk d + 1
 end
def uptoSmall : (H : Type) → List (DataW H) → Bool := fun _ ds => decide (uptoBulkAll ds ≤ 1048576)
def OpenSpec.upto (s : _root_.Go.ChangeSpec) : _root_.Go.OpenSpec := { _root_.Go.OpenSpec.ofChange s with cond := some uptoSmall }

/-- 'rotuletlaw05.RunsNext', WHERE WHAT IT READS IS OF BULK AT MOST 1048576: true; the input reads as it did. -/
def runsNextUptoRow : OpenClaim := { program := "ytaphhmefkfhepaa", sum := "31180fefa05ac605ca8269456b02645c686fd41302b31e59fd9aaff02207c569", func := "rotulet/rotuletlaw05.RunsNext", spec := "runsNext", inPlace := ["slices.overlaps[rotulet/runs.Run]"], unfollowed := true, recurses := true, apart := false, narrowed := true }
def RunsNextUptoSaid : Prop := runsNextUptoRow.holds Try.pinned (OpenSpec.upto runsNextSpec)

/-- 'rotuletlaw05.RunsPlays', WHERE WHAT IT READS IS OF BULK AT MOST 1048576: true; the input reads as it did. -/
def runsPlaysUptoRow : OpenClaim := { program := "ytaphhmefkfhepaa", sum := "31180fefa05ac605ca8269456b02645c686fd41302b31e59fd9aaff02207c569", func := "rotulet/rotuletlaw05.RunsPlays", spec := "runsPlays", inPlace := ["slices.overlaps[rotulet/runs.Run]"], unfollowed := true, recurses := true, apart := false, narrowed := true }
def RunsPlaysUptoSaid : Prop := runsPlaysUptoRow.holds Try.pinned (OpenSpec.upto runsPlaysSpec)

/-- 'rotuletlaw05.RunsNil', WHERE WHAT IT READS IS OF BULK AT MOST 1048576: true; the input reads as it did. -/
def runsNilUptoRow : OpenClaim := { program := "ytaphhmefkfhepaa", sum := "31180fefa05ac605ca8269456b02645c686fd41302b31e59fd9aaff02207c569", func := "rotulet/rotuletlaw05.RunsNil", spec := "runsNil", inPlace := ["slices.overlaps[rotulet/runs.Run]"], unfollowed := true, recurses := true, apart := false, narrowed := true }
def RunsNilUptoSaid : Prop := runsNilUptoRow.holds Try.pinned (OpenSpec.upto runsNilSpec)

/-- 'rotuletlaw05.RunsFew', WHERE WHAT IT READS IS OF BULK AT MOST 1048576: true; the input reads as it did. -/
def runsFewUptoRow : OpenClaim := { program := "ytaphhmefkfhepaa", sum := "31180fefa05ac605ca8269456b02645c686fd41302b31e59fd9aaff02207c569", func := "rotulet/rotuletlaw05.RunsFew", spec := "runsFew", inPlace := ["slices.overlaps[rotulet/runs.Run]"], unfollowed := true, recurses := true, apart := false, narrowed := true }
def RunsFewUptoSaid : Prop := runsFewUptoRow.holds Try.pinned (OpenSpec.upto runsFewSpec)

/-- 'rotuletlaw05.RunsCount', WHERE WHAT IT READS IS OF BULK AT MOST 1048576: true; the input reads as it did. -/
def runsCountUptoRow : OpenClaim := { program := "ytaphhmefkfhepaa", sum := "31180fefa05ac605ca8269456b02645c686fd41302b31e59fd9aaff02207c569", func := "rotulet/rotuletlaw05.RunsCount", spec := "runsCount", inPlace := ["slices.overlaps[rotulet/runs.Run]"], unfollowed := true, recurses := true, apart := false, narrowed := true }
def RunsCountUptoSaid : Prop := runsCountUptoRow.holds Try.pinned (OpenSpec.upto runsCountSpec)

/-- 'rotuletlaw05.RunsMeets', WHERE WHAT IT READS IS OF BULK AT MOST 1048576: true; the input reads as it did. -/
def runsMeetsUptoRow : OpenClaim := { program := "ytaphhmefkfhepaa", sum := "31180fefa05ac605ca8269456b02645c686fd41302b31e59fd9aaff02207c569", func := "rotulet/rotuletlaw05.RunsMeets", spec := "runsMeets", inPlace := ["slices.overlaps[rotulet/runs.Run]"], unfollowed := true, recurses := true, apart := false, narrowed := true }
def RunsMeetsUptoSaid : Prop := runsMeetsUptoRow.holds Try.pinned (OpenSpec.upto runsMeetsSpec)

/-- 'rotuletlaw05.RunsSets', WHERE WHAT IT READS IS OF BULK AT MOST 1048576: true; the input reads as it did. -/
def runsSetsUptoRow : OpenClaim := { program := "ytaphhmefkfhepaa", sum := "31180fefa05ac605ca8269456b02645c686fd41302b31e59fd9aaff02207c569", func := "rotulet/rotuletlaw05.RunsSets", spec := "runsSets", inPlace := ["slices.overlaps[rotulet/runs.Run]"], unfollowed := true, recurses := true, apart := false, narrowed := true }
def RunsSetsUptoSaid : Prop := runsSetsUptoRow.holds Try.pinned (OpenSpec.upto runsSetsSpec)

end Rows
end Go.Proofs.Ytaphhmefkfhepaa
