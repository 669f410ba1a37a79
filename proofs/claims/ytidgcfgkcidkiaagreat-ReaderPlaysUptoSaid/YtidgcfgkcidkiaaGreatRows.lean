/-
  No cell of these rows narrows 'for every input' (looked for: loops, veiled, ifaces, maps, wideKeys, modest, calm, conditions, laid).
  DERIVED. THE GIVEN ROWS OF THIS SEAT. 3 by the template 'for every input the law returns true; each argument reads behind the call as it read before'; 0 by the template 'total and deterministic' (their statements: YtidgcfgkcidkiaaGreatTotals.lean).
  GIVEN WITH THE SEED: the statements are not yours to turn. If you find one false, say at which input.
  Laid BY PROGRAM, IN A SANDBOX (cutbox-rows.mjs): the forced cells as the released guide's own fill.sh prints them over the translation 23f21f7dc9d5a2fb… (all of the seat's roots in one cut). By AI agents, Wed Nov 11 2026. No macro, syntax, notation, axiom, sorry.
-/
import Derived.Test.YtidgcfgkcidkiaaGreatChecked
import GoSem.Claim
import GoSem.ClaimJoined
import GoSem.ClaimMapViews
import Derived.JoinedTies
import Derived.KernelRfl
namespace Go.Proofs.YtidgcfgkcidkiaaGreat
/- THE CELL 'sum', in the pinned program and in every row, IS THE sha256 OF THE DUMP (.gsa) THAT YtidgcfgkcidkiaaGreatProg.lean LOADS. Nothing in Lean hashes anything: it is a label: what it is worth is what the hold of that sum in a sandbox is worth. -/
noncomputable def Tryz.pinned : Pinned := { name := "ytidgcfgkcidkiaagreat", sum := "23f21f7dc9d5a2fbc5e85ec0404944b5aceef3a22839da069924ffcb005fa6dd", checked := Tryz.checked }
namespace Rows
def none {H : Type} : Left H := { results := [], args := [] }

/-- 'rotuletlaw16.ChainPlays': WHATEVER THE INPUT: true; the input reads as it did. -/
def chainPlaysSpec : ChangeSpec := { name := "chainPlays", fn := fun _ => fun
  | [d1, d2] => { results := [.lit (.bool true)], args := [d1, d2] }
  | _ => none }
def chainPlaysRow : OpenClaim := { program := "ytidgcfgkcidkiaagreat", sum := "23f21f7dc9d5a2fbc5e85ec0404944b5aceef3a22839da069924ffcb005fa6dd", func := "rotulet/rotuletlaw16.ChainPlays", spec := "chainPlays", unfollowed := true, recurses := true, apart := false }
def ChainPlaysSaid : Prop := chainPlaysRow.holds Tryz.pinned (OpenSpec.ofChange chainPlaysSpec)

/-- ITS FALSE NEIGHBOUR: 'it returns false'. Refute it at one input. -/
def chainPlaysWrong : ChangeSpec := { name := "chainPlays", fn := fun _ => fun
  | [d1, d2] => { results := [.lit (.bool false)], args := [d1, d2] }
  | _ => none }
def ChainPlaysWrongFalsely : Prop := chainPlaysRow.holds Tryz.pinned (OpenSpec.ofChange chainPlaysWrong)

/-- 'rotuletlaw18.AppenderTags': WHATEVER THE INPUT: true; the input reads as it did. -/
def appenderTagsSpec : ChangeSpec := { name := "appenderTags", fn := fun _ => fun
  | [d] => { results := [.lit (.bool true)], args := [d] }
  | _ => none }
def appenderTagsRow : OpenClaim := { program := "ytidgcfgkcidkiaagreat", sum := "23f21f7dc9d5a2fbc5e85ec0404944b5aceef3a22839da069924ffcb005fa6dd", func := "rotulet/rotuletlaw18.AppenderTags", spec := "appenderTags", unfollowed := true, recurses := true, apart := false }
def AppenderTagsSaid : Prop := appenderTagsRow.holds Tryz.pinned (OpenSpec.ofChange appenderTagsSpec)

/-- ITS FALSE NEIGHBOUR: 'it returns false'. Refute it at one input. -/
def appenderTagsWrong : ChangeSpec := { name := "appenderTags", fn := fun _ => fun
  | [d] => { results := [.lit (.bool false)], args := [d] }
  | _ => none }
def AppenderTagsWrongFalsely : Prop := appenderTagsRow.holds Tryz.pinned (OpenSpec.ofChange appenderTagsWrong)

/-- 'rotuletlaw17.ReaderPlays': WHATEVER THE INPUT: true; the input reads as it did. -/
def readerPlaysSpec : ChangeSpec := { name := "readerPlays", fn := fun _ => fun
  | [d1, d2] => { results := [.lit (.bool true)], args := [d1, d2] }
  | _ => none }
def readerPlaysRow : OpenClaim := { program := "ytidgcfgkcidkiaagreat", sum := "23f21f7dc9d5a2fbc5e85ec0404944b5aceef3a22839da069924ffcb005fa6dd", func := "rotulet/rotuletlaw17.ReaderPlays", spec := "readerPlays", unfollowed := true, recurses := true, apart := false }
def ReaderPlaysSaid : Prop := readerPlaysRow.holds Tryz.pinned (OpenSpec.ofChange readerPlaysSpec)

/-- ITS FALSE NEIGHBOUR: 'it returns false'. Refute it at one input. -/
def readerPlaysWrong : ChangeSpec := { name := "readerPlays", fn := fun _ => fun
  | [d1, d2] => { results := [.lit (.bool false)], args := [d1, d2] }
  | _ => none }
def ReaderPlaysWrongFalsely : Prop := readerPlaysRow.holds Tryz.pinned (OpenSpec.ofChange readerPlaysWrong)

/- THE SECOND FORM. 'bulk': how many values and letters a reading holds, each counted each time it is reached (what is shared counts as often as it is met; a slice's spare places count too). A statement '..UptoSaid' is the law's where the arguments, and the package variables that the reading takes, are together of bulk at most 1048576: NARROWER than '..Said'. Prove '..Said' where nothing that the law and all that it calls make is longer than what came in: it says more and counts as full. Else prove '..UptoSaid'. A law counts once. -/
mutual
def uptoBulk {H : Type} : DataW H → Nat
  | .lit (.string bytes) => bytes.length + 1
  | .lit _ => 1
  | .nil => 1
  | .ptr d => uptoBulk d + 1
  | .slice elems spare => uptoBulkAll elems + uptoBulkAll spare + 1
  | .agg parts => uptoBulkAll parts + 1
  | .iface _ d => uptoBulk d + 1
  | .map entries => uptoBulkEntries entries + 1
  | .held _ => 1
def uptoBulkAll {H : Type} : List (DataW H) → Nat
  | [] => 0
  | d :: r => uptoBulk d + uptoBulkAll r
def uptoBulkEntries {H : Type} : List (Lit × DataW H) → Nat
  | [] => 0
  | x :: r => uptoBulkEntry x + uptoBulkEntries r
def uptoBulkEntry {H : Type} : Lit × DataW H → Nat
  | (.string bytes, d) => bytes.length + uptoBulk d + 1
  | (_, d) => uptoBulk d + 1
 end
def uptoSmall : (H : Type) → List (DataW H) → Bool := fun _ ds => decide (uptoBulkAll ds ≤ 1048576)
def OpenSpec.upto (s : _root_.Go.ChangeSpec) : _root_.Go.OpenSpec := { _root_.Go.OpenSpec.ofChange s with cond := some uptoSmall }

/-- 'rotuletlaw16.ChainPlays', WHERE WHAT IT READS IS OF BULK AT MOST 1048576: true; the input reads as it did. -/
def chainPlaysUptoRow : OpenClaim := { program := "ytidgcfgkcidkiaagreat", sum := "23f21f7dc9d5a2fbc5e85ec0404944b5aceef3a22839da069924ffcb005fa6dd", func := "rotulet/rotuletlaw16.ChainPlays", spec := "chainPlays", unfollowed := true, recurses := true, apart := false, narrowed := true }
def ChainPlaysUptoSaid : Prop := chainPlaysUptoRow.holds Tryz.pinned (OpenSpec.upto chainPlaysSpec)

/-- 'rotuletlaw18.AppenderTags', WHERE WHAT IT READS IS OF BULK AT MOST 1048576: true; the input reads as it did. -/
def appenderTagsUptoRow : OpenClaim := { program := "ytidgcfgkcidkiaagreat", sum := "23f21f7dc9d5a2fbc5e85ec0404944b5aceef3a22839da069924ffcb005fa6dd", func := "rotulet/rotuletlaw18.AppenderTags", spec := "appenderTags", unfollowed := true, recurses := true, apart := false, narrowed := true }
def AppenderTagsUptoSaid : Prop := appenderTagsUptoRow.holds Tryz.pinned (OpenSpec.upto appenderTagsSpec)

/-- 'rotuletlaw17.ReaderPlays', WHERE WHAT IT READS IS OF BULK AT MOST 1048576: true; the input reads as it did. -/
def readerPlaysUptoRow : OpenClaim := { program := "ytidgcfgkcidkiaagreat", sum := "23f21f7dc9d5a2fbc5e85ec0404944b5aceef3a22839da069924ffcb005fa6dd", func := "rotulet/rotuletlaw17.ReaderPlays", spec := "readerPlays", unfollowed := true, recurses := true, apart := false, narrowed := true }
def ReaderPlaysUptoSaid : Prop := readerPlaysUptoRow.holds Tryz.pinned (OpenSpec.upto readerPlaysSpec)

end Rows
end Go.Proofs.YtidgcfgkcidkiaaGreat
