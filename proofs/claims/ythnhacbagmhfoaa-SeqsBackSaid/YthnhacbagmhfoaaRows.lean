/-
  No cell of these rows narrows 'for every input' (looked for: loops, veiled, ifaces, maps, wideKeys, modest, calm, conditions, laid).
  DERIVED. THE GIVEN ROWS OF THIS SEAT. 12 by the template 'for every input the law returns true; each argument reads behind the call as it read before'; 0 by the template 'total and deterministic' (their statements: YthnhacbagmhfoaaTotals.lean).
  GIVEN WITH THE SEED: the statements are not yours to turn. If you find one false, say at which input.
  Laid BY PROGRAM, IN A SANDBOX (cutbox-rows.mjs): the forced cells as the released guide's own fill.sh prints them over the translation 8d108a53375c7db7… (all of the seat's roots in one cut). By AI agents, Wed Nov 11 2026. No macro, syntax, notation, axiom, sorry.
-/
import Derived.Test.YthnhacbagmhfoaaChecked
import GoSem.Claim
import GoSem.ClaimJoined
import GoSem.ClaimMapViews
import Derived.JoinedTies
import Derived.KernelRfl
namespace Go.Proofs.Ythnhacbagmhfoaa
/- THE CELL 'sum', in the pinned program and in every row, IS THE sha256 OF THE DUMP (.gsa) THAT YthnhacbagmhfoaaProg.lean LOADS. Nothing in Lean hashes anything: it is a label: what it is worth is what the hold of that sum in a sandbox is worth. -/
noncomputable def Try.pinned : Pinned := { name := "ythnhacbagmhfoaa", sum := "8d108a53375c7db77d5b1be93548b0563f3735d77af18faf1cfa8a2f1831b7e7", checked := Try.checked }
namespace Rows
def none {H : Type} : Left H := { results := [], args := [] }

/-- 'manglelaw6.SeqsCodes': WHATEVER THE INPUT: true; the input reads as it did. -/
def seqsCodesSpec : ChangeSpec := { name := "seqsCodes", fn := fun _ => fun
  | [d] => { results := [.lit (.bool true)], args := [d] }
  | _ => none }
def seqsCodesRow : OpenClaim := { program := "ythnhacbagmhfoaa", sum := "8d108a53375c7db77d5b1be93548b0563f3735d77af18faf1cfa8a2f1831b7e7", func := "mangle/manglelaw6.SeqsCodes", spec := "seqsCodes", apart := false }
def SeqsCodesSaid : Prop := seqsCodesRow.holds Try.pinned (OpenSpec.ofChange seqsCodesSpec)

/-- ITS FALSE NEIGHBOUR: 'it returns false'. Refute it at one input. -/
def seqsCodesWrong : ChangeSpec := { name := "seqsCodes", fn := fun _ => fun
  | [d] => { results := [.lit (.bool false)], args := [d] }
  | _ => none }
def SeqsCodesWrongFalsely : Prop := seqsCodesRow.holds Try.pinned (OpenSpec.ofChange seqsCodesWrong)

/-- 'manglelaw6.SeqsParsed': WHATEVER THE INPUT: true; the input reads as it did. -/
def seqsParsedSpec : ChangeSpec := { name := "seqsParsed", fn := fun _ => fun
  | [d1, d2] => { results := [.lit (.bool true)], args := [d1, d2] }
  | _ => none }
def seqsParsedRow : OpenClaim := { program := "ythnhacbagmhfoaa", sum := "8d108a53375c7db77d5b1be93548b0563f3735d77af18faf1cfa8a2f1831b7e7", func := "mangle/manglelaw6.SeqsParsed", spec := "seqsParsed", unfollowed := true, recurses := true, apart := false }
def SeqsParsedSaid : Prop := seqsParsedRow.holds Try.pinned (OpenSpec.ofChange seqsParsedSpec)

/-- ITS FALSE NEIGHBOUR: 'it returns false'. Refute it at one input. -/
def seqsParsedWrong : ChangeSpec := { name := "seqsParsed", fn := fun _ => fun
  | [d1, d2] => { results := [.lit (.bool false)], args := [d1, d2] }
  | _ => none }
def SeqsParsedWrongFalsely : Prop := seqsParsedRow.holds Try.pinned (OpenSpec.ofChange seqsParsedWrong)

/-- 'manglelaw6.SeqsLast': WHATEVER THE INPUT: true; the input reads as it did. -/
def seqsLastSpec : ChangeSpec := { name := "seqsLast", fn := fun _ => fun
  | [d1, d2, d3] => { results := [.lit (.bool true)], args := [d1, d2, d3] }
  | _ => none }
def seqsLastRow : OpenClaim := { program := "ythnhacbagmhfoaa", sum := "8d108a53375c7db77d5b1be93548b0563f3735d77af18faf1cfa8a2f1831b7e7", func := "mangle/manglelaw6.SeqsLast", spec := "seqsLast", unfollowed := true, recurses := true, apart := false }
def SeqsLastSaid : Prop := seqsLastRow.holds Try.pinned (OpenSpec.ofChange seqsLastSpec)

/-- ITS FALSE NEIGHBOUR: 'it returns false'. Refute it at one input. -/
def seqsLastWrong : ChangeSpec := { name := "seqsLast", fn := fun _ => fun
  | [d1, d2, d3] => { results := [.lit (.bool false)], args := [d1, d2, d3] }
  | _ => none }
def SeqsLastWrongFalsely : Prop := seqsLastRow.holds Try.pinned (OpenSpec.ofChange seqsLastWrong)

/-- 'manglelaw6.SeqsRepeat': WHATEVER THE INPUT: true; the input reads as it did. -/
def seqsRepeatSpec : ChangeSpec := { name := "seqsRepeat", fn := fun _ => fun
  | [d1, d2] => { results := [.lit (.bool true)], args := [d1, d2] }
  | _ => none }
def seqsRepeatRow : OpenClaim := { program := "ythnhacbagmhfoaa", sum := "8d108a53375c7db77d5b1be93548b0563f3735d77af18faf1cfa8a2f1831b7e7", func := "mangle/manglelaw6.SeqsRepeat", spec := "seqsRepeat", apart := false }
def SeqsRepeatSaid : Prop := seqsRepeatRow.holds Try.pinned (OpenSpec.ofChange seqsRepeatSpec)

/-- ITS FALSE NEIGHBOUR: 'it returns false'. Refute it at one input. -/
def seqsRepeatWrong : ChangeSpec := { name := "seqsRepeat", fn := fun _ => fun
  | [d1, d2] => { results := [.lit (.bool false)], args := [d1, d2] }
  | _ => none }
def SeqsRepeatWrongFalsely : Prop := seqsRepeatRow.holds Try.pinned (OpenSpec.ofChange seqsRepeatWrong)

/-- 'manglelaw6.SeqsOffsets': WHATEVER THE INPUT: true; the input reads as it did. -/
def seqsOffsetsSpec : ChangeSpec := { name := "seqsOffsets", fn := fun _ => fun
  | [d1, d2, d3] => { results := [.lit (.bool true)], args := [d1, d2, d3] }
  | _ => none }
def seqsOffsetsRow : OpenClaim := { program := "ythnhacbagmhfoaa", sum := "8d108a53375c7db77d5b1be93548b0563f3735d77af18faf1cfa8a2f1831b7e7", func := "mangle/manglelaw6.SeqsOffsets", spec := "seqsOffsets", apart := false }
def SeqsOffsetsSaid : Prop := seqsOffsetsRow.holds Try.pinned (OpenSpec.ofChange seqsOffsetsSpec)

/-- ITS FALSE NEIGHBOUR: 'it returns false'. Refute it at one input. -/
def seqsOffsetsWrong : ChangeSpec := { name := "seqsOffsets", fn := fun _ => fun
  | [d1, d2, d3] => { results := [.lit (.bool false)], args := [d1, d2, d3] }
  | _ => none }
def SeqsOffsetsWrongFalsely : Prop := seqsOffsetsRow.holds Try.pinned (OpenSpec.ofChange seqsOffsetsWrong)

/-- 'manglelaw6.SeqsAgain': WHATEVER THE INPUT: true; the input reads as it did. -/
def seqsAgainSpec : ChangeSpec := { name := "seqsAgain", fn := fun _ => fun
  | [d1, d2] => { results := [.lit (.bool true)], args := [d1, d2] }
  | _ => none }
def seqsAgainRow : OpenClaim := { program := "ythnhacbagmhfoaa", sum := "8d108a53375c7db77d5b1be93548b0563f3735d77af18faf1cfa8a2f1831b7e7", func := "mangle/manglelaw6.SeqsAgain", spec := "seqsAgain", apart := false }
def SeqsAgainSaid : Prop := seqsAgainRow.holds Try.pinned (OpenSpec.ofChange seqsAgainSpec)

/-- ITS FALSE NEIGHBOUR: 'it returns false'. Refute it at one input. -/
def seqsAgainWrong : ChangeSpec := { name := "seqsAgain", fn := fun _ => fun
  | [d1, d2] => { results := [.lit (.bool false)], args := [d1, d2] }
  | _ => none }
def SeqsAgainWrongFalsely : Prop := seqsAgainRow.holds Try.pinned (OpenSpec.ofChange seqsAgainWrong)

/-- 'manglelaw6.SeqsPacks': WHATEVER THE INPUT: true; the input reads as it did. -/
def seqsPacksSpec : ChangeSpec := { name := "seqsPacks", fn := fun _ => fun
  | [d1, d2] => { results := [.lit (.bool true)], args := [d1, d2] }
  | _ => none }
def seqsPacksRow : OpenClaim := { program := "ythnhacbagmhfoaa", sum := "8d108a53375c7db77d5b1be93548b0563f3735d77af18faf1cfa8a2f1831b7e7", func := "mangle/manglelaw6.SeqsPacks", spec := "seqsPacks", unfollowed := true, recurses := true, apart := false }
def SeqsPacksSaid : Prop := seqsPacksRow.holds Try.pinned (OpenSpec.ofChange seqsPacksSpec)

/-- ITS FALSE NEIGHBOUR: 'it returns false'. Refute it at one input. -/
def seqsPacksWrong : ChangeSpec := { name := "seqsPacks", fn := fun _ => fun
  | [d1, d2] => { results := [.lit (.bool false)], args := [d1, d2] }
  | _ => none }
def SeqsPacksWrongFalsely : Prop := seqsPacksRow.holds Try.pinned (OpenSpec.ofChange seqsPacksWrong)

/-- 'manglelaw6.SeqsOdd': WHATEVER THE INPUT: true; the input reads as it did. -/
def seqsOddSpec : ChangeSpec := { name := "seqsOdd", fn := fun _ => fun
  | [d] => { results := [.lit (.bool true)], args := [d] }
  | _ => none }
def seqsOddRow : OpenClaim := { program := "ythnhacbagmhfoaa", sum := "8d108a53375c7db77d5b1be93548b0563f3735d77af18faf1cfa8a2f1831b7e7", func := "mangle/manglelaw6.SeqsOdd", spec := "seqsOdd", unfollowed := true, recurses := true, apart := false }
def SeqsOddSaid : Prop := seqsOddRow.holds Try.pinned (OpenSpec.ofChange seqsOddSpec)

/-- ITS FALSE NEIGHBOUR: 'it returns false'. Refute it at one input. -/
def seqsOddWrong : ChangeSpec := { name := "seqsOdd", fn := fun _ => fun
  | [d] => { results := [.lit (.bool false)], args := [d] }
  | _ => none }
def SeqsOddWrongFalsely : Prop := seqsOddRow.holds Try.pinned (OpenSpec.ofChange seqsOddWrong)

/-- 'manglelaw6.SeqsTakes': WHATEVER THE INPUT: true; the input reads as it did. -/
def seqsTakesSpec : ChangeSpec := { name := "seqsTakes", fn := fun _ => fun
  | [d1, d2] => { results := [.lit (.bool true)], args := [d1, d2] }
  | _ => none }
def seqsTakesRow : OpenClaim := { program := "ythnhacbagmhfoaa", sum := "8d108a53375c7db77d5b1be93548b0563f3735d77af18faf1cfa8a2f1831b7e7", func := "mangle/manglelaw6.SeqsTakes", spec := "seqsTakes", unfollowed := true, recurses := true, apart := false }
def SeqsTakesSaid : Prop := seqsTakesRow.holds Try.pinned (OpenSpec.ofChange seqsTakesSpec)

/-- ITS FALSE NEIGHBOUR: 'it returns false'. Refute it at one input. -/
def seqsTakesWrong : ChangeSpec := { name := "seqsTakes", fn := fun _ => fun
  | [d1, d2] => { results := [.lit (.bool false)], args := [d1, d2] }
  | _ => none }
def SeqsTakesWrongFalsely : Prop := seqsTakesRow.holds Try.pinned (OpenSpec.ofChange seqsTakesWrong)

/-- 'manglelaw6.SeqsBack': WHATEVER THE INPUT: true; the input reads as it did. -/
def seqsBackSpec : ChangeSpec := { name := "seqsBack", fn := fun _ => fun
  | [d1, d2, d3, d4] => { results := [.lit (.bool true)], args := [d1, d2, d3, d4] }
  | _ => none }
def seqsBackRow : OpenClaim := { program := "ythnhacbagmhfoaa", sum := "8d108a53375c7db77d5b1be93548b0563f3735d77af18faf1cfa8a2f1831b7e7", func := "mangle/manglelaw6.SeqsBack", spec := "seqsBack", unfollowed := true, recurses := true, apart := false }
def SeqsBackSaid : Prop := seqsBackRow.holds Try.pinned (OpenSpec.ofChange seqsBackSpec)

/-- ITS FALSE NEIGHBOUR: 'it returns false'. Refute it at one input. -/
def seqsBackWrong : ChangeSpec := { name := "seqsBack", fn := fun _ => fun
  | [d1, d2, d3, d4] => { results := [.lit (.bool false)], args := [d1, d2, d3, d4] }
  | _ => none }
def SeqsBackWrongFalsely : Prop := seqsBackRow.holds Try.pinned (OpenSpec.ofChange seqsBackWrong)

/-- 'manglelaw6.SeqsTurned': WHATEVER THE INPUT: true; the input reads as it did. -/
def seqsTurnedSpec : ChangeSpec := { name := "seqsTurned", fn := fun _ => fun
  | [d1, d2, d3] => { results := [.lit (.bool true)], args := [d1, d2, d3] }
  | _ => none }
def seqsTurnedRow : OpenClaim := { program := "ythnhacbagmhfoaa", sum := "8d108a53375c7db77d5b1be93548b0563f3735d77af18faf1cfa8a2f1831b7e7", func := "mangle/manglelaw6.SeqsTurned", spec := "seqsTurned", unfollowed := true, recurses := true, apart := false }
def SeqsTurnedSaid : Prop := seqsTurnedRow.holds Try.pinned (OpenSpec.ofChange seqsTurnedSpec)

/-- ITS FALSE NEIGHBOUR: 'it returns false'. Refute it at one input. -/
def seqsTurnedWrong : ChangeSpec := { name := "seqsTurned", fn := fun _ => fun
  | [d1, d2, d3] => { results := [.lit (.bool false)], args := [d1, d2, d3] }
  | _ => none }
def SeqsTurnedWrongFalsely : Prop := seqsTurnedRow.holds Try.pinned (OpenSpec.ofChange seqsTurnedWrong)

/-- 'manglelaw6.SeqsNone': WHATEVER THE INPUT: true; the input reads as it did. -/
def seqsNoneSpec : ChangeSpec := { name := "seqsNone", fn := fun _ => fun
  | [d1, d2] => { results := [.lit (.bool true)], args := [d1, d2] }
  | _ => none }
def seqsNoneRow : OpenClaim := { program := "ythnhacbagmhfoaa", sum := "8d108a53375c7db77d5b1be93548b0563f3735d77af18faf1cfa8a2f1831b7e7", func := "mangle/manglelaw6.SeqsNone", spec := "seqsNone", unfollowed := true, recurses := true, apart := false }
def SeqsNoneSaid : Prop := seqsNoneRow.holds Try.pinned (OpenSpec.ofChange seqsNoneSpec)

/-- ITS FALSE NEIGHBOUR: 'it returns false'. Refute it at one input. -/
def seqsNoneWrong : ChangeSpec := { name := "seqsNone", fn := fun _ => fun
  | [d1, d2] => { results := [.lit (.bool false)], args := [d1, d2] }
  | _ => none }
def SeqsNoneWrongFalsely : Prop := seqsNoneRow.holds Try.pinned (OpenSpec.ofChange seqsNoneWrong)

/- THE SECOND FORM. 'bulk': how many values and letters a reading holds, each counted each time it is reached (what is shared counts as often as it is met; a slice's spare places count too). A statement '..UptoSaid' is the law's where the arguments, and the package variables that the reading takes, are together of bulk at most 1048576: NARROWER than '..Said'. Prove '..Said' where nothing that the law and all that it calls make is longer than what came in: it says more and counts as full. Else prove '..UptoSaid'. A law counts once. -/
mutual
def uptoBulk {H : Type} : DataW H → Nat
  | .lit (.string bytes) => bytes.length + 1
  | .lit _ => 1
  | .nil => 1
  | .ptr d => uptoBulk d + 1
  | .slice elems spare => uptoBulkAll elems + uptoBulkAll spare + 1
  | .agg parts => uptoBulkAll parts + 1
  | .iface _ d => uptoBulk d + 1
  | .map entries => uptoBulkEntries entries + 1
  | .held _ => 1
def uptoBulkAll {H : Type} : List (DataW H) → Nat
  | [] => 0
  | d :: r => uptoBulk d + uptoBulkAll r
def uptoBulkEntries {H : Type} : List (Lit × DataW H) → Nat
  | [] => 0
  | x :: r => uptoBulkEntry x + uptoBulkEntries r
def uptoBulkEntry {H : Type} : Lit × DataW H → Nat
  | (.string bytes, d) => bytes.length + uptoBulk d + 1
  | (_, d) => uptoBulk d + 1
 end
def uptoSmall : (H : Type) → List (DataW H) → Bool := fun _ ds => decide (uptoBulkAll ds ≤ 1048576)
def OpenSpec.upto (s : _root_.Go.ChangeSpec) : _root_.Go.OpenSpec := { _root_.Go.OpenSpec.ofChange s with cond := some uptoSmall }

/-- 'manglelaw6.SeqsCodes', WHERE WHAT IT READS IS OF BULK AT MOST 1048576: true; the input reads as it did. -/
def seqsCodesUptoRow : OpenClaim := { program := "ythnhacbagmhfoaa", sum := "8d108a53375c7db77d5b1be93548b0563f3735d77af18faf1cfa8a2f1831b7e7", func := "mangle/manglelaw6.SeqsCodes", spec := "seqsCodes", apart := false, narrowed := true }
def SeqsCodesUptoSaid : Prop := seqsCodesUptoRow.holds Try.pinned (OpenSpec.upto seqsCodesSpec)

/-- 'manglelaw6.SeqsParsed', WHERE WHAT IT READS IS OF BULK AT MOST 1048576: true; the input reads as it did. -/
def seqsParsedUptoRow : OpenClaim := { program := "ythnhacbagmhfoaa", sum := "8d108a53375c7db77d5b1be93548b0563f3735d77af18faf1cfa8a2f1831b7e7", func := "mangle/manglelaw6.SeqsParsed", spec := "seqsParsed", unfollowed := true, recurses := true, apart := false, narrowed := true }
def SeqsParsedUptoSaid : Prop := seqsParsedUptoRow.holds Try.pinned (OpenSpec.upto seqsParsedSpec)

/-- 'manglelaw6.SeqsLast', WHERE WHAT IT READS IS OF BULK AT MOST 1048576: true; the input reads as it did. -/
def seqsLastUptoRow : OpenClaim := { program := "ythnhacbagmhfoaa", sum := "8d108a53375c7db77d5b1be93548b0563f3735d77af18faf1cfa8a2f1831b7e7", func := "mangle/manglelaw6.SeqsLast", spec := "seqsLast", unfollowed := true, recurses := true, apart := false, narrowed := true }
def SeqsLastUptoSaid : Prop := seqsLastUptoRow.holds Try.pinned (OpenSpec.upto seqsLastSpec)

/-- 'manglelaw6.SeqsRepeat', WHERE WHAT IT READS IS OF BULK AT MOST 1048576: true; the input reads as it did. -/
def seqsRepeatUptoRow : OpenClaim := { program := "ythnhacbagmhfoaa", sum := "8d108a53375c7db77d5b1be93548b0563f3735d77af18faf1cfa8a2f1831b7e7", func := "mangle/manglelaw6.SeqsRepeat", spec := "seqsRepeat", apart := false, narrowed := true }
def SeqsRepeatUptoSaid : Prop := seqsRepeatUptoRow.holds Try.pinned (OpenSpec.upto seqsRepeatSpec)

/-- 'manglelaw6.SeqsOffsets', WHERE WHAT IT READS IS OF BULK AT MOST 1048576: true; the input reads as it did. -/
def seqsOffsetsUptoRow : OpenClaim := { program := "ythnhacbagmhfoaa", sum := "8d108a53375c7db77d5b1be93548b0563f3735d77af18faf1cfa8a2f1831b7e7", func := "mangle/manglelaw6.SeqsOffsets", spec := "seqsOffsets", apart := false, narrowed := true }
def SeqsOffsetsUptoSaid : Prop := seqsOffsetsUptoRow.holds Try.pinned (OpenSpec.upto seqsOffsetsSpec)

/-- 'manglelaw6.SeqsAgain', WHERE WHAT IT READS IS OF BULK AT MOST 1048576: true; the input reads as it did. -/
def seqsAgainUptoRow : OpenClaim := { program := "ythnhacbagmhfoaa", sum := "8d108a53375c7db77d5b1be93548b0563f3735d77af18faf1cfa8a2f1831b7e7", func := "mangle/manglelaw6.SeqsAgain", spec := "seqsAgain", apart := false, narrowed := true }
def SeqsAgainUptoSaid : Prop := seqsAgainUptoRow.holds Try.pinned (OpenSpec.upto seqsAgainSpec)

/-- 'manglelaw6.SeqsPacks', WHERE WHAT IT READS IS OF BULK AT MOST 1048576: true; the input reads as it did. -/
def seqsPacksUptoRow : OpenClaim := { program := "ythnhacbagmhfoaa", sum := "8d108a53375c7db77d5b1be93548b0563f3735d77af18faf1cfa8a2f1831b7e7", func := "mangle/manglelaw6.SeqsPacks", spec := "seqsPacks", unfollowed := true, recurses := true, apart := false, narrowed := true }
def SeqsPacksUptoSaid : Prop := seqsPacksUptoRow.holds Try.pinned (OpenSpec.upto seqsPacksSpec)

/-- 'manglelaw6.SeqsOdd', WHERE WHAT IT READS IS OF BULK AT MOST 1048576: true; the input reads as it did. -/
def seqsOddUptoRow : OpenClaim := { program := "ythnhacbagmhfoaa", sum := "8d108a53375c7db77d5b1be93548b0563f3735d77af18faf1cfa8a2f1831b7e7", func := "mangle/manglelaw6.SeqsOdd", spec := "seqsOdd", unfollowed := true, recurses := true, apart := false, narrowed := true }
def SeqsOddUptoSaid : Prop := seqsOddUptoRow.holds Try.pinned (OpenSpec.upto seqsOddSpec)

/-- 'manglelaw6.SeqsTakes', WHERE WHAT IT READS IS OF BULK AT MOST 1048576: true; the input reads as it did. -/
def seqsTakesUptoRow : OpenClaim := { program := "ythnhacbagmhfoaa", sum := "8d108a53375c7db77d5b1be93548b0563f3735d77af18faf1cfa8a2f1831b7e7", func := "mangle/manglelaw6.SeqsTakes", spec := "seqsTakes", unfollowed := true, recurses := true, apart := false, narrowed := true }
def SeqsTakesUptoSaid : Prop := seqsTakesUptoRow.holds Try.pinned (OpenSpec.upto seqsTakesSpec)

/-- 'manglelaw6.SeqsBack', WHERE WHAT IT READS IS OF BULK AT MOST 1048576: true; the input reads as it did. -/
def seqsBackUptoRow : OpenClaim := { program := "ythnhacbagmhfoaa", sum := "8d108a53375c7db77d5b1be93548b0563f3735d77af18faf1cfa8a2f1831b7e7", func := "mangle/manglelaw6.SeqsBack", spec := "seqsBack", unfollowed := true, recurses := true, apart := false, narrowed := true }
def SeqsBackUptoSaid : Prop := seqsBackUptoRow.holds Try.pinned (OpenSpec.upto seqsBackSpec)

/-- 'manglelaw6.SeqsTurned', WHERE WHAT IT READS IS OF BULK AT MOST 1048576: true; the input reads as it did. -/
def seqsTurnedUptoRow : OpenClaim := { program := "ythnhacbagmhfoaa", sum := "8d108a53375c7db77d5b1be93548b0563f3735d77af18faf1cfa8a2f1831b7e7", func := "mangle/manglelaw6.SeqsTurned", spec := "seqsTurned", unfollowed := true, recurses := true, apart := false, narrowed := true }
def SeqsTurnedUptoSaid : Prop := seqsTurnedUptoRow.holds Try.pinned (OpenSpec.upto seqsTurnedSpec)

/-- 'manglelaw6.SeqsNone', WHERE WHAT IT READS IS OF BULK AT MOST 1048576: true; the input reads as it did. -/
def seqsNoneUptoRow : OpenClaim := { program := "ythnhacbagmhfoaa", sum := "8d108a53375c7db77d5b1be93548b0563f3735d77af18faf1cfa8a2f1831b7e7", func := "mangle/manglelaw6.SeqsNone", spec := "seqsNone", unfollowed := true, recurses := true, apart := false, narrowed := true }
def SeqsNoneUptoSaid : Prop := seqsNoneUptoRow.holds Try.pinned (OpenSpec.upto seqsNoneSpec)

end Rows
end Go.Proofs.Ythnhacbagmhfoaa
