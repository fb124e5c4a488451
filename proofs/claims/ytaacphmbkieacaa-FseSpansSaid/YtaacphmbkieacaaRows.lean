/-
  No cell of these rows narrows 'for every input' (looked for: loops, veiled, ifaces, maps, wideKeys, modest, calm, conditions, laid).
  DERIVED. THE GIVEN ROWS OF THIS SEAT. 12 by the template 'for every input the law returns true; each argument reads behind the call as it read before'; 0 by the template 'total and deterministic' (their statements: YtaacphmbkieacaaTotals.lean).
  GIVEN WITH THE SEED: the statements are not yours to turn. If you find one false, say at which input.
  Laid BY PROGRAM, IN A SANDBOX (cutbox-rows.mjs): the forced cells as the released guide's own fill.sh prints them over the translation 6113236426db0a38… (all of the seat's roots in one cut). By AI agents, Wed Nov 11 2026. No macro, syntax, notation, axiom, sorry.
-/
import Derived.Test.YtaacphmbkieacaaChecked
import GoSem.Claim
import GoSem.ClaimJoined
import GoSem.ClaimMapViews
import Derived.JoinedTies
import Derived.KernelRfl
namespace Go.Proofs.Ytaacphmbkieacaa
/- THE CELL 'sum', in the pinned program and in every row, IS THE sha256 OF THE DUMP (.gsa) THAT YtaacphmbkieacaaProg.lean LOADS. Nothing in Lean hashes anything: it is a label: what it is worth is what the hold of that sum in a sandbox is worth. -/
noncomputable def Try.pinned : Pinned := { name := "ytaacphmbkieacaa", sum := "6113236426db0a380fbf5780f6c4e49b55788e5086fff651dc25ac438cad42df", checked := Try.checked }
namespace Rows
def none {H : Type} : Left H := { results := [], args := [] }

/-- 'manglelaw4.FseNorms': WHATEVER THE INPUT: true; the input reads as it did. -/
def fseNormsSpec : ChangeSpec := { name := "fseNorms", fn := fun _ => fun
  | [d1, d2] => { results := [.lit (.bool true)], args := [d1, d2] }
  | _ => none }
def fseNormsRow : OpenClaim := { program := "ytaacphmbkieacaa", sum := "6113236426db0a380fbf5780f6c4e49b55788e5086fff651dc25ac438cad42df", func := "mangle/manglelaw4.FseNorms", spec := "fseNorms", unfollowed := true, recurses := true, apart := false }
def FseNormsSaid : Prop := fseNormsRow.holds Try.pinned (OpenSpec.ofChange fseNormsSpec)

/-- ITS FALSE NEIGHBOUR: 'it returns false'. Refute it at one input. -/
def fseNormsWrong : ChangeSpec := { name := "fseNorms", fn := fun _ => fun
  | [d1, d2] => { results := [.lit (.bool false)], args := [d1, d2] }
  | _ => none }
def FseNormsWrongFalsely : Prop := fseNormsRow.holds Try.pinned (OpenSpec.ofChange fseNormsWrong)

/-- 'manglelaw4.FseSums': WHATEVER THE INPUT: true; the input reads as it did. -/
def fseSumsSpec : ChangeSpec := { name := "fseSums", fn := fun _ => fun
  | [d1, d2] => { results := [.lit (.bool true)], args := [d1, d2] }
  | _ => none }
def fseSumsRow : OpenClaim := { program := "ytaacphmbkieacaa", sum := "6113236426db0a380fbf5780f6c4e49b55788e5086fff651dc25ac438cad42df", func := "mangle/manglelaw4.FseSums", spec := "fseSums", unfollowed := true, recurses := true, apart := false }
def FseSumsSaid : Prop := fseSumsRow.holds Try.pinned (OpenSpec.ofChange fseSumsSpec)

/-- ITS FALSE NEIGHBOUR: 'it returns false'. Refute it at one input. -/
def fseSumsWrong : ChangeSpec := { name := "fseSums", fn := fun _ => fun
  | [d1, d2] => { results := [.lit (.bool false)], args := [d1, d2] }
  | _ => none }
def FseSumsWrongFalsely : Prop := fseSumsRow.holds Try.pinned (OpenSpec.ofChange fseSumsWrong)

/-- 'manglelaw4.FseTables': WHATEVER THE INPUT: true; the input reads as it did. -/
def fseTablesSpec : ChangeSpec := { name := "fseTables", fn := fun _ => fun
  | [d1, d2] => { results := [.lit (.bool true)], args := [d1, d2] }
  | _ => none }
def fseTablesRow : OpenClaim := { program := "ytaacphmbkieacaa", sum := "6113236426db0a380fbf5780f6c4e49b55788e5086fff651dc25ac438cad42df", func := "mangle/manglelaw4.FseTables", spec := "fseTables", unfollowed := true, recurses := true, apart := false }
def FseTablesSaid : Prop := fseTablesRow.holds Try.pinned (OpenSpec.ofChange fseTablesSpec)

/-- ITS FALSE NEIGHBOUR: 'it returns false'. Refute it at one input. -/
def fseTablesWrong : ChangeSpec := { name := "fseTables", fn := fun _ => fun
  | [d1, d2] => { results := [.lit (.bool false)], args := [d1, d2] }
  | _ => none }
def FseTablesWrongFalsely : Prop := fseTablesRow.holds Try.pinned (OpenSpec.ofChange fseTablesWrong)

/-- 'manglelaw4.FseSpans': WHATEVER THE INPUT: true; the input reads as it did. -/
def fseSpansSpec : ChangeSpec := { name := "fseSpans", fn := fun _ => fun
  | [d1, d2] => { results := [.lit (.bool true)], args := [d1, d2] }
  | _ => none }
def fseSpansRow : OpenClaim := { program := "ytaacphmbkieacaa", sum := "6113236426db0a380fbf5780f6c4e49b55788e5086fff651dc25ac438cad42df", func := "mangle/manglelaw4.FseSpans", spec := "fseSpans", unfollowed := true, recurses := true, apart := false }
def FseSpansSaid : Prop := fseSpansRow.holds Try.pinned (OpenSpec.ofChange fseSpansSpec)

/-- ITS FALSE NEIGHBOUR: 'it returns false'. Refute it at one input. -/
def fseSpansWrong : ChangeSpec := { name := "fseSpans", fn := fun _ => fun
  | [d1, d2] => { results := [.lit (.bool false)], args := [d1, d2] }
  | _ => none }
def FseSpansWrongFalsely : Prop := fseSpansRow.holds Try.pinned (OpenSpec.ofChange fseSpansWrong)

/-- 'manglelaw4.FseOdd': WHATEVER THE INPUT: true; the input reads as it did. -/
def fseOddSpec : ChangeSpec := { name := "fseOdd", fn := fun _ => fun
  | [d] => { results := [.lit (.bool true)], args := [d] }
  | _ => none }
def fseOddRow : OpenClaim := { program := "ytaacphmbkieacaa", sum := "6113236426db0a380fbf5780f6c4e49b55788e5086fff651dc25ac438cad42df", func := "mangle/manglelaw4.FseOdd", spec := "fseOdd", unfollowed := true, recurses := true, apart := false }
def FseOddSaid : Prop := fseOddRow.holds Try.pinned (OpenSpec.ofChange fseOddSpec)

/-- ITS FALSE NEIGHBOUR: 'it returns false'. Refute it at one input. -/
def fseOddWrong : ChangeSpec := { name := "fseOdd", fn := fun _ => fun
  | [d] => { results := [.lit (.bool false)], args := [d] }
  | _ => none }
def FseOddWrongFalsely : Prop := fseOddRow.holds Try.pinned (OpenSpec.ofChange fseOddWrong)

/-- 'manglelaw4.FseCodes': WHATEVER THE INPUT: true; the input reads as it did. -/
def fseCodesSpec : ChangeSpec := { name := "fseCodes", fn := fun _ => fun
  | [d1, d2, d3] => { results := [.lit (.bool true)], args := [d1, d2, d3] }
  | _ => none }
def fseCodesRow : OpenClaim := { program := "ytaacphmbkieacaa", sum := "6113236426db0a380fbf5780f6c4e49b55788e5086fff651dc25ac438cad42df", func := "mangle/manglelaw4.FseCodes", spec := "fseCodes", unfollowed := true, recurses := true, apart := false }
def FseCodesSaid : Prop := fseCodesRow.holds Try.pinned (OpenSpec.ofChange fseCodesSpec)

/-- ITS FALSE NEIGHBOUR: 'it returns false'. Refute it at one input. -/
def fseCodesWrong : ChangeSpec := { name := "fseCodes", fn := fun _ => fun
  | [d1, d2, d3] => { results := [.lit (.bool false)], args := [d1, d2, d3] }
  | _ => none }
def FseCodesWrongFalsely : Prop := fseCodesRow.holds Try.pinned (OpenSpec.ofChange fseCodesWrong)

/-- 'manglelaw4.FseEven': WHATEVER THE INPUT: true; the input reads as it did. -/
def fseEvenSpec : ChangeSpec := { name := "fseEven", fn := fun _ => fun
  | [d] => { results := [.lit (.bool true)], args := [d] }
  | _ => none }
def fseEvenRow : OpenClaim := { program := "ytaacphmbkieacaa", sum := "6113236426db0a380fbf5780f6c4e49b55788e5086fff651dc25ac438cad42df", func := "mangle/manglelaw4.FseEven", spec := "fseEven", unfollowed := true, recurses := true, apart := false }
def FseEvenSaid : Prop := fseEvenRow.holds Try.pinned (OpenSpec.ofChange fseEvenSpec)

/-- ITS FALSE NEIGHBOUR: 'it returns false'. Refute it at one input. -/
def fseEvenWrong : ChangeSpec := { name := "fseEven", fn := fun _ => fun
  | [d] => { results := [.lit (.bool false)], args := [d] }
  | _ => none }
def FseEvenWrongFalsely : Prop := fseEvenRow.holds Try.pinned (OpenSpec.ofChange fseEvenWrong)

/-- 'manglelaw4.FseReads': WHATEVER THE INPUT: true; the input reads as it did. -/
def fseReadsSpec : ChangeSpec := { name := "fseReads", fn := fun _ => fun
  | [d1, d2, d3, d4] => { results := [.lit (.bool true)], args := [d1, d2, d3, d4] }
  | _ => none }
def fseReadsRow : OpenClaim := { program := "ytaacphmbkieacaa", sum := "6113236426db0a380fbf5780f6c4e49b55788e5086fff651dc25ac438cad42df", func := "mangle/manglelaw4.FseReads", spec := "fseReads", unfollowed := true, recurses := true, apart := false }
def FseReadsSaid : Prop := fseReadsRow.holds Try.pinned (OpenSpec.ofChange fseReadsSpec)

/-- ITS FALSE NEIGHBOUR: 'it returns false'. Refute it at one input. -/
def fseReadsWrong : ChangeSpec := { name := "fseReads", fn := fun _ => fun
  | [d1, d2, d3, d4] => { results := [.lit (.bool false)], args := [d1, d2, d3, d4] }
  | _ => none }
def FseReadsWrongFalsely : Prop := fseReadsRow.holds Try.pinned (OpenSpec.ofChange fseReadsWrong)

/-- 'manglelaw4.FseTurned': WHATEVER THE INPUT: true; the input reads as it did. -/
def fseTurnedSpec : ChangeSpec := { name := "fseTurned", fn := fun _ => fun
  | [d1, d2, d3] => { results := [.lit (.bool true)], args := [d1, d2, d3] }
  | _ => none }
def fseTurnedRow : OpenClaim := { program := "ytaacphmbkieacaa", sum := "6113236426db0a380fbf5780f6c4e49b55788e5086fff651dc25ac438cad42df", func := "mangle/manglelaw4.FseTurned", spec := "fseTurned", unfollowed := true, recurses := true, apart := false }
def FseTurnedSaid : Prop := fseTurnedRow.holds Try.pinned (OpenSpec.ofChange fseTurnedSpec)

/-- ITS FALSE NEIGHBOUR: 'it returns false'. Refute it at one input. -/
def fseTurnedWrong : ChangeSpec := { name := "fseTurned", fn := fun _ => fun
  | [d1, d2, d3] => { results := [.lit (.bool false)], args := [d1, d2, d3] }
  | _ => none }
def FseTurnedWrongFalsely : Prop := fseTurnedRow.holds Try.pinned (OpenSpec.ofChange fseTurnedWrong)

/-- 'manglelaw4.FseBack': WHATEVER THE INPUT: true; the input reads as it did. -/
def fseBackSpec : ChangeSpec := { name := "fseBack", fn := fun _ => fun
  | [d1, d2] => { results := [.lit (.bool true)], args := [d1, d2] }
  | _ => none }
def fseBackRow : OpenClaim := { program := "ytaacphmbkieacaa", sum := "6113236426db0a380fbf5780f6c4e49b55788e5086fff651dc25ac438cad42df", func := "mangle/manglelaw4.FseBack", spec := "fseBack", unfollowed := true, recurses := true, apart := false }
def FseBackSaid : Prop := fseBackRow.holds Try.pinned (OpenSpec.ofChange fseBackSpec)

/-- ITS FALSE NEIGHBOUR: 'it returns false'. Refute it at one input. -/
def fseBackWrong : ChangeSpec := { name := "fseBack", fn := fun _ => fun
  | [d1, d2] => { results := [.lit (.bool false)], args := [d1, d2] }
  | _ => none }
def FseBackWrongFalsely : Prop := fseBackRow.holds Try.pinned (OpenSpec.ofChange fseBackWrong)

/-- 'manglelaw4.FseAlone': WHATEVER THE INPUT: true; the input reads as it did. -/
def fseAloneSpec : ChangeSpec := { name := "fseAlone", fn := fun _ => fun
  | [d1, d2, d3] => { results := [.lit (.bool true)], args := [d1, d2, d3] }
  | _ => none }
def fseAloneRow : OpenClaim := { program := "ytaacphmbkieacaa", sum := "6113236426db0a380fbf5780f6c4e49b55788e5086fff651dc25ac438cad42df", func := "mangle/manglelaw4.FseAlone", spec := "fseAlone", unfollowed := true, recurses := true, apart := false }
def FseAloneSaid : Prop := fseAloneRow.holds Try.pinned (OpenSpec.ofChange fseAloneSpec)

/-- ITS FALSE NEIGHBOUR: 'it returns false'. Refute it at one input. -/
def fseAloneWrong : ChangeSpec := { name := "fseAlone", fn := fun _ => fun
  | [d1, d2, d3] => { results := [.lit (.bool false)], args := [d1, d2, d3] }
  | _ => none }
def FseAloneWrongFalsely : Prop := fseAloneRow.holds Try.pinned (OpenSpec.ofChange fseAloneWrong)

/-- 'manglelaw4.FseNone': WHATEVER THE INPUT: true; the input reads as it did. -/
def fseNoneSpec : ChangeSpec := { name := "fseNone", fn := fun _ => fun
  | [d1, d2] => { results := [.lit (.bool true)], args := [d1, d2] }
  | _ => none }
def fseNoneRow : OpenClaim := { program := "ytaacphmbkieacaa", sum := "6113236426db0a380fbf5780f6c4e49b55788e5086fff651dc25ac438cad42df", func := "mangle/manglelaw4.FseNone", spec := "fseNone", unfollowed := true, recurses := true, apart := false }
def FseNoneSaid : Prop := fseNoneRow.holds Try.pinned (OpenSpec.ofChange fseNoneSpec)

/-- ITS FALSE NEIGHBOUR: 'it returns false'. Refute it at one input. -/
def fseNoneWrong : ChangeSpec := { name := "fseNone", fn := fun _ => fun
  | [d1, d2] => { results := [.lit (.bool false)], args := [d1, d2] }
  | _ => none }
def FseNoneWrongFalsely : Prop := fseNoneRow.holds Try.pinned (OpenSpec.ofChange fseNoneWrong)

/- THE SECOND FORM. 'bulk': how many values and letters a reading holds, each counted each time it is reached (what is shared counts as often as it is met; a slice's spare places count too). A statement '..UptoSaid' is the law's where the arguments, and the package variables that the reading takes, are together of bulk at most 1048576: NARROWER than '..Said'. Prove '..Said' where nothing that the law and all that it calls make is longer than what came in: it says more and counts as full. Else prove '..UptoSaid'. A law counts once. -/
mutual
def uptoBulk {H : Type} : DataW H → Nat
  | .lit (.string bytes) => bytes.length + 1
  | .lit _ => 1
  | .nil => 1
  | .ptr d => uptoBulk d + 1
  | .slice elems spare => uptoBulkAll elems + uptoBulkAll spare + 1
  | .agg parts => uptoBulkAll parts + 1
  | .iface _ d => uptoBulk d + 1
  | .map entries => uptoBulkEntries entries + 1
  | .held _ => 1
def uptoBulkAll {H : Type} : List (DataW H) → Nat
  | [] => 0
  | d :: r => uptoBulk d + uptoBulkAll r
def uptoBulkEntries {H : Type} : List (Lit × DataW H) → Nat
  | [] => 0
  | x :: r => uptoBulkEntry x + uptoBulkEntries r
def uptoBulkEntry {H : Type} : Lit × DataW H → Nat
  | (.string bytes, d) => bytes.length + uptoBulk d + 1
  | (_, d) => uptoBulk d + 1
 end
def uptoSmall : (H : Type) → List (DataW H) → Bool := fun _ ds => decide (uptoBulkAll ds ≤ 1048576)
def OpenSpec.upto (s : _root_.Go.ChangeSpec) : _root_.Go.OpenSpec := { _root_.Go.OpenSpec.ofChange s with cond := some uptoSmall }

/-- 'manglelaw4.FseNorms', WHERE WHAT IT READS IS OF BULK AT MOST 1048576: true; the input reads as it did. -/
def fseNormsUptoRow : OpenClaim := { program := "ytaacphmbkieacaa", sum := "6113236426db0a380fbf5780f6c4e49b55788e5086fff651dc25ac438cad42df", func := "mangle/manglelaw4.FseNorms", spec := "fseNorms", unfollowed := true, recurses := true, apart := false, narrowed := true }
def FseNormsUptoSaid : Prop := fseNormsUptoRow.holds Try.pinned (OpenSpec.upto fseNormsSpec)

/-- 'manglelaw4.FseSums', WHERE WHAT IT READS IS OF BULK AT MOST 1048576: true; the input reads as it did. -/
def fseSumsUptoRow : OpenClaim := { program := "ytaacphmbkieacaa", sum := "6113236426db0a380fbf5780f6c4e49b55788e5086fff651dc25ac438cad42df", func := "mangle/manglelaw4.FseSums", spec := "fseSums", unfollowed := true, recurses := true, apart := false, narrowed := true }
def FseSumsUptoSaid : Prop := fseSumsUptoRow.holds Try.pinned (OpenSpec.upto fseSumsSpec)

/-- 'manglelaw4.FseTables', WHERE WHAT IT READS IS OF BULK AT MOST 1048576: true; the input reads as it did. -/
def fseTablesUptoRow : OpenClaim := { program := "ytaacphmbkieacaa", sum := "6113236426db0a380fbf5780f6c4e49b55788e5086fff651dc25ac438cad42df", func := "mangle/manglelaw4.FseTables", spec := "fseTables", unfollowed := true, recurses := true, apart := false, narrowed := true }
def FseTablesUptoSaid : Prop := fseTablesUptoRow.holds Try.pinned (OpenSpec.upto fseTablesSpec)

/-- 'manglelaw4.FseSpans', WHERE WHAT IT READS IS OF BULK AT MOST 1048576: true; the input reads as it did. -/
def fseSpansUptoRow : OpenClaim := { program := "ytaacphmbkieacaa", sum := "6113236426db0a380fbf5780f6c4e49b55788e5086fff651dc25ac438cad42df", func := "mangle/manglelaw4.FseSpans", spec := "fseSpans", unfollowed := true, recurses := true, apart := false, narrowed := true }
def FseSpansUptoSaid : Prop := fseSpansUptoRow.holds Try.pinned (OpenSpec.upto fseSpansSpec)

/-- 'manglelaw4.FseOdd', WHERE WHAT IT READS IS OF BULK AT MOST 1048576: true; the input reads as it did. -/
def fseOddUptoRow : OpenClaim := { program := "ytaacphmbkieacaa", sum := "6113236426db0a380fbf5780f6c4e49b55788e5086fff651dc25ac438cad42df", func := "mangle/manglelaw4.FseOdd", spec := "fseOdd", unfollowed := true, recurses := true, apart := false, narrowed := true }
def FseOddUptoSaid : Prop := fseOddUptoRow.holds Try.pinned (OpenSpec.upto fseOddSpec)

/-- 'manglelaw4.FseCodes', WHERE WHAT IT READS IS OF BULK AT MOST 1048576: true; the input reads as it did. -/
def fseCodesUptoRow : OpenClaim := { program := "ytaacphmbkieacaa", sum := "6113236426db0a380fbf5780f6c4e49b55788e5086fff651dc25ac438cad42df", func := "mangle/manglelaw4.FseCodes", spec := "fseCodes", unfollowed := true, recurses := true, apart := false, narrowed := true }
def FseCodesUptoSaid : Prop := fseCodesUptoRow.holds Try.pinned (OpenSpec.upto fseCodesSpec)

/-- 'manglelaw4.FseEven', WHERE WHAT IT READS IS OF BULK AT MOST 1048576: true; the input reads as it did. -/
def fseEvenUptoRow : OpenClaim := { program := "ytaacphmbkieacaa", sum := "6113236426db0a380fbf5780f6c4e49b55788e5086fff651dc25ac438cad42df", func := "mangle/manglelaw4.FseEven", spec := "fseEven", unfollowed := true, recurses := true, apart := false, narrowed := true }
def FseEvenUptoSaid : Prop := fseEvenUptoRow.holds Try.pinned (OpenSpec.upto fseEvenSpec)

/-- 'manglelaw4.FseReads', WHERE WHAT IT READS IS OF BULK AT MOST 1048576: true; the input reads as it did. -/
def fseReadsUptoRow : OpenClaim := { program := "ytaacphmbkieacaa", sum := "6113236426db0a380fbf5780f6c4e49b55788e5086fff651dc25ac438cad42df", func := "mangle/manglelaw4.FseReads", spec := "fseReads", unfollowed := true, recurses := true, apart := false, narrowed := true }
def FseReadsUptoSaid : Prop := fseReadsUptoRow.holds Try.pinned (OpenSpec.upto fseReadsSpec)

/-- 'manglelaw4.FseTurned', WHERE WHAT IT READS IS OF BULK AT MOST 1048576: true; the input reads as it did. -/
def fseTurnedUptoRow : OpenClaim := { program := "ytaacphmbkieacaa", sum := "6113236426db0a380fbf5780f6c4e49b55788e5086fff651dc25ac438cad42df", func := "mangle/manglelaw4.FseTurned", spec := "fseTurned", unfollowed := true, recurses := true, apart := false, narrowed := true }
def FseTurnedUptoSaid : Prop := fseTurnedUptoRow.holds Try.pinned (OpenSpec.upto fseTurnedSpec)

/-- 'manglelaw4.FseBack', WHERE WHAT IT READS IS OF BULK AT MOST 1048576: true; the input reads as it did. -/
def fseBackUptoRow : OpenClaim := { program := "ytaacphmbkieacaa", sum := "6113236426db0a380fbf5780f6c4e49b55788e5086fff651dc25ac438cad42df", func := "mangle/manglelaw4.FseBack", spec := "fseBack", unfollowed := true, recurses := true, apart := false, narrowed := true }
def FseBackUptoSaid : Prop := fseBackUptoRow.holds Try.pinned (OpenSpec.upto fseBackSpec)

/-- 'manglelaw4.FseAlone', WHERE WHAT IT READS IS OF BULK AT MOST 1048576: true; the input reads as it did. -/
def fseAloneUptoRow : OpenClaim := { program := "ytaacphmbkieacaa", sum := "6113236426db0a380fbf5780f6c4e49b55788e5086fff651dc25ac438cad42df", func := "mangle/manglelaw4.FseAlone", spec := "fseAlone", unfollowed := true, recurses := true, apart := false, narrowed := true }
def FseAloneUptoSaid : Prop := fseAloneUptoRow.holds Try.pinned (OpenSpec.upto fseAloneSpec)

/-- 'manglelaw4.FseNone', WHERE WHAT IT READS IS OF BULK AT MOST 1048576: true; the input reads as it did. -/
def fseNoneUptoRow : OpenClaim := { program := "ytaacphmbkieacaa", sum := "6113236426db0a380fbf5780f6c4e49b55788e5086fff651dc25ac438cad42df", func := "mangle/manglelaw4.FseNone", spec := "fseNone", unfollowed := true, recurses := true, apart := false, narrowed := true }
def FseNoneUptoSaid : Prop := fseNoneUptoRow.holds Try.pinned (OpenSpec.upto fseNoneSpec)

end Rows
end Go.Proofs.Ytaacphmbkieacaa
