/-
  No cell of these rows narrows 'for every input' (looked for: loops, veiled, ifaces, maps, wideKeys, modest, calm, conditions, laid).
  DERIVED. THE GIVEN ROWS OF THIS SEAT. 8 by the template 'for every input the law returns true; each argument reads behind the call as it read before'; 0 by the template 'total and deterministic' (their statements: YtdhfepalphpabaaTotals.lean).
  GIVEN WITH THE SEED: the statements are not yours to turn. If you find one false, say at which input.
  Laid BY PROGRAM, IN A SANDBOX (cutbox-rows.mjs): the forced cells as the released guide's own fill.sh prints them over the translation 3a0d57ad98b0db90… (all of the seat's roots in one cut). By AI agents, Wed Nov 11 2026. No macro, syntax, notation, axiom, sorry.
-/
import Derived.Test.YtdhfepalphpabaaChecked
import GoSem.Claim
import GoSem.ClaimJoined
import GoSem.ClaimMapViews
import Derived.JoinedTies
import Derived.KernelRfl
namespace Go.Proofs.Ytdhfepalphpabaa
/- THE CELL 'sum', in the pinned program and in every row, IS THE sha256 OF THE DUMP (.gsa) THAT YtdhfepalphpabaaProg.lean LOADS. Nothing in Lean hashes anything: it is a label: what it is worth is what the hold of that sum in a sandbox is worth. -/
noncomputable def Try.pinned : Pinned := { name := "ytdhfepalphpabaa", sum := "3a0d57ad98b0db9073fa67620193e6a0a50f260146181f7e033ac869c434ad1a", checked := Try.checked }
namespace Rows
def none {H : Type} : Left H := { results := [], args := [] }

/-- 'manglelaw2.HashSums': WHATEVER THE INPUT: true; the input reads as it did. -/
def hashSumsSpec : ChangeSpec := { name := "hashSums", fn := fun _ => fun
  | [d1, d2] => { results := [.lit (.bool true)], args := [d1, d2] }
  | _ => none }
def hashSumsRow : OpenClaim := { program := "ytdhfepalphpabaa", sum := "3a0d57ad98b0db9073fa67620193e6a0a50f260146181f7e033ac869c434ad1a", func := "mangle/manglelaw2.HashSums", spec := "hashSums", apart := false }
def HashSumsSaid : Prop := hashSumsRow.holds Try.pinned (OpenSpec.ofChange hashSumsSpec)

/-- ITS FALSE NEIGHBOUR: 'it returns false'. Refute it at one input. -/
def hashSumsWrong : ChangeSpec := { name := "hashSums", fn := fun _ => fun
  | [d1, d2] => { results := [.lit (.bool false)], args := [d1, d2] }
  | _ => none }
def HashSumsWrongFalsely : Prop := hashSumsRow.holds Try.pinned (OpenSpec.ofChange hashSumsWrong)

/-- 'manglelaw2.HashRows': WHATEVER THE INPUT: true; the input reads as it did. -/
def hashRowsSpec : ChangeSpec := { name := "hashRows", fn := fun _ => fun
  | [d1, d2] => { results := [.lit (.bool true)], args := [d1, d2] }
  | _ => none }
def hashRowsRow : OpenClaim := { program := "ytdhfepalphpabaa", sum := "3a0d57ad98b0db9073fa67620193e6a0a50f260146181f7e033ac869c434ad1a", func := "mangle/manglelaw2.HashRows", spec := "hashRows", apart := false }
def HashRowsSaid : Prop := hashRowsRow.holds Try.pinned (OpenSpec.ofChange hashRowsSpec)

/-- ITS FALSE NEIGHBOUR: 'it returns false'. Refute it at one input. -/
def hashRowsWrong : ChangeSpec := { name := "hashRows", fn := fun _ => fun
  | [d1, d2] => { results := [.lit (.bool false)], args := [d1, d2] }
  | _ => none }
def HashRowsWrongFalsely : Prop := hashRowsRow.holds Try.pinned (OpenSpec.ofChange hashRowsWrong)

/-- 'manglelaw2.HashLong': WHATEVER THE INPUT: true; the input reads as it did. -/
def hashLongSpec : ChangeSpec := { name := "hashLong", fn := fun _ => fun
  | [d1, d2, d3] => { results := [.lit (.bool true)], args := [d1, d2, d3] }
  | _ => none }
def hashLongRow : OpenClaim := { program := "ytdhfepalphpabaa", sum := "3a0d57ad98b0db9073fa67620193e6a0a50f260146181f7e033ac869c434ad1a", func := "mangle/manglelaw2.HashLong", spec := "hashLong", apart := false }
def HashLongSaid : Prop := hashLongRow.holds Try.pinned (OpenSpec.ofChange hashLongSpec)

/-- ITS FALSE NEIGHBOUR: 'it returns false'. Refute it at one input. -/
def hashLongWrong : ChangeSpec := { name := "hashLong", fn := fun _ => fun
  | [d1, d2, d3] => { results := [.lit (.bool false)], args := [d1, d2, d3] }
  | _ => none }
def HashLongWrongFalsely : Prop := hashLongRow.holds Try.pinned (OpenSpec.ofChange hashLongWrong)

/-- 'manglelaw2.HashShort': WHATEVER THE INPUT: true; the input reads as it did. -/
def hashShortSpec : ChangeSpec := { name := "hashShort", fn := fun _ => fun
  | [d1, d2] => { results := [.lit (.bool true)], args := [d1, d2] }
  | _ => none }
def hashShortRow : OpenClaim := { program := "ytdhfepalphpabaa", sum := "3a0d57ad98b0db9073fa67620193e6a0a50f260146181f7e033ac869c434ad1a", func := "mangle/manglelaw2.HashShort", spec := "hashShort", apart := false }
def HashShortSaid : Prop := hashShortRow.holds Try.pinned (OpenSpec.ofChange hashShortSpec)

/-- ITS FALSE NEIGHBOUR: 'it returns false'. Refute it at one input. -/
def hashShortWrong : ChangeSpec := { name := "hashShort", fn := fun _ => fun
  | [d1, d2] => { results := [.lit (.bool false)], args := [d1, d2] }
  | _ => none }
def HashShortWrongFalsely : Prop := hashShortRow.holds Try.pinned (OpenSpec.ofChange hashShortWrong)

/-- 'manglelaw2.HashOwn': WHATEVER THE INPUT: true; the input reads as it did. -/
def hashOwnSpec : ChangeSpec := { name := "hashOwn", fn := fun _ => fun
  | [d1, d2] => { results := [.lit (.bool true)], args := [d1, d2] }
  | _ => none }
def hashOwnRow : OpenClaim := { program := "ytdhfepalphpabaa", sum := "3a0d57ad98b0db9073fa67620193e6a0a50f260146181f7e033ac869c434ad1a", func := "mangle/manglelaw2.HashOwn", spec := "hashOwn", apart := false }
def HashOwnSaid : Prop := hashOwnRow.holds Try.pinned (OpenSpec.ofChange hashOwnSpec)

/-- ITS FALSE NEIGHBOUR: 'it returns false'. Refute it at one input. -/
def hashOwnWrong : ChangeSpec := { name := "hashOwn", fn := fun _ => fun
  | [d1, d2] => { results := [.lit (.bool false)], args := [d1, d2] }
  | _ => none }
def HashOwnWrongFalsely : Prop := hashOwnRow.holds Try.pinned (OpenSpec.ofChange hashOwnWrong)

/-- 'manglelaw2.HashSeeds': WHATEVER THE INPUT: true; the input reads as it did. -/
def hashSeedsSpec : ChangeSpec := { name := "hashSeeds", fn := fun _ => fun
  | [d1, d2, d3] => { results := [.lit (.bool true)], args := [d1, d2, d3] }
  | _ => none }
def hashSeedsRow : OpenClaim := { program := "ytdhfepalphpabaa", sum := "3a0d57ad98b0db9073fa67620193e6a0a50f260146181f7e033ac869c434ad1a", func := "mangle/manglelaw2.HashSeeds", spec := "hashSeeds", apart := false }
def HashSeedsSaid : Prop := hashSeedsRow.holds Try.pinned (OpenSpec.ofChange hashSeedsSpec)

/-- ITS FALSE NEIGHBOUR: 'it returns false'. Refute it at one input. -/
def hashSeedsWrong : ChangeSpec := { name := "hashSeeds", fn := fun _ => fun
  | [d1, d2, d3] => { results := [.lit (.bool false)], args := [d1, d2, d3] }
  | _ => none }
def HashSeedsWrongFalsely : Prop := hashSeedsRow.holds Try.pinned (OpenSpec.ofChange hashSeedsWrong)

/-- 'manglelaw2.HashEmpty': WHATEVER THE INPUT: true; the input reads as it did. -/
def hashEmptySpec : ChangeSpec := { name := "hashEmpty", fn := fun _ => fun
  | [d] => { results := [.lit (.bool true)], args := [d] }
  | _ => none }
def hashEmptyRow : OpenClaim := { program := "ytdhfepalphpabaa", sum := "3a0d57ad98b0db9073fa67620193e6a0a50f260146181f7e033ac869c434ad1a", func := "mangle/manglelaw2.HashEmpty", spec := "hashEmpty", apart := false }
def HashEmptySaid : Prop := hashEmptyRow.holds Try.pinned (OpenSpec.ofChange hashEmptySpec)

/-- ITS FALSE NEIGHBOUR: 'it returns false'. Refute it at one input. -/
def hashEmptyWrong : ChangeSpec := { name := "hashEmpty", fn := fun _ => fun
  | [d] => { results := [.lit (.bool false)], args := [d] }
  | _ => none }
def HashEmptyWrongFalsely : Prop := hashEmptyRow.holds Try.pinned (OpenSpec.ofChange hashEmptyWrong)

/-- 'manglelaw2.HashFour': WHATEVER THE INPUT: true; the input reads as it did. -/
def hashFourSpec : ChangeSpec := { name := "hashFour", fn := fun _ => fun
  | [d1, d2] => { results := [.lit (.bool true)], args := [d1, d2] }
  | _ => none }
def hashFourRow : OpenClaim := { program := "ytdhfepalphpabaa", sum := "3a0d57ad98b0db9073fa67620193e6a0a50f260146181f7e033ac869c434ad1a", func := "mangle/manglelaw2.HashFour", spec := "hashFour", apart := false }
def HashFourSaid : Prop := hashFourRow.holds Try.pinned (OpenSpec.ofChange hashFourSpec)

/-- ITS FALSE NEIGHBOUR: 'it returns false'. Refute it at one input. -/
def hashFourWrong : ChangeSpec := { name := "hashFour", fn := fun _ => fun
  | [d1, d2] => { results := [.lit (.bool false)], args := [d1, d2] }
  | _ => none }
def HashFourWrongFalsely : Prop := hashFourRow.holds Try.pinned (OpenSpec.ofChange hashFourWrong)

/- THE SECOND FORM. 'bulk': how many values and letters a reading holds, each counted each time it is reached (what is shared counts as often as it is met; a slice's spare places count too). A statement '..UptoSaid' is the law's where the arguments, and the package variables that the reading takes, are together of bulk at most 1048576: NARROWER than '..Said'. Prove '..Said' where nothing that the law and all that it calls make is longer than what came in: it says more and counts as full. Else prove '..UptoSaid'. A law counts once. -/
mutual
def uptoBulk {H : Type} : DataW H → Nat
  | .lit (.string bytes) => bytes.length + 1
  | .lit _ => 1
  | .nil => 1
  | .ptr d => uptoBulk d + 1
  | .slice elems spare => uptoBulkAll elems + uptoBulkAll spare + 1
  | .agg parts => uptoBulkAll parts + 1
  | .iface _ d => uptoBulk d + 1
  | .map entries => uptoBulkEntries entries + 1
  | .held _ => 1
def uptoBulkAll {H : Type} : List (DataW H) → Nat
  | [] => 0
  | d :: r => uptoBulk d + uptoBulkAll r
def uptoBulkEntries {H : Type} : List (Lit × DataW H) → Nat
  | [] => 0
  | x :: r => uptoBulkEntry x + uptoBulkEntries r
def uptoBulkEntry {H : Type} : Lit × DataW H → Nat
  | (.string bytes, d) => bytes.length + uptoBulk d + 1
  | (_, d) => uptoBulk d + 1
 end
def uptoSmall : (H : Type) → List (DataW H) → Bool := fun _ ds => decide (uptoBulkAll ds ≤ 1048576)
def OpenSpec.upto (s : _root_.Go.ChangeSpec) : _root_.Go.OpenSpec := { _root_.Go.OpenSpec.ofChange s with cond := some uptoSmall }

/-- 'manglelaw2.HashSums', WHERE WHAT IT READS IS OF BULK AT MOST 1048576: true; the input reads as it did. -/
def hashSumsUptoRow : OpenClaim := { program := "ytdhfepalphpabaa", sum := "3a0d57ad98b0db9073fa67620193e6a0a50f260146181f7e033ac869c434ad1a", func := "mangle/manglelaw2.HashSums", spec := "hashSums", apart := false, narrowed := true }
def HashSumsUptoSaid : Prop := hashSumsUptoRow.holds Try.pinned (OpenSpec.upto hashSumsSpec)

/-- 'manglelaw2.HashRows', WHERE WHAT IT READS IS OF BULK AT MOST 1048576: true; the input reads as it did. -/
def hashRowsUptoRow : OpenClaim := { program := "ytdhfepalphpabaa", sum := "3a0d57ad98b0db9073fa67620193e6a0a50f260146181f7e033ac869c434ad1a", func := "mangle/manglelaw2.HashRows", spec := "hashRows", apart := false, narrowed := true }
def HashRowsUptoSaid : Prop := hashRowsUptoRow.holds Try.pinned (OpenSpec.upto hashRowsSpec)

/-- 'manglelaw2.HashLong', WHERE WHAT IT READS IS OF BULK AT MOST 1048576: true; the input reads as it did. -/
def hashLongUptoRow : OpenClaim := { program := "ytdhfepalphpabaa", sum := "3a0d57ad98b0db9073fa67620193e6a0a50f260146181f7e033ac869c434ad1a", func := "mangle/manglelaw2.HashLong", spec := "hashLong", apart := false, narrowed := true }
def HashLongUptoSaid : Prop := hashLongUptoRow.holds Try.pinned (OpenSpec.upto hashLongSpec)

/-- 'manglelaw2.HashShort', WHERE WHAT IT READS IS OF BULK AT MOST 1048576: true; the input reads as it did. -/
def hashShortUptoRow : OpenClaim := { program := "ytdhfepalphpabaa", sum := "3a0d57ad98b0db9073fa67620193e6a0a50f260146181f7e033ac869c434ad1a", func := "mangle/manglelaw2.HashShort", spec := "hashShort", apart := false, narrowed := true }
def HashShortUptoSaid : Prop := hashShortUptoRow.holds Try.pinned (OpenSpec.upto hashShortSpec)

/-- 'manglelaw2.HashOwn', WHERE WHAT IT READS IS OF BULK AT MOST 1048576: true; the input reads as it did. -/
def hashOwnUptoRow : OpenClaim := { program := "ytdhfepalphpabaa", sum := "3a0d57ad98b0db9073fa67620193e6a0a50f260146181f7e033ac869c434ad1a", func := "mangle/manglelaw2.HashOwn", spec := "hashOwn", apart := false, narrowed := true }
def HashOwnUptoSaid : Prop := hashOwnUptoRow.holds Try.pinned (OpenSpec.upto hashOwnSpec)

/-- 'manglelaw2.HashSeeds', WHERE WHAT IT READS IS OF BULK AT MOST 1048576: true; the input reads as it did. -/
def hashSeedsUptoRow : OpenClaim := { program := "ytdhfepalphpabaa", sum := "3a0d57ad98b0db9073fa67620193e6a0a50f260146181f7e033ac869c434ad1a", func := "mangle/manglelaw2.HashSeeds", spec := "hashSeeds", apart := false, narrowed := true }
def HashSeedsUptoSaid : Prop := hashSeedsUptoRow.holds Try.pinned (OpenSpec.upto hashSeedsSpec)

/-- 'manglelaw2.HashEmpty', WHERE WHAT IT READS IS OF BULK AT MOST 1048576: true; the input reads as it did. -/
def hashEmptyUptoRow : OpenClaim := { program := "ytdhfepalphpabaa", sum := "3a0d57ad98b0db9073fa67620193e6a0a50f260146181f7e033ac869c434ad1a", func := "mangle/manglelaw2.HashEmpty", spec := "hashEmpty", apart := false, narrowed := true }
def HashEmptyUptoSaid : Prop := hashEmptyUptoRow.holds Try.pinned (OpenSpec.upto hashEmptySpec)

/-- 'manglelaw2.HashFour', WHERE WHAT IT READS IS OF BULK AT MOST 1048576: true; the input reads as it did. -/
def hashFourUptoRow : OpenClaim := { program := "ytdhfepalphpabaa", sum := "3a0d57ad98b0db9073fa67620193e6a0a50f260146181f7e033ac869c434ad1a", func := "mangle/manglelaw2.HashFour", spec := "hashFour", apart := false, narrowed := true }
def HashFourUptoSaid : Prop := hashFourUptoRow.holds Try.pinned (OpenSpec.upto hashFourSpec)

end Rows
end Go.Proofs.Ytdhfepalphpabaa
