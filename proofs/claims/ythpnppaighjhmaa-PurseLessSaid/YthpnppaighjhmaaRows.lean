/-
  No cell of these rows narrows 'for every input' (looked for: loops, veiled, ifaces, maps, wideKeys, modest, calm, conditions, laid).
  DERIVED. THE GIVEN ROWS OF THIS SEAT. 7 by the template 'for every input the law returns true; each argument reads behind the call as it read before'; 0 by the template 'total and deterministic' (their statements: YthpnppaighjhmaaTotals.lean).
  GIVEN WITH THE SEED: the statements are not yours to turn. If you find one false, say at which input.
  Laid BY PROGRAM, IN A SANDBOX (cutbox-rows.mjs): the forced cells as the released guide's own fill.sh prints them over the translation 3ab5bff8fe051c40… (all of the seat's roots in one cut). By AI agents, Wed Nov 11 2026. No macro, syntax, notation, axiom, sorry.
-/
import Derived.Test.YthpnppaighjhmaaChecked
import GoSem.Claim
import GoSem.ClaimJoined
import GoSem.ClaimMapViews
import Derived.JoinedTies
import Derived.KernelRfl
namespace Go.Proofs.Ythpnppaighjhmaa
/- THE CELL 'sum', in the pinned program and in every row, IS THE sha256 OF THE DUMP (.gsa) THAT YthpnppaighjhmaaProg.lean LOADS. Nothing in Lean hashes anything: it is a label: what it is worth is what the hold of that sum in a sandbox is worth. -/
noncomputable def Try.pinned : Pinned := { name := "ythpnppaighjhmaa", sum := "3ab5bff8fe051c40483e5fbe290096538bbc7afe0303b1821910006012059c08", checked := Try.checked }
namespace Rows
def none {H : Type} : Left H := { results := [], args := [] }

/-- 'manglelaw11.PurseAll': WHATEVER THE INPUT: true; the input reads as it did. -/
def purseAllSpec : ChangeSpec := { name := "purseAll", fn := fun _ => fun
  | [d1, d2] => { results := [.lit (.bool true)], args := [d1, d2] }
  | _ => none }
def purseAllRow : OpenClaim := { program := "ythpnppaighjhmaa", sum := "3ab5bff8fe051c40483e5fbe290096538bbc7afe0303b1821910006012059c08", func := "mangle/manglelaw11.PurseAll", spec := "purseAll", apart := false }
def PurseAllSaid : Prop := purseAllRow.holds Try.pinned (OpenSpec.ofChange purseAllSpec)

/-- ITS FALSE NEIGHBOUR: 'it returns false'. Refute it at one input. -/
def purseAllWrong : ChangeSpec := { name := "purseAll", fn := fun _ => fun
  | [d1, d2] => { results := [.lit (.bool false)], args := [d1, d2] }
  | _ => none }
def PurseAllWrongFalsely : Prop := purseAllRow.holds Try.pinned (OpenSpec.ofChange purseAllWrong)

/-- 'manglelaw11.PursePlays': WHATEVER THE INPUT: true; the input reads as it did. -/
def pursePlaysSpec : ChangeSpec := { name := "pursePlays", fn := fun _ => fun
  | [d1, d2, d3] => { results := [.lit (.bool true)], args := [d1, d2, d3] }
  | _ => none }
def pursePlaysRow : OpenClaim := { program := "ythpnppaighjhmaa", sum := "3ab5bff8fe051c40483e5fbe290096538bbc7afe0303b1821910006012059c08", func := "mangle/manglelaw11.PursePlays", spec := "pursePlays", apart := false }
def PursePlaysSaid : Prop := pursePlaysRow.holds Try.pinned (OpenSpec.ofChange pursePlaysSpec)

/-- ITS FALSE NEIGHBOUR: 'it returns false'. Refute it at one input. -/
def pursePlaysWrong : ChangeSpec := { name := "pursePlays", fn := fun _ => fun
  | [d1, d2, d3] => { results := [.lit (.bool false)], args := [d1, d2, d3] }
  | _ => none }
def PursePlaysWrongFalsely : Prop := pursePlaysRow.holds Try.pinned (OpenSpec.ofChange pursePlaysWrong)

/-- 'manglelaw11.PurseBounds': WHATEVER THE INPUT: true; the input reads as it did. -/
def purseBoundsSpec : ChangeSpec := { name := "purseBounds", fn := fun _ => fun
  | [d1, d2, d3] => { results := [.lit (.bool true)], args := [d1, d2, d3] }
  | _ => none }
def purseBoundsRow : OpenClaim := { program := "ythpnppaighjhmaa", sum := "3ab5bff8fe051c40483e5fbe290096538bbc7afe0303b1821910006012059c08", func := "mangle/manglelaw11.PurseBounds", spec := "purseBounds", apart := false }
def PurseBoundsSaid : Prop := purseBoundsRow.holds Try.pinned (OpenSpec.ofChange purseBoundsSpec)

/-- ITS FALSE NEIGHBOUR: 'it returns false'. Refute it at one input. -/
def purseBoundsWrong : ChangeSpec := { name := "purseBounds", fn := fun _ => fun
  | [d1, d2, d3] => { results := [.lit (.bool false)], args := [d1, d2, d3] }
  | _ => none }
def PurseBoundsWrongFalsely : Prop := purseBoundsRow.holds Try.pinned (OpenSpec.ofChange purseBoundsWrong)

/-- 'manglelaw11.PurseBack': WHATEVER THE INPUT: true; the input reads as it did. -/
def purseBackSpec : ChangeSpec := { name := "purseBack", fn := fun _ => fun
  | [d1, d2, d3] => { results := [.lit (.bool true)], args := [d1, d2, d3] }
  | _ => none }
def purseBackRow : OpenClaim := { program := "ythpnppaighjhmaa", sum := "3ab5bff8fe051c40483e5fbe290096538bbc7afe0303b1821910006012059c08", func := "mangle/manglelaw11.PurseBack", spec := "purseBack", apart := false }
def PurseBackSaid : Prop := purseBackRow.holds Try.pinned (OpenSpec.ofChange purseBackSpec)

/-- ITS FALSE NEIGHBOUR: 'it returns false'. Refute it at one input. -/
def purseBackWrong : ChangeSpec := { name := "purseBack", fn := fun _ => fun
  | [d1, d2, d3] => { results := [.lit (.bool false)], args := [d1, d2, d3] }
  | _ => none }
def PurseBackWrongFalsely : Prop := purseBackRow.holds Try.pinned (OpenSpec.ofChange purseBackWrong)

/-- 'manglelaw11.PurseOfNothing': WHATEVER THE INPUT: true; the input reads as it did. -/
def purseOfNothingSpec : ChangeSpec := { name := "purseOfNothing", fn := fun _ => fun
  | [d1, d2] => { results := [.lit (.bool true)], args := [d1, d2] }
  | _ => none }
def purseOfNothingRow : OpenClaim := { program := "ythpnppaighjhmaa", sum := "3ab5bff8fe051c40483e5fbe290096538bbc7afe0303b1821910006012059c08", func := "mangle/manglelaw11.PurseOfNothing", spec := "purseOfNothing", apart := false }
def PurseOfNothingSaid : Prop := purseOfNothingRow.holds Try.pinned (OpenSpec.ofChange purseOfNothingSpec)

/-- ITS FALSE NEIGHBOUR: 'it returns false'. Refute it at one input. -/
def purseOfNothingWrong : ChangeSpec := { name := "purseOfNothing", fn := fun _ => fun
  | [d1, d2] => { results := [.lit (.bool false)], args := [d1, d2] }
  | _ => none }
def PurseOfNothingWrongFalsely : Prop := purseOfNothingRow.holds Try.pinned (OpenSpec.ofChange purseOfNothingWrong)

/-- 'manglelaw11.PurseOdd': WHATEVER THE INPUT: true; the input reads as it did. -/
def purseOddSpec : ChangeSpec := { name := "purseOdd", fn := fun _ => fun
  | [d1, d2] => { results := [.lit (.bool true)], args := [d1, d2] }
  | _ => none }
def purseOddRow : OpenClaim := { program := "ythpnppaighjhmaa", sum := "3ab5bff8fe051c40483e5fbe290096538bbc7afe0303b1821910006012059c08", func := "mangle/manglelaw11.PurseOdd", spec := "purseOdd", apart := false }
def PurseOddSaid : Prop := purseOddRow.holds Try.pinned (OpenSpec.ofChange purseOddSpec)

/-- ITS FALSE NEIGHBOUR: 'it returns false'. Refute it at one input. -/
def purseOddWrong : ChangeSpec := { name := "purseOdd", fn := fun _ => fun
  | [d1, d2] => { results := [.lit (.bool false)], args := [d1, d2] }
  | _ => none }
def PurseOddWrongFalsely : Prop := purseOddRow.holds Try.pinned (OpenSpec.ofChange purseOddWrong)

/-- 'manglelaw11.PurseLess': WHATEVER THE INPUT: true; the input reads as it did. -/
def purseLessSpec : ChangeSpec := { name := "purseLess", fn := fun _ => fun
  | [d1, d2, d3, d4] => { results := [.lit (.bool true)], args := [d1, d2, d3, d4] }
  | _ => none }
def purseLessRow : OpenClaim := { program := "ythpnppaighjhmaa", sum := "3ab5bff8fe051c40483e5fbe290096538bbc7afe0303b1821910006012059c08", func := "mangle/manglelaw11.PurseLess", spec := "purseLess", apart := false }
def PurseLessSaid : Prop := purseLessRow.holds Try.pinned (OpenSpec.ofChange purseLessSpec)

/-- ITS FALSE NEIGHBOUR: 'it returns false'. Refute it at one input. -/
def purseLessWrong : ChangeSpec := { name := "purseLess", fn := fun _ => fun
  | [d1, d2, d3, d4] => { results := [.lit (.bool false)], args := [d1, d2, d3, d4] }
  | _ => none }
def PurseLessWrongFalsely : Prop := purseLessRow.holds Try.pinned (OpenSpec.ofChange purseLessWrong)

/- THE SECOND FORM. 'bulk': how many values and letters a reading holds, each counted each time it is reached (what is shared counts as often as it is met; a slice's spare places count too). A statement '..UptoSaid' is the law's where the arguments, and the package variables that the reading takes, are together of bulk at most 1048576: NARROWER than '..Said'. Prove '..Said' where nothing that the law and all that it calls make is longer than what came in: it says more and counts as full. Else prove '..UptoSaid'. A law counts once. -/
mutual
def uptoBulk {H : Type} : DataW H → Nat
  | .lit (.string bytes) => bytes.length + 1
  | .lit _ => 1
  | .nil => 1
  | .ptr d => uptoBulk d + 1
  | .slice elems spare => uptoBulkAll elems + uptoBulkAll spare + 1
  | .agg parts => uptoBulkAll parts + 1
  | .iface _ d => uptoBulk d + 1
  | .map entries => uptoBulkEntries entries + 1
  | .held _ => 1
def uptoBulkAll {H : Type} : List (DataW H) → Nat
  | [] => 0
  | d :: r => uptoBulk d + uptoBulkAll r
def uptoBulkEntries {H : Type} : List (Lit × DataW H) → Nat
  | [] => 0
  | x :: r => uptoBulkEntry x + uptoBulkEntries r
def uptoBulkEntry {H : Type} : Lit × DataW H → Nat
  | (.string bytes, d) => bytes.length + uptoBulk d + 1
  | (_, d) => uptoBulk d + 1
 end
def uptoSmall : (H : Type) → List (DataW H) → Bool := fun _ ds => decide (uptoBulkAll ds ≤ 1048576)
def OpenSpec.upto (s : _root_.Go.ChangeSpec) : _root_.Go.OpenSpec := { _root_.Go.OpenSpec.ofChange s with cond := some uptoSmall }

/-- 'manglelaw11.PurseAll', WHERE WHAT IT READS IS OF BULK AT MOST 1048576: true; the input reads as it did. -/
def purseAllUptoRow : OpenClaim := { program := "ythpnppaighjhmaa", sum := "3ab5bff8fe051c40483e5fbe290096538bbc7afe0303b1821910006012059c08", func := "mangle/manglelaw11.PurseAll", spec := "purseAll", apart := false, narrowed := true }
def PurseAllUptoSaid : Prop := purseAllUptoRow.holds Try.pinned (OpenSpec.upto purseAllSpec)

/-- 'manglelaw11.PursePlays', WHERE WHAT IT READS IS OF BULK AT MOST 1048576: true; the input reads as it did. -/
def pursePlaysUptoRow : OpenClaim := { program := "ythpnppaighjhmaa", sum := "3ab5bff8fe051c40483e5fbe290096538bbc7afe0303b1821910006012059c08", func := "mangle/manglelaw11.PursePlays", spec := "pursePlays", apart := false, narrowed := true }
def PursePlaysUptoSaid : Prop := pursePlaysUptoRow.holds Try.pinned (OpenSpec.upto pursePlaysSpec)

/-- 'manglelaw11.PurseBounds', WHERE WHAT IT READS IS OF BULK AT MOST 1048576: true; the input reads as it did. -/
def purseBoundsUptoRow : OpenClaim := { program := "ythpnppaighjhmaa", sum := "3ab5bff8fe051c40483e5fbe290096538bbc7afe0303b1821910006012059c08", func := "mangle/manglelaw11.PurseBounds", spec := "purseBounds", apart := false, narrowed := true }
def PurseBoundsUptoSaid : Prop := purseBoundsUptoRow.holds Try.pinned (OpenSpec.upto purseBoundsSpec)

/-- 'manglelaw11.PurseBack', WHERE WHAT IT READS IS OF BULK AT MOST 1048576: true; the input reads as it did. -/
def purseBackUptoRow : OpenClaim := { program := "ythpnppaighjhmaa", sum := "3ab5bff8fe051c40483e5fbe290096538bbc7afe0303b1821910006012059c08", func := "mangle/manglelaw11.PurseBack", spec := "purseBack", apart := false, narrowed := true }
def PurseBackUptoSaid : Prop := purseBackUptoRow.holds Try.pinned (OpenSpec.upto purseBackSpec)

/-- 'manglelaw11.PurseOfNothing', WHERE WHAT IT READS IS OF BULK AT MOST 1048576: true; the input reads as it did. -/
def purseOfNothingUptoRow : OpenClaim := { program := "ythpnppaighjhmaa", sum := "3ab5bff8fe051c40483e5fbe290096538bbc7afe0303b1821910006012059c08", func := "mangle/manglelaw11.PurseOfNothing", spec := "purseOfNothing", apart := false, narrowed := true }
def PurseOfNothingUptoSaid : Prop := purseOfNothingUptoRow.holds Try.pinned (OpenSpec.upto purseOfNothingSpec)

/-- 'manglelaw11.PurseOdd', WHERE WHAT IT READS IS OF BULK AT MOST 1048576: true; the input reads as it did. -/
def purseOddUptoRow : OpenClaim := { program := "ythpnppaighjhmaa", sum := "3ab5bff8fe051c40483e5fbe290096538bbc7afe0303b1821910006012059c08", func := "mangle/manglelaw11.PurseOdd", spec := "purseOdd", apart := false, narrowed := true }
def PurseOddUptoSaid : Prop := purseOddUptoRow.holds Try.pinned (OpenSpec.upto purseOddSpec)

/-- 'manglelaw11.PurseLess', WHERE WHAT IT READS IS OF BULK AT MOST 1048576: true; the input reads as it did. -/
def purseLessUptoRow : OpenClaim := { program := "ythpnppaighjhmaa", sum := "3ab5bff8fe051c40483e5fbe290096538bbc7afe0303b1821910006012059c08", func := "mangle/manglelaw11.PurseLess", spec := "purseLess", apart := false, narrowed := true }
def PurseLessUptoSaid : Prop := purseLessUptoRow.holds Try.pinned (OpenSpec.upto purseLessSpec)

end Rows
end Go.Proofs.Ythpnppaighjhmaa
