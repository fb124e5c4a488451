/-
  No cell of these rows narrows 'for every input' (looked for: loops, veiled, ifaces, maps, wideKeys, modest, calm, conditions, laid).
  DERIVED. THE GIVEN ROWS OF THIS SEAT. 11 by the template 'for every input the law returns true; each argument reads behind the call as it read before'; 0 by the template 'total and deterministic' (their statements: YtefkeofbhjmahaaTotals.lean).
  GIVEN WITH THE SEED: the statements are not yours to turn. If you find one false, say at which input.
  Laid BY PROGRAM, IN A SANDBOX (cutbox-rows.mjs): the forced cells as the released guide's own fill.sh prints them over the translation 46774cb262994214… (all of the seat's roots in one cut). By AI agents, Wed Nov 11 2026. No macro, syntax, notation, axiom, sorry.
-/
import Derived.Test.YtefkeofbhjmahaaChecked
import GoSem.Claim
import GoSem.ClaimJoined
import GoSem.ClaimMapViews
import Derived.JoinedTies
import Derived.KernelRfl
namespace Go.Proofs.Ytefkeofbhjmahaa
/- THE CELL 'sum', in the pinned program and in every row, IS THE sha256 OF THE DUMP (.gsa) THAT YtefkeofbhjmahaaProg.lean LOADS. Nothing in Lean hashes anything: it is a label: what it is worth is what the hold of that sum in a sandbox is worth. -/
noncomputable def Try.pinned : Pinned := { name := "ytefkeofbhjmahaa", sum := "46774cb2629942143b25c9c4a812b7722afc6cb7e60db50240628c0bf4bf05bd", checked := Try.checked }
namespace Rows
def none {H : Type} : Left H := { results := [], args := [] }

/-- 'manglelaw1.BitsPuts': WHATEVER THE INPUT: true; the input reads as it did. -/
def bitsPutsSpec : ChangeSpec := { name := "bitsPuts", fn := fun _ => fun
  | [d] => { results := [.lit (.bool true)], args := [d] }
  | _ => none }
def bitsPutsRow : OpenClaim := { program := "ytefkeofbhjmahaa", sum := "46774cb2629942143b25c9c4a812b7722afc6cb7e60db50240628c0bf4bf05bd", func := "mangle/manglelaw1.BitsPuts", spec := "bitsPuts", apart := false }
def BitsPutsSaid : Prop := bitsPutsRow.holds Try.pinned (OpenSpec.ofChange bitsPutsSpec)

/-- ITS FALSE NEIGHBOUR: 'it returns false'. Refute it at one input. -/
def bitsPutsWrong : ChangeSpec := { name := "bitsPuts", fn := fun _ => fun
  | [d] => { results := [.lit (.bool false)], args := [d] }
  | _ => none }
def BitsPutsWrongFalsely : Prop := bitsPutsRow.holds Try.pinned (OpenSpec.ofChange bitsPutsWrong)

/-- 'manglelaw1.BitsBounds': WHATEVER THE INPUT: true; the input reads as it did. -/
def bitsBoundsSpec : ChangeSpec := { name := "bitsBounds", fn := fun _ => fun
  | [d1, d2] => { results := [.lit (.bool true)], args := [d1, d2] }
  | _ => none }
def bitsBoundsRow : OpenClaim := { program := "ytefkeofbhjmahaa", sum := "46774cb2629942143b25c9c4a812b7722afc6cb7e60db50240628c0bf4bf05bd", func := "mangle/manglelaw1.BitsBounds", spec := "bitsBounds", apart := false }
def BitsBoundsSaid : Prop := bitsBoundsRow.holds Try.pinned (OpenSpec.ofChange bitsBoundsSpec)

/-- ITS FALSE NEIGHBOUR: 'it returns false'. Refute it at one input. -/
def bitsBoundsWrong : ChangeSpec := { name := "bitsBounds", fn := fun _ => fun
  | [d1, d2] => { results := [.lit (.bool false)], args := [d1, d2] }
  | _ => none }
def BitsBoundsWrongFalsely : Prop := bitsBoundsRow.holds Try.pinned (OpenSpec.ofChange bitsBoundsWrong)

/-- 'manglelaw1.BitsLong': WHATEVER THE INPUT: true; the input reads as it did. -/
def bitsLongSpec : ChangeSpec := { name := "bitsLong", fn := fun _ => fun
  | [d] => { results := [.lit (.bool true)], args := [d] }
  | _ => none }
def bitsLongRow : OpenClaim := { program := "ytefkeofbhjmahaa", sum := "46774cb2629942143b25c9c4a812b7722afc6cb7e60db50240628c0bf4bf05bd", func := "mangle/manglelaw1.BitsLong", spec := "bitsLong", apart := false }
def BitsLongSaid : Prop := bitsLongRow.holds Try.pinned (OpenSpec.ofChange bitsLongSpec)

/-- ITS FALSE NEIGHBOUR: 'it returns false'. Refute it at one input. -/
def bitsLongWrong : ChangeSpec := { name := "bitsLong", fn := fun _ => fun
  | [d] => { results := [.lit (.bool false)], args := [d] }
  | _ => none }
def BitsLongWrongFalsely : Prop := bitsLongRow.holds Try.pinned (OpenSpec.ofChange bitsLongWrong)

/-- 'manglelaw1.BitsEnds': WHATEVER THE INPUT: true; the input reads as it did. -/
def bitsEndsSpec : ChangeSpec := { name := "bitsEnds", fn := fun _ => fun
  | [d1, d2] => { results := [.lit (.bool true)], args := [d1, d2] }
  | _ => none }
def bitsEndsRow : OpenClaim := { program := "ytefkeofbhjmahaa", sum := "46774cb2629942143b25c9c4a812b7722afc6cb7e60db50240628c0bf4bf05bd", func := "mangle/manglelaw1.BitsEnds", spec := "bitsEnds", apart := false }
def BitsEndsSaid : Prop := bitsEndsRow.holds Try.pinned (OpenSpec.ofChange bitsEndsSpec)

/-- ITS FALSE NEIGHBOUR: 'it returns false'. Refute it at one input. -/
def bitsEndsWrong : ChangeSpec := { name := "bitsEnds", fn := fun _ => fun
  | [d1, d2] => { results := [.lit (.bool false)], args := [d1, d2] }
  | _ => none }
def BitsEndsWrongFalsely : Prop := bitsEndsRow.holds Try.pinned (OpenSpec.ofChange bitsEndsWrong)

/-- 'manglelaw1.BitsOfNothing': WHATEVER THE INPUT: true; the input reads as it did. -/
def bitsOfNothingSpec : ChangeSpec := { name := "bitsOfNothing", fn := fun _ => fun
  | [d1, d2] => { results := [.lit (.bool true)], args := [d1, d2] }
  | _ => none }
def bitsOfNothingRow : OpenClaim := { program := "ytefkeofbhjmahaa", sum := "46774cb2629942143b25c9c4a812b7722afc6cb7e60db50240628c0bf4bf05bd", func := "mangle/manglelaw1.BitsOfNothing", spec := "bitsOfNothing", apart := false }
def BitsOfNothingSaid : Prop := bitsOfNothingRow.holds Try.pinned (OpenSpec.ofChange bitsOfNothingSpec)

/-- ITS FALSE NEIGHBOUR: 'it returns false'. Refute it at one input. -/
def bitsOfNothingWrong : ChangeSpec := { name := "bitsOfNothing", fn := fun _ => fun
  | [d1, d2] => { results := [.lit (.bool false)], args := [d1, d2] }
  | _ => none }
def BitsOfNothingWrongFalsely : Prop := bitsOfNothingRow.holds Try.pinned (OpenSpec.ofChange bitsOfNothingWrong)

/-- 'manglelaw1.BitsJoin': WHATEVER THE INPUT: true; the input reads as it did. -/
def bitsJoinSpec : ChangeSpec := { name := "bitsJoin", fn := fun _ => fun
  | [d1, d2] => { results := [.lit (.bool true)], args := [d1, d2] }
  | _ => none }
def bitsJoinRow : OpenClaim := { program := "ytefkeofbhjmahaa", sum := "46774cb2629942143b25c9c4a812b7722afc6cb7e60db50240628c0bf4bf05bd", func := "mangle/manglelaw1.BitsJoin", spec := "bitsJoin", apart := false }
def BitsJoinSaid : Prop := bitsJoinRow.holds Try.pinned (OpenSpec.ofChange bitsJoinSpec)

/-- ITS FALSE NEIGHBOUR: 'it returns false'. Refute it at one input. -/
def bitsJoinWrong : ChangeSpec := { name := "bitsJoin", fn := fun _ => fun
  | [d1, d2] => { results := [.lit (.bool false)], args := [d1, d2] }
  | _ => none }
def BitsJoinWrongFalsely : Prop := bitsJoinRow.holds Try.pinned (OpenSpec.ofChange bitsJoinWrong)

/-- 'manglelaw1.BitsOwn': WHATEVER THE INPUT: true; the input reads as it did. -/
def bitsOwnSpec : ChangeSpec := { name := "bitsOwn", fn := fun _ => fun
  | [d1, d2] => { results := [.lit (.bool true)], args := [d1, d2] }
  | _ => none }
def bitsOwnRow : OpenClaim := { program := "ytefkeofbhjmahaa", sum := "46774cb2629942143b25c9c4a812b7722afc6cb7e60db50240628c0bf4bf05bd", func := "mangle/manglelaw1.BitsOwn", spec := "bitsOwn", apart := false }
def BitsOwnSaid : Prop := bitsOwnRow.holds Try.pinned (OpenSpec.ofChange bitsOwnSpec)

/-- ITS FALSE NEIGHBOUR: 'it returns false'. Refute it at one input. -/
def bitsOwnWrong : ChangeSpec := { name := "bitsOwn", fn := fun _ => fun
  | [d1, d2] => { results := [.lit (.bool false)], args := [d1, d2] }
  | _ => none }
def BitsOwnWrongFalsely : Prop := bitsOwnRow.holds Try.pinned (OpenSpec.ofChange bitsOwnWrong)

/-- 'manglelaw1.BitsTakes': WHATEVER THE INPUT: true; the input reads as it did. -/
def bitsTakesSpec : ChangeSpec := { name := "bitsTakes", fn := fun _ => fun
  | [d1, d2] => { results := [.lit (.bool true)], args := [d1, d2] }
  | _ => none }
def bitsTakesRow : OpenClaim := { program := "ytefkeofbhjmahaa", sum := "46774cb2629942143b25c9c4a812b7722afc6cb7e60db50240628c0bf4bf05bd", func := "mangle/manglelaw1.BitsTakes", spec := "bitsTakes", apart := false }
def BitsTakesSaid : Prop := bitsTakesRow.holds Try.pinned (OpenSpec.ofChange bitsTakesSpec)

/-- ITS FALSE NEIGHBOUR: 'it returns false'. Refute it at one input. -/
def bitsTakesWrong : ChangeSpec := { name := "bitsTakes", fn := fun _ => fun
  | [d1, d2] => { results := [.lit (.bool false)], args := [d1, d2] }
  | _ => none }
def BitsTakesWrongFalsely : Prop := bitsTakesRow.holds Try.pinned (OpenSpec.ofChange bitsTakesWrong)

/-- 'manglelaw1.BitsBack': WHATEVER THE INPUT: true; the input reads as it did. -/
def bitsBackSpec : ChangeSpec := { name := "bitsBack", fn := fun _ => fun
  | [d] => { results := [.lit (.bool true)], args := [d] }
  | _ => none }
def bitsBackRow : OpenClaim := { program := "ytefkeofbhjmahaa", sum := "46774cb2629942143b25c9c4a812b7722afc6cb7e60db50240628c0bf4bf05bd", func := "mangle/manglelaw1.BitsBack", spec := "bitsBack", apart := false }
def BitsBackSaid : Prop := bitsBackRow.holds Try.pinned (OpenSpec.ofChange bitsBackSpec)

/-- ITS FALSE NEIGHBOUR: 'it returns false'. Refute it at one input. -/
def bitsBackWrong : ChangeSpec := { name := "bitsBack", fn := fun _ => fun
  | [d] => { results := [.lit (.bool false)], args := [d] }
  | _ => none }
def BitsBackWrongFalsely : Prop := bitsBackRow.holds Try.pinned (OpenSpec.ofChange bitsBackWrong)

/-- 'manglelaw1.BitsShort': WHATEVER THE INPUT: true; the input reads as it did. -/
def bitsShortSpec : ChangeSpec := { name := "bitsShort", fn := fun _ => fun
  | [d1, d2] => { results := [.lit (.bool true)], args := [d1, d2] }
  | _ => none }
def bitsShortRow : OpenClaim := { program := "ytefkeofbhjmahaa", sum := "46774cb2629942143b25c9c4a812b7722afc6cb7e60db50240628c0bf4bf05bd", func := "mangle/manglelaw1.BitsShort", spec := "bitsShort", apart := false }
def BitsShortSaid : Prop := bitsShortRow.holds Try.pinned (OpenSpec.ofChange bitsShortSpec)

/-- ITS FALSE NEIGHBOUR: 'it returns false'. Refute it at one input. -/
def bitsShortWrong : ChangeSpec := { name := "bitsShort", fn := fun _ => fun
  | [d1, d2] => { results := [.lit (.bool false)], args := [d1, d2] }
  | _ => none }
def BitsShortWrongFalsely : Prop := bitsShortRow.holds Try.pinned (OpenSpec.ofChange bitsShortWrong)

/-- 'manglelaw1.BitsMixed': WHATEVER THE INPUT: true; the input reads as it did. -/
def bitsMixedSpec : ChangeSpec := { name := "bitsMixed", fn := fun _ => fun
  | [d1, d2] => { results := [.lit (.bool true)], args := [d1, d2] }
  | _ => none }
def bitsMixedRow : OpenClaim := { program := "ytefkeofbhjmahaa", sum := "46774cb2629942143b25c9c4a812b7722afc6cb7e60db50240628c0bf4bf05bd", func := "mangle/manglelaw1.BitsMixed", spec := "bitsMixed", apart := false }
def BitsMixedSaid : Prop := bitsMixedRow.holds Try.pinned (OpenSpec.ofChange bitsMixedSpec)

/-- ITS FALSE NEIGHBOUR: 'it returns false'. Refute it at one input. -/
def bitsMixedWrong : ChangeSpec := { name := "bitsMixed", fn := fun _ => fun
  | [d1, d2] => { results := [.lit (.bool false)], args := [d1, d2] }
  | _ => none }
def BitsMixedWrongFalsely : Prop := bitsMixedRow.holds Try.pinned (OpenSpec.ofChange bitsMixedWrong)

/- THE SECOND FORM. 'bulk': how many values and letters a reading holds, each counted each time it is reached (what is shared counts as often as it is met; a slice's spare places count too). A statement '..UptoSaid' is the law's where the arguments, and the package variables that the reading takes, are together of bulk at most 1048576: NARROWER than '..Said'. Prove '..Said' where nothing that the law and all that it calls make is longer than what came in: it says more and counts as full. Else prove '..UptoSaid'. A law counts once. -/
mutual
def uptoBulk {H : Type} : DataW H → Nat
  | .lit (.string bytes) => bytes.length + 1
  | .lit _ => 1
  | .nil => 1
  | .ptr d => uptoBulk d + 1
  | .slice elems spare => uptoBulkAll elems + uptoBulkAll spare + 1
  | .agg parts => uptoBulkAll parts + 1
  | .iface _ d => uptoBulk d + 1
  | .map entries => uptoBulkEntries entries + 1
  | .held _ => 1
def uptoBulkAll {H : Type} : List (DataW H) → Nat
  | [] => 0
  | d :: r => uptoBulk d + uptoBulkAll r
def uptoBulkEntries {H : Type} : List (Lit × DataW H) → Nat
  | [] => 0
  | x :: r => uptoBulkEntry x + uptoBulkEntries r
def uptoBulkEntry {H : Type} : Lit × DataW H → Nat
  | (.string bytes, d) => bytes.length + uptoBulk d + 1
  | (_, d) => uptoBulk d + 1
 end
def uptoSmall : (H : Type) → List (DataW H) → Bool := fun _ ds => decide (uptoBulkAll ds ≤ 1048576)
def OpenSpec.upto (s : _root_.Go.ChangeSpec) : _root_.Go.OpenSpec := { _root_.Go.OpenSpec.ofChange s with cond := some uptoSmall }

/-- 'manglelaw1.BitsPuts', WHERE WHAT IT READS IS OF BULK AT MOST 1048576: true; the input reads as it did. -/
def bitsPutsUptoRow : OpenClaim := { program := "ytefkeofbhjmahaa", sum := "46774cb2629942143b25c9c4a812b7722afc6cb7e60db50240628c0bf4bf05bd", func := "mangle/manglelaw1.BitsPuts", spec := "bitsPuts", apart := false, narrowed := true }
def BitsPutsUptoSaid : Prop := bitsPutsUptoRow.holds Try.pinned (OpenSpec.upto bitsPutsSpec)

/-- 'manglelaw1.BitsBounds', WHERE WHAT IT READS IS OF BULK AT MOST 1048576: true; the input reads as it did. -/
def bitsBoundsUptoRow : OpenClaim := { program := "ytefkeofbhjmahaa", sum := "46774cb2629942143b25c9c4a812b7722afc6cb7e60db50240628c0bf4bf05bd", func := "mangle/manglelaw1.BitsBounds", spec := "bitsBounds", apart := false, narrowed := true }
def BitsBoundsUptoSaid : Prop := bitsBoundsUptoRow.holds Try.pinned (OpenSpec.upto bitsBoundsSpec)

/-- 'manglelaw1.BitsLong', WHERE WHAT IT READS IS OF BULK AT MOST 1048576: true; the input reads as it did. -/
def bitsLongUptoRow : OpenClaim := { program := "ytefkeofbhjmahaa", sum := "46774cb2629942143b25c9c4a812b7722afc6cb7e60db50240628c0bf4bf05bd", func := "mangle/manglelaw1.BitsLong", spec := "bitsLong", apart := false, narrowed := true }
def BitsLongUptoSaid : Prop := bitsLongUptoRow.holds Try.pinned (OpenSpec.upto bitsLongSpec)

/-- 'manglelaw1.BitsEnds', WHERE WHAT IT READS IS OF BULK AT MOST 1048576: true; the input reads as it did. -/
def bitsEndsUptoRow : OpenClaim := { program := "ytefkeofbhjmahaa", sum := "46774cb2629942143b25c9c4a812b7722afc6cb7e60db50240628c0bf4bf05bd", func := "mangle/manglelaw1.BitsEnds", spec := "bitsEnds", apart := false, narrowed := true }
def BitsEndsUptoSaid : Prop := bitsEndsUptoRow.holds Try.pinned (OpenSpec.upto bitsEndsSpec)

/-- 'manglelaw1.BitsOfNothing', WHERE WHAT IT READS IS OF BULK AT MOST 1048576: true; the input reads as it did. -/
def bitsOfNothingUptoRow : OpenClaim := { program := "ytefkeofbhjmahaa", sum := "46774cb2629942143b25c9c4a812b7722afc6cb7e60db50240628c0bf4bf05bd", func := "mangle/manglelaw1.BitsOfNothing", spec := "bitsOfNothing", apart := false, narrowed := true }
def BitsOfNothingUptoSaid : Prop := bitsOfNothingUptoRow.holds Try.pinned (OpenSpec.upto bitsOfNothingSpec)

/-- 'manglelaw1.BitsJoin', WHERE WHAT IT READS IS OF BULK AT MOST 1048576: true; the input reads as it did. -/
def bitsJoinUptoRow : OpenClaim := { program := "ytefkeofbhjmahaa", sum := "46774cb2629942143b25c9c4a812b7722afc6cb7e60db50240628c0bf4bf05bd", func := "mangle/manglelaw1.BitsJoin", spec := "bitsJoin", apart := false, narrowed := true }
def BitsJoinUptoSaid : Prop := bitsJoinUptoRow.holds Try.pinned (OpenSpec.upto bitsJoinSpec)

/-- 'manglelaw1.BitsOwn', WHERE WHAT IT READS IS OF BULK AT MOST 1048576: true; the input reads as it did. -/
def bitsOwnUptoRow : OpenClaim := { program := "ytefkeofbhjmahaa", sum := "46774cb2629942143b25c9c4a812b7722afc6cb7e60db50240628c0bf4bf05bd", func := "mangle/manglelaw1.BitsOwn", spec := "bitsOwn", apart := false, narrowed := true }
def BitsOwnUptoSaid : Prop := bitsOwnUptoRow.holds Try.pinned (OpenSpec.upto bitsOwnSpec)

/-- 'manglelaw1.BitsTakes', WHERE WHAT IT READS IS OF BULK AT MOST 1048576: true; the input reads as it did. -/
def bitsTakesUptoRow : OpenClaim := { program := "ytefkeofbhjmahaa", sum := "46774cb2629942143b25c9c4a812b7722afc6cb7e60db50240628c0bf4bf05bd", func := "mangle/manglelaw1.BitsTakes", spec := "bitsTakes", apart := false, narrowed := true }
def BitsTakesUptoSaid : Prop := bitsTakesUptoRow.holds Try.pinned (OpenSpec.upto bitsTakesSpec)

/-- 'manglelaw1.BitsBack', WHERE WHAT IT READS IS OF BULK AT MOST 1048576: true; the input reads as it did. -/
def bitsBackUptoRow : OpenClaim := { program := "ytefkeofbhjmahaa", sum := "46774cb2629942143b25c9c4a812b7722afc6cb7e60db50240628c0bf4bf05bd", func := "mangle/manglelaw1.BitsBack", spec := "bitsBack", apart := false, narrowed := true }
def BitsBackUptoSaid : Prop := bitsBackUptoRow.holds Try.pinned (OpenSpec.upto bitsBackSpec)

/-- 'manglelaw1.BitsShort', WHERE WHAT IT READS IS OF BULK AT MOST 1048576: true; the input reads as it did. -/
def bitsShortUptoRow : OpenClaim := { program := "ytefkeofbhjmahaa", sum := "46774cb2629942143b25c9c4a812b7722afc6cb7e60db50240628c0bf4bf05bd", func := "mangle/manglelaw1.BitsShort", spec := "bitsShort", apart := false, narrowed := true }
def BitsShortUptoSaid : Prop := bitsShortUptoRow.holds Try.pinned (OpenSpec.upto bitsShortSpec)

/-- 'manglelaw1.BitsMixed', WHERE WHAT IT READS IS OF BULK AT MOST 1048576: true; the input reads as it did. -/
def bitsMixedUptoRow : OpenClaim := { program := "ytefkeofbhjmahaa", sum := "46774cb2629942143b25c9c4a812b7722afc6cb7e60db50240628c0bf4bf05bd", func := "mangle/manglelaw1.BitsMixed", spec := "bitsMixed", apart := false, narrowed := true }
def BitsMixedUptoSaid : Prop := bitsMixedUptoRow.holds Try.pinned (OpenSpec.upto bitsMixedSpec)

end Rows
end Go.Proofs.Ytefkeofbhjmahaa
