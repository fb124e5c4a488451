/-
  No cell of these rows narrows 'for every input' (looked for: loops, veiled, ifaces, maps, wideKeys, modest, calm, conditions, laid).
  DERIVED. THE GIVEN ROWS OF THIS SEAT. 11 by the template 'for every input the law returns true; each argument reads behind the call as it read before'; 0 by the template 'total and deterministic' (their statements: YtmhmbepohcapnaaTotals.lean).
  GIVEN WITH THE SEED: the statements are not yours to turn. If you find one false, say at which input.
  Laid BY PROGRAM, IN A SANDBOX (cutbox-rows.mjs): the forced cells as the released guide's own fill.sh prints them over the translation 88a8f6d994f9685c… (all of the seat's roots in one cut). By AI agents, Wed Nov 11 2026. No macro, syntax, notation, axiom, sorry.
-/
import Derived.Test.YtmhmbepohcapnaaChecked
import GoSem.Claim
import GoSem.ClaimJoined
import GoSem.ClaimMapViews
import Derived.JoinedTies
import Derived.KernelRfl
namespace Go.Proofs.Ytmhmbepohcapnaa
/- THE CELL 'sum', in the pinned program and in every row, IS THE sha256 OF THE DUMP (.gsa) THAT YtmhmbepohcapnaaProg.lean LOADS. Nothing in Lean hashes anything: it is a label: what it is worth is what the hold of that sum in a sandbox is worth. -/
noncomputable def Try.pinned : Pinned := { name := "ytmhmbepohcapnaa", sum := "88a8f6d994f9685c3c5690c7db452d19e3af921099d57d47eaf67c4b428843d8", checked := Try.checked }
namespace Rows
def none {H : Type} : Left H := { results := [], args := [] }

/-- 'manglelaw5.MatchParses': WHATEVER THE INPUT: true; the input reads as it did. -/
def matchParsesSpec : ChangeSpec := { name := "matchParses", fn := fun _ => fun
  | [d1, d2, d3] => { results := [.lit (.bool true)], args := [d1, d2, d3] }
  | _ => none }
def matchParsesRow : OpenClaim := { program := "ytmhmbepohcapnaa", sum := "88a8f6d994f9685c3c5690c7db452d19e3af921099d57d47eaf67c4b428843d8", func := "mangle/manglelaw5.MatchParses", spec := "matchParses", apart := false }
def MatchParsesSaid : Prop := matchParsesRow.holds Try.pinned (OpenSpec.ofChange matchParsesSpec)

/-- ITS FALSE NEIGHBOUR: 'it returns false'. Refute it at one input. -/
def matchParsesWrong : ChangeSpec := { name := "matchParses", fn := fun _ => fun
  | [d1, d2, d3] => { results := [.lit (.bool false)], args := [d1, d2, d3] }
  | _ => none }
def MatchParsesWrongFalsely : Prop := matchParsesRow.holds Try.pinned (OpenSpec.ofChange matchParsesWrong)

/-- 'manglelaw5.MatchSteps': WHATEVER THE INPUT: true; the input reads as it did. -/
def matchStepsSpec : ChangeSpec := { name := "matchSteps", fn := fun _ => fun
  | [d1, d2, d3] => { results := [.lit (.bool true)], args := [d1, d2, d3] }
  | _ => none }
def matchStepsRow : OpenClaim := { program := "ytmhmbepohcapnaa", sum := "88a8f6d994f9685c3c5690c7db452d19e3af921099d57d47eaf67c4b428843d8", func := "mangle/manglelaw5.MatchSteps", spec := "matchSteps", apart := false }
def MatchStepsSaid : Prop := matchStepsRow.holds Try.pinned (OpenSpec.ofChange matchStepsSpec)

/-- ITS FALSE NEIGHBOUR: 'it returns false'. Refute it at one input. -/
def matchStepsWrong : ChangeSpec := { name := "matchSteps", fn := fun _ => fun
  | [d1, d2, d3] => { results := [.lit (.bool false)], args := [d1, d2, d3] }
  | _ => none }
def MatchStepsWrongFalsely : Prop := matchStepsRow.holds Try.pinned (OpenSpec.ofChange matchStepsWrong)

/-- 'manglelaw5.MatchRun': WHATEVER THE INPUT: true; the input reads as it did. -/
def matchRunSpec : ChangeSpec := { name := "matchRun", fn := fun _ => fun
  | [d1, d2, d3] => { results := [.lit (.bool true)], args := [d1, d2, d3] }
  | _ => none }
def matchRunRow : OpenClaim := { program := "ytmhmbepohcapnaa", sum := "88a8f6d994f9685c3c5690c7db452d19e3af921099d57d47eaf67c4b428843d8", func := "mangle/manglelaw5.MatchRun", spec := "matchRun", apart := false }
def MatchRunSaid : Prop := matchRunRow.holds Try.pinned (OpenSpec.ofChange matchRunSpec)

/-- ITS FALSE NEIGHBOUR: 'it returns false'. Refute it at one input. -/
def matchRunWrong : ChangeSpec := { name := "matchRun", fn := fun _ => fun
  | [d1, d2, d3] => { results := [.lit (.bool false)], args := [d1, d2, d3] }
  | _ => none }
def MatchRunWrongFalsely : Prop := matchRunRow.holds Try.pinned (OpenSpec.ofChange matchRunWrong)

/-- 'manglelaw5.MatchPrefix': WHATEVER THE INPUT: true; the input reads as it did. -/
def matchPrefixSpec : ChangeSpec := { name := "matchPrefix", fn := fun _ => fun
  | [d1, d2] => { results := [.lit (.bool true)], args := [d1, d2] }
  | _ => none }
def matchPrefixRow : OpenClaim := { program := "ytmhmbepohcapnaa", sum := "88a8f6d994f9685c3c5690c7db452d19e3af921099d57d47eaf67c4b428843d8", func := "mangle/manglelaw5.MatchPrefix", spec := "matchPrefix", apart := false }
def MatchPrefixSaid : Prop := matchPrefixRow.holds Try.pinned (OpenSpec.ofChange matchPrefixSpec)

/-- ITS FALSE NEIGHBOUR: 'it returns false'. Refute it at one input. -/
def matchPrefixWrong : ChangeSpec := { name := "matchPrefix", fn := fun _ => fun
  | [d1, d2] => { results := [.lit (.bool false)], args := [d1, d2] }
  | _ => none }
def MatchPrefixWrongFalsely : Prop := matchPrefixRow.holds Try.pinned (OpenSpec.ofChange matchPrefixWrong)

/-- 'manglelaw5.MatchDeep': WHATEVER THE INPUT: true; the input reads as it did. -/
def matchDeepSpec : ChangeSpec := { name := "matchDeep", fn := fun _ => fun
  | [d1, d2, d3, d4] => { results := [.lit (.bool true)], args := [d1, d2, d3, d4] }
  | _ => none }
def matchDeepRow : OpenClaim := { program := "ytmhmbepohcapnaa", sum := "88a8f6d994f9685c3c5690c7db452d19e3af921099d57d47eaf67c4b428843d8", func := "mangle/manglelaw5.MatchDeep", spec := "matchDeep", apart := false }
def MatchDeepSaid : Prop := matchDeepRow.holds Try.pinned (OpenSpec.ofChange matchDeepSpec)

/-- ITS FALSE NEIGHBOUR: 'it returns false'. Refute it at one input. -/
def matchDeepWrong : ChangeSpec := { name := "matchDeep", fn := fun _ => fun
  | [d1, d2, d3, d4] => { results := [.lit (.bool false)], args := [d1, d2, d3, d4] }
  | _ => none }
def MatchDeepWrongFalsely : Prop := matchDeepRow.holds Try.pinned (OpenSpec.ofChange matchDeepWrong)

/-- 'manglelaw5.MatchNear': WHATEVER THE INPUT: true; the input reads as it did. -/
def matchNearSpec : ChangeSpec := { name := "matchNear", fn := fun _ => fun
  | [d1, d2] => { results := [.lit (.bool true)], args := [d1, d2] }
  | _ => none }
def matchNearRow : OpenClaim := { program := "ytmhmbepohcapnaa", sum := "88a8f6d994f9685c3c5690c7db452d19e3af921099d57d47eaf67c4b428843d8", func := "mangle/manglelaw5.MatchNear", spec := "matchNear", apart := false }
def MatchNearSaid : Prop := matchNearRow.holds Try.pinned (OpenSpec.ofChange matchNearSpec)

/-- ITS FALSE NEIGHBOUR: 'it returns false'. Refute it at one input. -/
def matchNearWrong : ChangeSpec := { name := "matchNear", fn := fun _ => fun
  | [d1, d2] => { results := [.lit (.bool false)], args := [d1, d2] }
  | _ => none }
def MatchNearWrongFalsely : Prop := matchNearRow.holds Try.pinned (OpenSpec.ofChange matchNearWrong)

/-- 'manglelaw5.MatchNone': WHATEVER THE INPUT: true; the input reads as it did. -/
def matchNoneSpec : ChangeSpec := { name := "matchNone", fn := fun _ => fun
  | [d1, d2] => { results := [.lit (.bool true)], args := [d1, d2] }
  | _ => none }
def matchNoneRow : OpenClaim := { program := "ytmhmbepohcapnaa", sum := "88a8f6d994f9685c3c5690c7db452d19e3af921099d57d47eaf67c4b428843d8", func := "mangle/manglelaw5.MatchNone", spec := "matchNone", apart := false }
def MatchNoneSaid : Prop := matchNoneRow.holds Try.pinned (OpenSpec.ofChange matchNoneSpec)

/-- ITS FALSE NEIGHBOUR: 'it returns false'. Refute it at one input. -/
def matchNoneWrong : ChangeSpec := { name := "matchNone", fn := fun _ => fun
  | [d1, d2] => { results := [.lit (.bool false)], args := [d1, d2] }
  | _ => none }
def MatchNoneWrongFalsely : Prop := matchNoneRow.holds Try.pinned (OpenSpec.ofChange matchNoneWrong)

/-- 'manglelaw5.MatchOdd': WHATEVER THE INPUT: true; the input reads as it did. -/
def matchOddSpec : ChangeSpec := { name := "matchOdd", fn := fun _ => fun
  | [d] => { results := [.lit (.bool true)], args := [d] }
  | _ => none }
def matchOddRow : OpenClaim := { program := "ytmhmbepohcapnaa", sum := "88a8f6d994f9685c3c5690c7db452d19e3af921099d57d47eaf67c4b428843d8", func := "mangle/manglelaw5.MatchOdd", spec := "matchOdd", apart := false }
def MatchOddSaid : Prop := matchOddRow.holds Try.pinned (OpenSpec.ofChange matchOddSpec)

/-- ITS FALSE NEIGHBOUR: 'it returns false'. Refute it at one input. -/
def matchOddWrong : ChangeSpec := { name := "matchOdd", fn := fun _ => fun
  | [d] => { results := [.lit (.bool false)], args := [d] }
  | _ => none }
def MatchOddWrongFalsely : Prop := matchOddRow.holds Try.pinned (OpenSpec.ofChange matchOddWrong)

/-- 'manglelaw5.MatchMost': WHATEVER THE INPUT: true; the input reads as it did. -/
def matchMostSpec : ChangeSpec := { name := "matchMost", fn := fun _ => fun
  | [d1, d2] => { results := [.lit (.bool true)], args := [d1, d2] }
  | _ => none }
def matchMostRow : OpenClaim := { program := "ytmhmbepohcapnaa", sum := "88a8f6d994f9685c3c5690c7db452d19e3af921099d57d47eaf67c4b428843d8", func := "mangle/manglelaw5.MatchMost", spec := "matchMost", apart := false }
def MatchMostSaid : Prop := matchMostRow.holds Try.pinned (OpenSpec.ofChange matchMostSpec)

/-- ITS FALSE NEIGHBOUR: 'it returns false'. Refute it at one input. -/
def matchMostWrong : ChangeSpec := { name := "matchMost", fn := fun _ => fun
  | [d1, d2] => { results := [.lit (.bool false)], args := [d1, d2] }
  | _ => none }
def MatchMostWrongFalsely : Prop := matchMostRow.holds Try.pinned (OpenSpec.ofChange matchMostWrong)

/-- 'manglelaw5.MatchBack': WHATEVER THE INPUT: true; the input reads as it did. -/
def matchBackSpec : ChangeSpec := { name := "matchBack", fn := fun _ => fun
  | [d1, d2, d3] => { results := [.lit (.bool true)], args := [d1, d2, d3] }
  | _ => none }
def matchBackRow : OpenClaim := { program := "ytmhmbepohcapnaa", sum := "88a8f6d994f9685c3c5690c7db452d19e3af921099d57d47eaf67c4b428843d8", func := "mangle/manglelaw5.MatchBack", spec := "matchBack", apart := false }
def MatchBackSaid : Prop := matchBackRow.holds Try.pinned (OpenSpec.ofChange matchBackSpec)

/-- ITS FALSE NEIGHBOUR: 'it returns false'. Refute it at one input. -/
def matchBackWrong : ChangeSpec := { name := "matchBack", fn := fun _ => fun
  | [d1, d2, d3] => { results := [.lit (.bool false)], args := [d1, d2, d3] }
  | _ => none }
def MatchBackWrongFalsely : Prop := matchBackRow.holds Try.pinned (OpenSpec.ofChange matchBackWrong)

/-- 'manglelaw5.MatchOwn': WHATEVER THE INPUT: true; the input reads as it did. -/
def matchOwnSpec : ChangeSpec := { name := "matchOwn", fn := fun _ => fun
  | [d1, d2] => { results := [.lit (.bool true)], args := [d1, d2] }
  | _ => none }
def matchOwnRow : OpenClaim := { program := "ytmhmbepohcapnaa", sum := "88a8f6d994f9685c3c5690c7db452d19e3af921099d57d47eaf67c4b428843d8", func := "mangle/manglelaw5.MatchOwn", spec := "matchOwn", apart := false }
def MatchOwnSaid : Prop := matchOwnRow.holds Try.pinned (OpenSpec.ofChange matchOwnSpec)

/-- ITS FALSE NEIGHBOUR: 'it returns false'. Refute it at one input. -/
def matchOwnWrong : ChangeSpec := { name := "matchOwn", fn := fun _ => fun
  | [d1, d2] => { results := [.lit (.bool false)], args := [d1, d2] }
  | _ => none }
def MatchOwnWrongFalsely : Prop := matchOwnRow.holds Try.pinned (OpenSpec.ofChange matchOwnWrong)

/- THE SECOND FORM. 'bulk': how many values and letters a reading holds, each counted each time it is reached (what is shared counts as often as it is met; a slice's spare places count too). A statement '..UptoSaid' is the law's where the arguments, and the package variables that the reading takes, are together of bulk at most 1048576: NARROWER than '..Said'. Prove '..Said' where nothing that the law and all that it calls make is longer than what came in: it says more and counts as full. Else prove '..UptoSaid'. A law counts once. -/
mutual
def uptoBulk {H : Type} : DataW H → Nat
  | .lit (.string bytes) => bytes.length + 1
  | .lit _ => 1
  | .nil => 1
  | .ptr d => uptoBulk d + 1
  | .slice elems spare => uptoBulkAll elems + uptoBulkAll spare + 1
  | .agg parts => uptoBulkAll parts + 1
  | .iface _ d => uptoBulk d + 1
  | .map entries => uptoBulkEntries entries + 1
  | .held _ => 1
def uptoBulkAll {H : Type} : List (DataW H) → Nat
  | [] => 0
  | d :: r => uptoBulk d + uptoBulkAll r
def uptoBulkEntries {H : Type} : List (Lit × DataW H) → Nat
  | [] => 0
  | x :: r => uptoBulkEntry x + uptoBulkEntries r
def uptoBulkEntry {H : Type} : Lit × DataW H → Nat
  | (.string bytes, d) => bytes.length + uptoBulk d + 1
  | (_, d) => uptoBulk d + 1
 end
def uptoSmall : (H : Type) → List (DataW H) → Bool := fun _ ds => decide (uptoBulkAll ds ≤ 1048576)
def OpenSpec.upto (s : _root_.Go.ChangeSpec) : _root_.Go.OpenSpec := { _root_.Go.OpenSpec.ofChange s with cond := some uptoSmall }

/-- 'manglelaw5.MatchParses', WHERE WHAT IT READS IS OF BULK AT MOST 1048576: true; the input reads as it did. -/
def matchParsesUptoRow : OpenClaim := { program := "ytmhmbepohcapnaa", sum := "88a8f6d994f9685c3c5690c7db452d19e3af921099d57d47eaf67c4b428843d8", func := "mangle/manglelaw5.MatchParses", spec := "matchParses", apart := false, narrowed := true }
def MatchParsesUptoSaid : Prop := matchParsesUptoRow.holds Try.pinned (OpenSpec.upto matchParsesSpec)

/-- 'manglelaw5.MatchSteps', WHERE WHAT IT READS IS OF BULK AT MOST 1048576: true; the input reads as it did. -/
def matchStepsUptoRow : OpenClaim := { program := "ytmhmbepohcapnaa", sum := "88a8f6d994f9685c3c5690c7db452d19e3af921099d57d47eaf67c4b428843d8", func := "mangle/manglelaw5.MatchSteps", spec := "matchSteps", apart := false, narrowed := true }
def MatchStepsUptoSaid : Prop := matchStepsUptoRow.holds Try.pinned (OpenSpec.upto matchStepsSpec)

/-- 'manglelaw5.MatchRun', WHERE WHAT IT READS IS OF BULK AT MOST 1048576: true; the input reads as it did. -/
def matchRunUptoRow : OpenClaim := { program := "ytmhmbepohcapnaa", sum := "88a8f6d994f9685c3c5690c7db452d19e3af921099d57d47eaf67c4b428843d8", func := "mangle/manglelaw5.MatchRun", spec := "matchRun", apart := false, narrowed := true }
def MatchRunUptoSaid : Prop := matchRunUptoRow.holds Try.pinned (OpenSpec.upto matchRunSpec)

/-- 'manglelaw5.MatchPrefix', WHERE WHAT IT READS IS OF BULK AT MOST 1048576: true; the input reads as it did. -/
def matchPrefixUptoRow : OpenClaim := { program := "ytmhmbepohcapnaa", sum := "88a8f6d994f9685c3c5690c7db452d19e3af921099d57d47eaf67c4b428843d8", func := "mangle/manglelaw5.MatchPrefix", spec := "matchPrefix", apart := false, narrowed := true }
def MatchPrefixUptoSaid : Prop := matchPrefixUptoRow.holds Try.pinned (OpenSpec.upto matchPrefixSpec)

/-- 'manglelaw5.MatchDeep', WHERE WHAT IT READS IS OF BULK AT MOST 1048576: true; the input reads as it did. -/
def matchDeepUptoRow : OpenClaim := { program := "ytmhmbepohcapnaa", sum := "88a8f6d994f9685c3c5690c7db452d19e3af921099d57d47eaf67c4b428843d8", func := "mangle/manglelaw5.MatchDeep", spec := "matchDeep", apart := false, narrowed := true }
def MatchDeepUptoSaid : Prop := matchDeepUptoRow.holds Try.pinned (OpenSpec.upto matchDeepSpec)

/-- 'manglelaw5.MatchNear', WHERE WHAT IT READS IS OF BULK AT MOST 1048576: true; the input reads as it did. -/
def matchNearUptoRow : OpenClaim := { program := "ytmhmbepohcapnaa", sum := "88a8f6d994f9685c3c5690c7db452d19e3af921099d57d47eaf67c4b428843d8", func := "mangle/manglelaw5.MatchNear", spec := "matchNear", apart := false, narrowed := true }
def MatchNearUptoSaid : Prop := matchNearUptoRow.holds Try.pinned (OpenSpec.upto matchNearSpec)

/-- 'manglelaw5.MatchNone', WHERE WHAT IT READS IS OF BULK AT MOST 1048576: true; the input reads as it did. -/
def matchNoneUptoRow : OpenClaim := { program := "ytmhmbepohcapnaa", sum := "88a8f6d994f9685c3c5690c7db452d19e3af921099d57d47eaf67c4b428843d8", func := "mangle/manglelaw5.MatchNone", spec := "matchNone", apart := false, narrowed := true }
def MatchNoneUptoSaid : Prop := matchNoneUptoRow.holds Try.pinned (OpenSpec.upto matchNoneSpec)

/-- 'manglelaw5.MatchOdd', WHERE WHAT IT READS IS OF BULK AT MOST 1048576: true; the input reads as it did. -/
def matchOddUptoRow : OpenClaim := { program := "ytmhmbepohcapnaa", sum := "88a8f6d994f9685c3c5690c7db452d19e3af921099d57d47eaf67c4b428843d8", func := "mangle/manglelaw5.MatchOdd", spec := "matchOdd", apart := false, narrowed := true }
def MatchOddUptoSaid : Prop := matchOddUptoRow.holds Try.pinned (OpenSpec.upto matchOddSpec)

/-- 'manglelaw5.MatchMost', WHERE WHAT IT READS IS OF BULK AT MOST 1048576: true; the input reads as it did. -/
def matchMostUptoRow : OpenClaim := { program := "ytmhmbepohcapnaa", sum := "88a8f6d994f9685c3c5690c7db452d19e3af921099d57d47eaf67c4b428843d8", func := "mangle/manglelaw5.MatchMost", spec := "matchMost", apart := false, narrowed := true }
def MatchMostUptoSaid : Prop := matchMostUptoRow.holds Try.pinned (OpenSpec.upto matchMostSpec)

/-- 'manglelaw5.MatchBack', WHERE WHAT IT READS IS OF BULK AT MOST 1048576: true; the input reads as it did. -/
def matchBackUptoRow : OpenClaim := { program := "ytmhmbepohcapnaa", sum := "88a8f6d994f9685c3c5690c7db452d19e3af921099d57d47eaf67c4b428843d8", func := "mangle/manglelaw5.MatchBack", spec := "matchBack", apart := false, narrowed := true }
def MatchBackUptoSaid : Prop := matchBackUptoRow.holds Try.pinned (OpenSpec.upto matchBackSpec)

/-- 'manglelaw5.MatchOwn', WHERE WHAT IT READS IS OF BULK AT MOST 1048576: true; the input reads as it did. -/
def matchOwnUptoRow : OpenClaim := { program := "ytmhmbepohcapnaa", sum := "88a8f6d994f9685c3c5690c7db452d19e3af921099d57d47eaf67c4b428843d8", func := "mangle/manglelaw5.MatchOwn", spec := "matchOwn", apart := false, narrowed := true }
def MatchOwnUptoSaid : Prop := matchOwnUptoRow.holds Try.pinned (OpenSpec.upto matchOwnSpec)

end Rows
end Go.Proofs.Ytmhmbepohcapnaa
