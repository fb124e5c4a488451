/- The law MatchParses, walked. -/
import Derived.Test.YtmhmbepohcapnaaH
namespace Go.Proofs.Ytmhmbepohcapnaa
open Go.RowKit Go.WideShapes
set_option linter.unusedVariables false
set_option maxRecDepth 100000

theorem parseF_length (z : Nat → Int) (n depth : Nat) : ∀ f lit at_, (parseF z n depth f lit at_).length ≤ f
  | 0, _, _ => Nat.le_refl _
  | f + 1, lit, at_ => by
    unfold parseF
    split
    · simp
    · split
      · have := parseF_length z n depth f (lit + 1) (at_ + 1); omega
      · have := parseF_length z n depth f 0 (at_ + (best z n at_ depth).2)
        simp; omega
theorem parse_length (z : Nat → Int) (n p depth : Nat) : (parse z n p depth).length ≤ n := Nat.le_trans (parseF_length z n depth _ _ _) (by omega)

set_option maxHeartbeats 1000000 in
theorem MatchParses_in (w : World) (a0 : Option Addr) (b0 o0 l0 c0 : Nat) (z0 : Nat → Int) (w0 : IntsIn .u8 w a0 b0 o0 l0 c0 z0) (a1 : Option Addr) (b1 o1 l1 c1 : Nat) (z1 : Nat → Int) (w1 : IntsIn .u8 w a1 b1 o1 l1 c1 z1) (hl0 : l0 ≤ 300) (hl1 : l1 ≤ 300) (depth : Nat) (hd0 : 1 ≤ depth) (hd1 : depth ≤ 32) :
    Calls Try.prog 3 #[.slice a0 l0 c0, .slice a1 l1 c1, .int .i64 depth] w fun e w' => e = .returned (.bool true) ∧ Below w.heap.size w w' := by
  have q0 : decide ((300 : Int) < (l0 : Int)) = false := by simp; omega
  have q1 : decide ((300 : Int) < (l1 : Int)) = false := by simp; omega
  have q2 : decide ((depth : Int) < 1) = false := by simp; omega
  have q3 : decide ((32 : Int) < (depth : Int)) = false := by simp; omega
  have W0 := Lib.hid w0
  have W1 := Lib.hid w1
  clear w0 w1
  go_enter Try.func3, Try.ntmps3
  go_wp2_with fail
  refine (parse_walk _ _ _ _ l0 _ _ _ _ _ l1 _ _ (ints_of W0.out) (ints_of W1.out) depth (by omega) (by omega) hd0 (by omega)).mono ?_
  rintro e w2 ⟨v2, rfl, hs2⟩
  obtain ⟨ps, hps⟩ : ∃ ps, parse (two l0 z0 z1) (l0 + l1) l0 depth = ps := ⟨_, rfl⟩
  have hlen : ps.length ≤ 1000000 := by have := parse_length (two l0 z0 z1) (l0 + l1) l0 depth; rw [hps] at this; omega
  rw [hps] at hs2
  have Hps := Lib.hid hps
  have T2 := Lib.hid hs2.touch
  obtain ⟨xa, xb, xc, rfl, hr⟩ := recs_row hs2.row
  have R := Lib.hid hr
  clear hs2 hr hps
  go_wp2_with fail
  refine (ref_parse _ _ _ _ l0 _ _ _ _ _ l1 _ _ ((ints_of W0.out).touch T2.out) ((ints_of W1.out).touch T2.out) depth (by omega) (by omega) hd0 (by omega)).mono ?_
  rintro e w3 ⟨v3, rfl, hs3⟩
  rw [Hps.out] at hs3
  have T3 := Lib.hid hs3.touch
  obtain ⟨ya, yb, yc, rfl, hr⟩ := recs_row hs3.row
  have R3 := Lib.hid hr
  clear hs3 hr
  go_wp2_with fail
  refine (same_yes _ _ _ _ _ _ _ _ ps _ (R.out.touch T3.out) R3.out hlen).mono ?_
  rintro e w4 ⟨rfl, m, rfl⟩
  go_wp2_with fail
  refine (known_walk _).mono ?_
  rintro e w5 ⟨rfl, ht5⟩
  go_wp2_with fail
  go_ret
  exact ⟨rfl, (((T2.out.trans T3.out).drewN m).trans ht5).owned⟩

theorem MatchParses_law (w : World) (a0 : Option Addr) (b0 o0 l0 c0 : Nat) (z0 : Nat → Int) (w0 : IntsIn .u8 w a0 b0 o0 l0 c0 z0) (a1 : Option Addr) (b1 o1 l1 c1 : Nat) (z1 : Nat → Int) (w1 : IntsIn .u8 w a1 b1 o1 l1 c1 z1) (a2 : Int) (w2 : (Lit.int .i64 a2).wf = true) :
    Calls Try.prog 3 #[.slice a0 l0 c0, .slice a1 l1 c1, .int .i64 a2] w fun e w' => e = .returned (.bool true) ∧ Below w.heap.size w w' := by
  clear w2
  have hc : 300 < l0 ∨ (l0 ≤ 300 ∧ 300 < l1) ∨ (l0 ≤ 300 ∧ l1 ≤ 300 ∧ a2 < 1) ∨ (l0 ≤ 300 ∧ l1 ≤ 300 ∧ 1 ≤ a2 ∧ 32 < a2) ∨ (l0 ≤ 300 ∧ l1 ≤ 300 ∧ ∃ d : Nat, a2 = d ∧ 1 ≤ d ∧ d ≤ 32) := by
    by_cases h1 : 300 < l0
    · exact .inl h1
    by_cases h2 : 300 < l1
    · exact .inr (.inl ⟨by omega, h2⟩)
    by_cases h3 : a2 < 1
    · exact .inr (.inr (.inl ⟨by omega, by omega, h3⟩))
    by_cases h4 : 32 < a2
    · exact .inr (.inr (.inr (.inl ⟨by omega, by omega, by omega, h4⟩)))
    · exact .inr (.inr (.inr (.inr ⟨by omega, by omega, a2.toNat, by omega, by omega, by omega⟩)))
  rcases hc with h | ⟨h, h'⟩ | ⟨h, h', h1⟩ | ⟨h, h', h1, h2⟩ | ⟨h, h', d, rfl, h1, h2⟩
  rotate_left 4
  · exact MatchParses_in w a0 b0 o0 l0 c0 z0 w0 a1 b1 o1 l1 c1 z1 w1 h h' d h1 h2
  all_goals
    go_enter Try.func3, Try.ntmps3
    go_wp2_with fail
    go_ret
    exact ⟨rfl, Below.refl _ _⟩
end Go.Proofs.Ytmhmbepohcapnaa
