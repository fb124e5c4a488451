/- match: plain facts on the best place and on the steps. -/
import Derived.Test.YtmhmbepohcapnaaH
namespace Go.Proofs.Ytmhmbepohcapnaa
open Go.RowKit Go.WideShapes
set_option linter.unusedVariables false

theorem bestF_is (z : Nat → Int) (n i depth : Nat) : ∀ j at_ most seen, j ≤ i → (most = 0 ∨ (4 ≤ most ∧ at_ < i ∧ most = lcp z n at_ i)) →
    (bestF z n i depth j at_ most seen).2 = 0 ∨ (4 ≤ (bestF z n i depth j at_ most seen).2 ∧ (bestF z n i depth j at_ most seen).1 < i ∧ (bestF z n i depth j at_ most seen).2 = lcp z n (bestF z n i depth j at_ most seen).1 i)
  | 0, at_, most, seen, _, h => h
  | j + 1, at_, most, seen, hj, h => by
    unfold bestF
    split
    · exact h
    · split
      · exact bestF_is z n i depth j at_ most seen (by omega) h
      · split
        · exact bestF_is z n i depth j j _ _ (by omega) (.inr ⟨by omega, by omega, rfl⟩)
        · exact bestF_is z n i depth j at_ most _ (by omega) h
theorem best_is (z : Nat → Int) (n i depth : Nat) : (best z n i depth).2 = 0 ∨ (4 ≤ (best z n i depth).2 ∧ (best z n i depth).1 < i ∧ (best z n i depth).2 = lcp z n (best z n i depth).1 i) :=
  bestF_is z n i depth i 0 0 0 (Nat.le_refl _) (.inl rfl)

/-- Steps that are long enough and reach back no further than there is something, from place at on; what they say is so. -/
def okSteps (z : Nat → Int) (n : Nat) : Nat → List (Int × Int × Int) → Prop
  | at_, [] => at_ ≤ n
  | at_, p :: r => ∃ L O M : Nat, p = ((L : Int), (O : Int), (M : Int)) ∧ 4 ≤ M ∧ at_ + L + M ≤ n ∧ 1 ≤ O ∧ O ≤ at_ + L ∧ (∀ t, t < M → z (at_ + L - O + t) = z (at_ + L + t)) ∧ okSteps z n (at_ + L + M) r
theorem parseF_ok (z : Nat → Int) (n depth : Nat) : ∀ f lit at_, lit ≤ at_ → at_ ≤ n → okSteps z n (at_ - lit) (parseF z n depth f lit at_)
  | 0, lit, at_, h, h2 => by show at_ - lit ≤ n; omega
  | f + 1, lit, at_, h, h2 => by
    unfold parseF
    split
    · show at_ - lit ≤ n; omega
    · split
      · have := parseF_ok z n depth f (lit + 1) (at_ + 1) (by omega) (by omega)
        rwa [show at_ + 1 - (lit + 1) = at_ - lit by omega] at this
      · rename_i h0 hne
        obtain ⟨hb1, hb2⟩ := best_le z n at_ depth
        rcases best_is z n at_ depth with e | ⟨e1, e2, e3⟩
        · exact absurd e hne
        · have hs : ∀ t, t < (best z n at_ depth).2 → z ((best z n at_ depth).1 + t) = z (at_ + t) := fun t ht =>
            lcp_same z (n - at_) (best z n at_ depth).1 at_ t (by have h3 : (best z n at_ depth).2 = lcpA z (n - at_) (best z n at_ depth).1 at_ := e3; omega)
          refine ⟨lit, at_ - (best z n at_ depth).1, (best z n at_ depth).2, ?_, e1, by omega, by omega, by omega, fun t ht => ?_, ?_⟩
          · unfold offOf
            rw [if_neg hne]
            congr 2
            omega
          · have := hs t ht
            rw [show at_ - lit + lit - (at_ - (best z n at_ depth).1) + t = (best z n at_ depth).1 + t by omega, show at_ - lit + lit + t = at_ + t by omega]
            exact this
          · have := parseF_ok z n depth f 0 (at_ + (best z n at_ depth).2) (by omega) (by omega)
            rw [show at_ - lit + lit + (best z n at_ depth).2 = at_ + (best z n at_ depth).2 - 0 by omega]
            exact this
theorem parse_ok (z : Nat → Int) (n p depth : Nat) (h : p ≤ n) : okSteps z n p (parse z n p depth) := by
  have := parseF_ok z n depth (n - p) 0 p (by omega) h
  rwa [Nat.sub_zero] at this

theorem parseF_length (z : Nat → Int) (n depth : Nat) : ∀ f lit at_, (parseF z n depth f lit at_).length ≤ f
  | 0, _, _ => Nat.le_refl _
  | f + 1, lit, at_ => by
    unfold parseF
    split
    · simp
    · split
      · have := parseF_length z n depth f (lit + 1) (at_ + 1); omega
      · have := parseF_length z n depth f 0 (at_ + (best z n at_ depth).2)
        simp; omega
theorem parse_len (z : Nat → Int) (n p depth : Nat) : (parse z n p depth).length ≤ n := Nat.le_trans (parseF_length z n depth _ _ _) (by omega)
end Go.Proofs.Ytmhmbepohcapnaa
