/- match: plain facts for the laws: any depth, one byte many times, a prefix' end, distinct bytes. -/
import Derived.Test.YtmhmbepohcapnaaK
namespace Go.Proofs.Ytmhmbepohcapnaa
open Go.RowKit Go.WideShapes
set_option linter.unusedVariables false

theorem bestF_ge (z : Nat → Int) (n i depth : Nat) : ∀ j at_ most seen, most ≤ (bestF z n i depth j at_ most seen).2
  | 0, at_, most, seen => Nat.le_refl _
  | j + 1, at_, most, seen => by
    unfold bestF
    split
    · exact Nat.le_refl _
    · split
      · exact bestF_ge z n i depth j at_ most seen
      · split
        · rename_i h; exact Nat.le_trans (Nat.le_of_lt h) (bestF_ge z n i depth j j _ _)
        · exact bestF_ge z n i depth j at_ most _
theorem bestF_zero (z : Nat → Int) (n i depth : Nat) (hd : 1 ≤ depth) : ∀ j at_, (bestF z n i depth j at_ 0 0).2 = 0 ↔ ∀ q, q < j → lcp z n q i < 4
  | 0, at_ => ⟨fun _ q hq => by omega, fun _ => rfl⟩
  | j + 1, at_ => by
    unfold bestF
    rw [if_neg (by omega)]
    split
    · rename_i h4
      rw [bestF_zero z n i depth hd j at_]
      refine ⟨fun h q hq => ?_, fun h q hq => h q (by omega)⟩
      by_cases e : q = j
      · subst e; exact h4
      · exact h q (by omega)
    · rename_i h4
      rw [if_pos (by omega)]
      have := bestF_ge z n i depth j j (lcp z n j i) (0 + 1)
      refine ⟨fun h => by omega, fun h => ?_⟩
      have := h j (by omega)
      omega
theorem best_zero (z : Nat → Int) (n i depth : Nat) (hd : 1 ≤ depth) : (best z n i depth).2 = 0 ↔ ∀ q, q < i → lcp z n q i < 4 := bestF_zero z n i depth hd i 0
theorem bestF_deep (z : Nat → Int) (n i a b : Nat) (h : a ≤ b) : ∀ j at_ most seen, (bestF z n i a j at_ most seen).2 ≤ (bestF z n i b j at_ most seen).2
  | 0, at_, most, seen => Nat.le_refl _
  | j + 1, at_, most, seen => by
    by_cases h1 : a ≤ seen
    · rw [bestF_full _ _ _ _ _ _ _ _ h1]
      exact bestF_ge z n i b (j + 1) at_ most seen
    · rw [bestF, bestF, if_neg h1, if_neg (by omega : ¬ b ≤ seen)]
      split
      · exact bestF_deep z n i a b h j at_ most seen
      · split
        · exact bestF_deep z n i a b h j j _ _
        · exact bestF_deep z n i a b h j at_ most _
theorem parseF_deep (z : Nat → Int) (n a b : Nat) (ha : 1 ≤ a) (h : a ≤ b) : ∀ f lit at_, (parseF z n a f lit at_ = [] ∧ parseF z n b f lit at_ = []) ∨
    ∃ L : Int, ∃ O O' : Int, ∃ M M' : Nat, ∃ r r', parseF z n a f lit at_ = (L, O, (M : Int)) :: r ∧ parseF z n b f lit at_ = (L, O', (M' : Int)) :: r' ∧ M ≤ M'
  | 0, lit, at_ => .inl ⟨rfl, rfl⟩
  | f + 1, lit, at_ => by
    by_cases h1 : n < at_ + 4
    · exact .inl ⟨parseF_end _ _ _ _ _ _ h1, parseF_end _ _ _ _ _ _ h1⟩
    · rw [parseF, parseF, if_neg h1, if_neg h1]
      by_cases h2 : (best z n at_ a).2 = 0
      · rw [if_pos h2, if_pos ((best_zero z n at_ b (by omega)).2 ((best_zero z n at_ a ha).1 h2))]
        exact parseF_deep z n a b ha h f _ _
      · have h3 : ¬ (best z n at_ b).2 = 0 := fun e => h2 ((best_zero z n at_ a ha).2 ((best_zero z n at_ b (by omega)).1 e))
        rw [if_neg h2, if_neg h3]
        exact .inr ⟨_, _, _, _, _, _, _, rfl, rfl, bestF_deep z n at_ a b h at_ 0 0 0⟩
theorem parse_deep (z : Nat → Int) (n p a b : Nat) (ha : 1 ≤ a) (h : a ≤ b) : (parse z n p a = [] ∧ parse z n p b = []) ∨
    ∃ L : Int, ∃ O O' : Int, ∃ M M' : Nat, ∃ r r', parse z n p a = (L, O, (M : Int)) :: r ∧ parse z n p b = (L, O', (M' : Int)) :: r' ∧ M ≤ M' := parseF_deep z n a b ha h _ _ _

theorem bestF_near (z : Nat → Int) (n i q : Nat) (hq : 4 ≤ lcp z n q i) : ∀ j at_, q < j → q ≤ (bestF z n i 1 j at_ 0 0).1 ∧ (bestF z n i 1 j at_ 0 0).1 < j ∧ 4 ≤ (bestF z n i 1 j at_ 0 0).2
  | 0, at_, h => by omega
  | j + 1, at_, h => by
    rw [bestF, if_neg (by omega)]
    split
    · have hne : q ≠ j := fun e => by subst e; omega
      obtain ⟨h1, h2, h3⟩ := bestF_near z n i q hq j at_ (by omega)
      exact ⟨h1, by omega, h3⟩
    · rw [if_pos (by omega), bestF_full _ _ _ _ _ _ _ _ (by omega)]
      exact ⟨by show q ≤ j; omega, by show j < j + 1; omega, by show 4 ≤ lcp z n j i; omega⟩

/-- One byte many times. -/
theorem run_lcp (z : Nat → Int) (n : Nat) (c : Int) (hz : ∀ i, i < n → z i = c) (j i : Nat) (hj : j < i) (hi : i ≤ n) : lcp z n j i = n - i :=
  lcp_end (by omega) fun t ht => by rw [hz _ (by omega), hz _ (by omega)]
theorem run_short (z : Nat → Int) (n depth : Nat) (hn : n < 5) : parse z n 0 depth = [] := by
  unfold parse
  by_cases h4 : n = 4
  · subst h4
    show parseF z 4 depth 4 0 0 = []
    rw [parseF, if_neg (by omega), if_pos (show (best z 4 0 depth).2 = 0 from rfl)]
    exact parseF_end _ _ _ _ _ _ (by omega)
  · exact parseF_end _ _ _ _ _ _ (by omega)
theorem run_long (z : Nat → Int) (n depth : Nat) (c : Int) (hz : ∀ i, i < n → z i = c) (hn : 5 ≤ n) (hd : 1 ≤ depth) : parse z n 0 depth = [(1, 1, ((n - 1 : Nat) : Int))] := by
  unfold parse
  obtain ⟨f, rfl⟩ : ∃ f, n = f + 2 := ⟨n - 2, by omega⟩
  have hb : best z (f + 2) 1 depth = (0, f + 1) := by
    unfold best
    rw [bestF, if_neg (by omega), run_lcp z (f + 2) c hz 0 1 (by omega) (by omega), if_neg (by omega), if_pos (by omega)]
    rfl
  show parseF z (f + 2) depth (f + 2) 0 0 = _
  rw [parseF, if_neg (by omega), if_pos (show (best z (f + 2) 0 depth).2 = 0 from rfl), parseF, if_neg (by omega), hb, if_neg (by simp), parseF_end _ _ _ _ _ _ (by show f + 2 < 0 + 1 + (f + 1) + 4; omega)]
  have : offOf (0 + 1) (0, f + 1) = 1 := by unfold offOf; rw [if_neg (by simp)]; rfl
  rw [this]
  rfl

/-- Steps where the first place has something four bytes long. -/
theorem parse_first (z : Nat → Int) (n p depth : Nat) (hn : p + 4 ≤ n) (hb : (best z n p depth).2 ≠ 0) : ∃ r, parse z n p depth = (0, offOf p (best z n p depth), ((best z n p depth).2 : Int)) :: r := by
  unfold parse
  obtain ⟨f, hf⟩ : ∃ f, n - p = f + 1 := ⟨n - p - 1, by omega⟩
  rw [hf, parseF, if_neg (by omega), if_neg hb]
  exact ⟨_, rfl⟩
theorem parse_near (z : Nat → Int) (n p q : Nat) (hn : p + 4 ≤ n) (hqp : q < p) (hq : 4 ≤ lcp z n q p) : ∃ o M : Nat, ∃ r, parse z n p 1 = (0, (o : Int), (M : Int)) :: r ∧ 1 ≤ o ∧ o ≤ p - q := by
  obtain ⟨h1, h2, h3⟩ := bestF_near z n p q hq p 0 hqp
  have hne : (best z n p 1).2 ≠ 0 := by show (bestF z n p 1 p 0 0 0).2 ≠ 0; omega
  obtain ⟨r, hr⟩ := parse_first z n p 1 hn hne
  refine ⟨p - (best z n p 1).1, (best z n p 1).2, r, ?_, ?_, ?_⟩
  · have h4 : (best z n p 1).1 < p := h2
    have e : offOf p (best z n p 1) = ((p - (best z n p 1).1 : Nat) : Int) := by unfold offOf; rw [if_neg hne]; omega
    rw [hr, e]
  · have : (best z n p 1).1 < p := h2
    omega
  · have : q ≤ (best z n p 1).1 := h1
    omega
theorem parse_some (z : Nat → Int) (n p q depth : Nat) (hd : 1 ≤ depth) (hn : p + 4 ≤ n) (hqp : q < p) (hq : 4 ≤ lcp z n q p) : 0 < (parse z n p depth).length := by
  have hne : (best z n p depth).2 ≠ 0 := fun e => by
    have := (best_zero z n p depth hd).1 e q hqp
    omega
  obtain ⟨r, hr⟩ := parse_first z n p depth hn hne
  rw [hr]; simp

/-- Bytes that are all others. -/
theorem parseF_none (z : Nat → Int) (n depth : Nat) (hd : 1 ≤ depth) (hz : ∀ i j, j < i → i < n → z j ≠ z i) : ∀ f lit at_, parseF z n depth f lit at_ = []
  | 0, _, _ => rfl
  | f + 1, lit, at_ => by
    by_cases h1 : n < at_ + 4
    · exact parseF_end _ _ _ _ _ _ h1
    · rw [parseF, if_neg h1, if_pos]
      · exact parseF_none z n depth hd hz f _ _
      · rw [best_zero z n at_ depth hd]
        intro q hq
        have : lcp z n q at_ = 0 := lcp_stop (by omega) (fun t ht => by omega) (hz at_ q hq (by omega))
        omega
end Go.Proofs.Ytmhmbepohcapnaa
