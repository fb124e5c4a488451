/- match: plain facts: steps' literals and steps make data again. -/
import Derived.Test.YtmhmbepohcapnaaJ
namespace Go.Proofs.Ytmhmbepohcapnaa
open Go.RowKit Go.WideShapes
set_option linter.unusedVariables false

theorem seg_append (z : Nat → Int) (p a b : Nat) : seg z p a ++ seg z (p + a) b = seg z p (a + b) := by
  apply List.ext_getElem?
  intro i
  unfold seg
  by_cases h : i < a
  · rw [List.getElem?_append_left (by simpa using h)]
    simp [h, show i < a + b by omega]
  · rw [List.getElem?_append_right (by simp; omega)]
    by_cases h2 : i < a + b
    · simp [h2, show i - a < b by omega, show p + a + (i - a) = p + i by omega]
    · rw [List.getElem?_eq_none (by simp; omega), List.getElem?_eq_none (by simp; omega)]
theorem seg_congr {z y : Nat → Int} {p q k : Nat} (h : ∀ i, i < k → z (p + i) = y (q + i)) : seg z p k = seg y q k := by
  unfold seg; exact List.map_congr_left fun i hi => h i (List.mem_range.1 hi)
theorem seg_get {z : Nat → Int} {p k i : Nat} (h : i < k) : (seg z p k).getD i 0 = z (p + i) := by
  simp [seg, List.getD_eq_getElem?_getD, h]
theorem seg_list (l : List Int) (p : Nat) : seg (fun i => l.getD i 0) p (l.length - p) = l.drop p := by
  apply List.ext_getElem?
  intro i
  unfold seg
  by_cases h : i < l.length - p
  · simp [h, List.getD_eq_getElem?_getD, show p + i < l.length by omega]
  · rw [List.getElem?_eq_none (by simp; omega), List.getElem?_eq_none (by simp; omega)]
theorem seg_take (l : List Int) (p L : Nat) (r : List Int) (q : List Int) (h : l.drop p = q ++ r) (hL : q.length = L) : seg (fun i => l.getD i 0) p L = q ∧ l.drop (p + L) = r ∧ p + L + r.length = l.length ∨ q ++ r = [] := by
  by_cases h0 : q ++ r = []
  · exact .inr h0
  · left
    have hlen := congrArg List.length h
    have hne : (q ++ r).length ≠ 0 := fun e => h0 (List.eq_nil_of_length_eq_zero e)
    simp only [List.length_drop, List.length_append] at hlen hne
    refine ⟨?_, ?_, by omega⟩
    · apply List.ext_getElem?
      intro i
      unfold seg
      by_cases hi : i < L
      · have := congrArg (·[i]?) h
        simp only [List.getElem?_drop] at this
        rw [List.getElem?_append_left (by omega)] at this
        simp [hi, List.getD_eq_getElem?_getD, this, show i < q.length by omega]
      · rw [List.getElem?_eq_none (by simp; omega), List.getElem?_eq_none (by omega)]
    · rw [← List.drop_drop, h, ← hL, List.drop_left]

theorem copy_seg (z : Nat → Int) (n O : Nat) (h1 : 1 ≤ O) (h2 : O ≤ n) : ∀ k, (∀ t, t < k → z (n - O + t) = z (n + t)) → copyN (seg z 0 n) O k = seg z 0 (n + k)
  | 0, _ => rfl
  | k + 1, h => by
    rw [copyN, copy_seg z n O h1 h2 k (fun t ht => h t (by omega)), seg_length, seg_get (by omega)]
    rw [show n + (k + 1) = (n + k) + 1 by omega, ← seg_append z 0 (n + k) 1]
    congr 1
    unfold seg
    simp only [List.range_one, List.map_cons, List.map_nil]
    rw [show 0 + (n + k - O) = n - O + k by omega, h k (by omega), Nat.zero_add]
    rfl
theorem ok_fits (z : Nat → Int) (l0 n : Nat) : ∀ ps at_, okSteps z (l0 + n) (l0 + at_) ps → fits n at_ ps
  | [], at_, h => by
    have h' : l0 + at_ ≤ l0 + n := h
    show at_ ≤ n; omega
  | q :: r, at_, h => by
    obtain ⟨L, O, M, rfl, _, h2, _, _, _, h5⟩ := h
    refine ⟨L, M, rfl, rfl, by omega, ok_fits z l0 n r (at_ + L + M) ?_⟩
    rw [← Nat.add_assoc, ← Nat.add_assoc]; exact h5

/-- Expand over what Literals gave. -/
theorem exp_back (l0 n : Nat) (z0 z1 : Nat → Int) (R : List Int) (most : Int) : ∀ ps at_ p, okSteps (two l0 z0 z1) (l0 + n) (l0 + at_) ps → R.drop p = litL z1 n at_ ps → p ≤ R.length →
    expF l0 R.length (fun i => R.getD i 0) most (seg (two l0 z0 z1) 0 (l0 + at_)) p ps = if most < n then none else some (seg (two l0 z0 z1) 0 (l0 + n))
  | [], at_, p, h, hR, hp => by
    have h' : l0 + at_ ≤ l0 + n := h
    have hl := congrArg List.length hR
    rw [litL] at hR
    simp only [List.length_drop, litL, seg_length] at hl
    rw [expF, seg_length, hl, show l0 + at_ + (n - at_) = l0 + n by omega]
    have e : most < ((l0 + n : Nat) : Int) - l0 ↔ most < n := by omega
    by_cases hm : most < n
    · rw [if_pos (e.2 hm), if_pos hm]
    · rw [if_neg (fun h => hm (e.1 h)), if_neg hm, ← hl, seg_list, hR]
      rw [seg_congr (z := z1) (y := two l0 z0 z1) (q := l0 + at_) (fun i hi => by unfold two; rw [if_neg (by omega)]; congr 1; omega)]
      congr 1
      have := seg_append (two l0 z0 z1) 0 (l0 + at_) (n - at_)
      rw [Nat.zero_add] at this
      rw [this]
      congr 1; omega
  | q :: r, at_, p, h, hR, hp => by
    obtain ⟨L, O, M, rfl, hM, h2, h3, h4, h5, h6⟩ := h
    rw [litL] at hR
    simp only [Int.toNat_natCast] at hR
    have hl := congrArg List.length hR
    simp only [List.length_drop, List.length_append, seg_length] at hl
    rw [expF, seg_length]
    simp only [Int.toNat_natCast]
    by_cases hc : (L : Int) < 0 ∨ (M : Int) < 0 ∨ ((R.length - p : Nat) : Int) < L ∨ most - (((l0 + at_ : Nat) : Int) - l0) < L ∨ most - (((l0 + at_ : Nat) : Int) - l0) - L < M
    · rw [if_pos hc, if_pos (by omega)]
    · rw [if_neg hc, if_neg (by omega)]
      have hsd : seg (fun i => R.getD i 0) p L = seg z1 at_ L ∧ R.drop (p + L) = litL z1 n (at_ + L + M) r := by
        rcases seg_take R p L _ _ hR (seg_length _ _ _) with ⟨a, b, _⟩ | e
        · exact ⟨a, b⟩
        · have e1 : L = 0 := by have := congrArg List.length e; simp [seg_length] at this; omega
          have e2 : litL z1 n (at_ + L + M) r = [] := (List.append_eq_nil_iff.1 e).2
          subst e1
          refine ⟨rfl, ?_⟩
          rw [Nat.add_zero, hR, e, e2]
      have hall : copyN (seg (two l0 z0 z1) 0 (l0 + at_) ++ seg (fun i => R.getD i 0) p L) O M = seg (two l0 z0 z1) 0 (l0 + (at_ + L + M)) := by
        rw [hsd.1, seg_congr (z := z1) (y := two l0 z0 z1) (q := l0 + at_) (fun i hi => by unfold two; rw [if_neg (by omega)]; congr 1; omega)]
        have := seg_append (two l0 z0 z1) 0 (l0 + at_) L
        rw [Nat.zero_add] at this
        rw [this, copy_seg _ _ _ h3 h4 M h5]
        congr 1; omega
      rw [hall]
      refine exp_back l0 n z0 z1 R most r (at_ + L + M) (p + L) ?_ hsd.2 (by omega)
      rw [← Nat.add_assoc, ← Nat.add_assoc]; exact h6

/-- Bytes as a string. -/
theorem conv_ints {w : World} {a : Option Addr} {b off n : Nat} {z : Nat → Int} (h : Ints .u8 w a b off n z) (c : Nat) : (convert 22 9 (.slice a n c)).run Try.prog w = .ok (.string (strOfNums (seg z 0 n))) w := by
  by_cases h0 : n = 0
  · subst h0
    rw [run_convert_bytes_string w 22 9 5 _ 0 c Try.underlying22 Try.underlying5 Try.underlying9]
    cases a <;> simp [Conv.bytesToString, loadCells]
    all_goals rfl
  · obtain rfl := h.at_ (by omega)
    exact run_convert_bytes_arg w 22 5 Try.underlying22 Try.underlying5 b off n c _ (by simp [seg_length]) (fun i hi => by
      rw [h.cell i hi, seg_get hi, Nat.zero_add]) 9 Try.underlying9
end Go.Proofs.Ytmhmbepohcapnaa
