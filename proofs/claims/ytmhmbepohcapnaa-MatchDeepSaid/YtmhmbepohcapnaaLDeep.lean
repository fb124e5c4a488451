/- The law MatchDeep, walked. -/
import Derived.Test.YtmhmbepohcapnaaKB
namespace Go.Proofs.Ytmhmbepohcapnaa
open Go.RowKit Go.WideShapes
set_option linter.unusedVariables false
set_option maxRecDepth 100000

theorem known_touch {w : World} : Calls Try.prog 17 #[] w fun e w' => e = .returned (.bool true) ∧ Touch (fun _ => False) w w' := known_walk w

set_option maxHeartbeats 1000000 in
theorem MatchDeep_in (w : World) (a0 : Option Addr) (b0 o0 l0 c0 : Nat) (z0 : Nat → Int) (w0 : IntsIn .u8 w a0 b0 o0 l0 c0 z0) (a1 : Option Addr) (b1 o1 l1 c1 : Nat) (z1 : Nat → Int) (w1 : IntsIn .u8 w a1 b1 o1 l1 c1 z1) (hl0 : l0 ≤ 200) (hl1 : l1 ≤ 200) (d1 d2 : Nat) (hd1 : 1 ≤ d1) (hd2 : d1 ≤ d2) (hd3 : d2 ≤ 32) :
    Calls Try.prog 7 #[.slice a0 l0 c0, .slice a1 l1 c1, .int .i64 d1, .int .i64 d2] w fun e w' => e = .returned (.bool true) ∧ Below w.heap.size w w' := by
  have q0 : decide ((200 : Int) < (l0 : Int)) = false := by simp; omega
  have q1 : decide ((200 : Int) < (l1 : Int)) = false := by simp; omega
  have q2 : decide ((d1 : Int) < 1) = false := by simp; omega
  have q3 : decide ((d2 : Int) < d1) = false := by simp; omega
  have q3' : decide (d2 < d1) = false := by simp; omega
  have q4 : decide ((32 : Int) < (d2 : Int)) = false := by simp; omega
  have W0 := Lib.hid w0
  have W1 := Lib.hid w1
  clear w0 w1
  go_enter Try.func7, Try.ntmps7
  go_wp2_with fail
  refine (parse_walk _ _ _ _ l0 _ _ _ _ _ l1 _ _ (ints_of W0.out) (ints_of W1.out) d1 (by omega) (by omega) hd1 (by omega)).mono ?_
  rintro e w2 ⟨v2, rfl, hs2⟩
  have T2 := Lib.hid hs2.touch
  have hcase := parse_deep (two l0 z0 z1) (l0 + l1) l0 d1 d2 hd1 hd2
  obtain ⟨ps, hps⟩ : ∃ ps, parse (two l0 z0 z1) (l0 + l1) l0 d1 = ps := ⟨_, rfl⟩
  obtain ⟨qs, hqs⟩ : ∃ qs, parse (two l0 z0 z1) (l0 + l1) l0 d2 = qs := ⟨_, rfl⟩
  rw [hps, hqs] at hcase
  rw [hps] at hs2
  obtain ⟨xa, xb, xc, rfl, hr⟩ := recs_row hs2.row
  have R := Lib.hid hr
  have HQ := Lib.hid hqs
  have HC := Lib.hid hcase
  clear hs2 hr hps hqs hcase
  go_wp2_with fail
  refine (parse_walk _ _ _ _ l0 _ _ _ _ _ l1 _ _ ((ints_of W0.out).touch T2.out) ((ints_of W1.out).touch T2.out) d2 (by omega) (by omega) (by omega) (by omega)).mono ?_
  rintro e w3 ⟨v3, rfl, hs3⟩
  have T3 := Lib.hid (T2.out.trans hs3.touch)
  have R2 := Lib.hid (R.out.touch hs3.touch)
  rw [HQ.out] at hs3
  obtain ⟨ya, yb, yc, rfl, hr⟩ := recs_row hs3.row
  have R3 := Lib.hid hr
  clear hs3 hr R
  rcases HC.out with ⟨rfl, rfl⟩ | ⟨L, O, O', M, M', r, r', rfl, rfl, hm⟩
  · go_wp2_with fail
    refine (known_walk _).mono ?_
    rintro e w5 ⟨rfl, ht5⟩
    go_wp2_with fail
    go_ret
    exact ⟨rfl, (T3.out.trans ht5).owned⟩
  · obtain rfl := R2.out.at_ (by simp)
    obtain rfl := R3.out.at_ (by simp)
    obtain ⟨k1, k2, k3⟩ := R2.out.cell 0 _ rfl
    obtain ⟨q1, q2, q3⟩ := R3.out.cell 0 _ rfl
    simp only [Nat.zero_add, Nat.zero_mul] at k1 k2 k3 q1 q2 q3
    have hg : decide ((M' : Int) < M) = false := by simp; omega
    have hg' : decide ((M : Int) ≤ M') = true := by simp; omega
    have hl1 : ((((L, O, (M : Int)) :: r).length : Int) == 0) = false := by simp; omega
    have hl2 : ((((L, O', (M' : Int)) :: r').length : Int) == 0) = false := by simp; omega
    have hp1 : 0 < ((L, O, (M : Int)) :: r).length := by simp
    have hp2 : 0 < ((L, O', (M' : Int)) :: r').length := by simp
    obtain ⟨n1, hn1⟩ : ∃ n1, ((L, O, (M : Int)) :: r).length = n1 := ⟨_, rfl⟩
    obtain ⟨n2, hn2⟩ : ∃ n2, ((L, O', (M' : Int)) :: r').length = n2 := ⟨_, rfl⟩
    rw [hn1] at hl1 hp1 ⊢
    rw [hn2] at hl2 hp2 ⊢
    have E0 : w3.cell? ⟨xb, 0, none⟩ = some (.int .i64 L) ∧ w3.cell? ⟨xb, 2, none⟩ = some (.int .i64 M) ∧ w3.cell? ⟨yb, 0, none⟩ = some (.int .i64 L) ∧ w3.cell? ⟨yb, 2, none⟩ = some (.int .i64 M') := ⟨k1, k3, q1, q3⟩
    have E1 : ∀ w' : World, Touch (fun _ => False) w3 w' → w'.cell? ⟨xb, 0, none⟩ = some (.int .i64 L) ∧ w'.cell? ⟨xb, 2, none⟩ = some (.int .i64 M) ∧ w'.cell? ⟨yb, 0, none⟩ = some (.int .i64 L) ∧ w'.cell? ⟨yb, 2, none⟩ = some (.int .i64 M') := fun w' h => ⟨h.cell k1 id, h.cell k3 id, h.cell q1 id, h.cell q3 id⟩
    have EE := Lib.hid E1
    have EZ := Lib.hid E0
    clear k1 k2 k3 q1 q2 q3 hn1 hn2 R2 R3 HQ HC E1 E0
    go_wp2_with fail
    go_region_held3 (fun wx => wx.cell? ⟨xb, 0, none⟩ = some (.int .i64 L) ∧ wx.cell? ⟨xb, 2, none⟩ = some (.int .i64 M) ∧ wx.cell? ⟨yb, 0, none⟩ = some (.int .i64 L) ∧ wx.cell? ⟨yb, 2, none⟩ = some (.int .i64 M')) (first | exact EZ.out | exact EE.out _ (Touch.of_drew ht5)) (first | (go_at_call 17; refine (known_walk _).mono ?_; rintro e w5 ⟨rfl, ht5⟩))
    go_wp2_with fail
    go_ret
    exact ⟨rfl, (T3.out.trans (Touch.of_drew ht5)).owned⟩

theorem MatchDeep_law (w : World) (a0 : Option Addr) (b0 o0 l0 c0 : Nat) (z0 : Nat → Int) (w0 : IntsIn .u8 w a0 b0 o0 l0 c0 z0) (a1 : Option Addr) (b1 o1 l1 c1 : Nat) (z1 : Nat → Int) (w1 : IntsIn .u8 w a1 b1 o1 l1 c1 z1) (a2 : Int) (w2 : (Lit.int .i64 a2).wf = true) (a3 : Int) (w3 : (Lit.int .i64 a3).wf = true) :
    Calls Try.prog 7 #[.slice a0 l0 c0, .slice a1 l1 c1, .int .i64 a2, .int .i64 a3] w fun e w' => e = .returned (.bool true) ∧ Below w.heap.size w w' := by
  clear w2 w3
  have hc : 200 < l0 ∨ (l0 ≤ 200 ∧ 200 < l1) ∨ (l0 ≤ 200 ∧ l1 ≤ 200 ∧ a2 < 1) ∨ (l0 ≤ 200 ∧ l1 ≤ 200 ∧ 1 ≤ a2 ∧ a3 < a2) ∨ (l0 ≤ 200 ∧ l1 ≤ 200 ∧ 1 ≤ a2 ∧ a2 ≤ a3 ∧ 32 < a3) ∨ (l0 ≤ 200 ∧ l1 ≤ 200 ∧ ∃ d d' : Nat, a2 = d ∧ a3 = d' ∧ 1 ≤ d ∧ d ≤ d' ∧ d' ≤ 32) := by
    by_cases h1 : 200 < l0
    · exact .inl h1
    by_cases h2 : 200 < l1
    · exact .inr (.inl ⟨by omega, h2⟩)
    by_cases h3 : a2 < 1
    · exact .inr (.inr (.inl ⟨by omega, by omega, h3⟩))
    by_cases h4 : a3 < a2
    · exact .inr (.inr (.inr (.inl ⟨by omega, by omega, by omega, h4⟩)))
    by_cases h5 : 32 < a3
    · exact .inr (.inr (.inr (.inr (.inl ⟨by omega, by omega, by omega, by omega, h5⟩))))
    · exact .inr (.inr (.inr (.inr (.inr ⟨by omega, by omega, a2.toNat, a3.toNat, by omega, by omega, by omega, by omega, by omega⟩))))
  rcases hc with h | ⟨h, h'⟩ | ⟨h, h', h1⟩ | ⟨h, h', h1, h2⟩ | ⟨h, h', h1, h2, h3⟩ | ⟨h, h', d, d', rfl, rfl, h1, h2, h3⟩
  rotate_left 5
  · exact MatchDeep_in w a0 b0 o0 l0 c0 z0 w0 a1 b1 o1 l1 c1 z1 w1 h h' d d' h1 h2 h3
  all_goals
    go_enter Try.func7, Try.ntmps7
    go_wp2_with fail
    go_ret
    exact ⟨rfl, Below.refl _ _⟩
end Go.Proofs.Ytmhmbepohcapnaa
