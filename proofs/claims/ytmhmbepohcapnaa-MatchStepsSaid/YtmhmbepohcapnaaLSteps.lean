/- The law MatchSteps, walked. -/
import Derived.Test.YtmhmbepohcapnaaKB
namespace Go.Proofs.Ytmhmbepohcapnaa
open Go.RowKit Go.WideShapes
set_option linter.unusedVariables false
set_option maxRecDepth 100000

theorem okSteps_cons {z : Nat → Int} {n at_ : Nat} {p : Int × Int × Int} {r : List (Int × Int × Int)} (h : okSteps z n at_ (p :: r)) :
    ∃ L O M : Nat, p = ((L : Int), (O : Int), (M : Int)) ∧ 4 ≤ M ∧ at_ + L + M ≤ n ∧ 1 ≤ O ∧ O ≤ at_ + L ∧ okSteps z n (at_ + L + M) r := by
  obtain ⟨L, O, M, a, b, c, d, e, _, f⟩ := h
  exact ⟨L, O, M, a, b, c, d, e, f⟩

set_option maxHeartbeats 1000000 in
theorem MatchSteps_in (w : World) (a0 : Option Addr) (b0 o0 l0 c0 : Nat) (z0 : Nat → Int) (w0 : IntsIn .u8 w a0 b0 o0 l0 c0 z0) (a1 : Option Addr) (b1 o1 l1 c1 : Nat) (z1 : Nat → Int) (w1 : IntsIn .u8 w a1 b1 o1 l1 c1 z1) (hl0 : l0 ≤ 300) (hl1 : l1 ≤ 300) (depth : Nat) (hd0 : 1 ≤ depth) (hd1 : depth ≤ 32) :
    Calls Try.prog 4 #[.slice a0 l0 c0, .slice a1 l1 c1, .int .i64 depth] w fun e w' => e = .returned (.bool true) ∧ Below w.heap.size w w' := by
  have q0 : decide ((300 : Int) < (l0 : Int)) = false := by simp; omega
  have q1 : decide ((300 : Int) < (l1 : Int)) = false := by simp; omega
  have q2 : decide ((depth : Int) < 1) = false := by simp; omega
  have q3 : decide ((32 : Int) < (depth : Int)) = false := by simp; omega
  have W0 := Lib.hid w0
  have W1 := Lib.hid w1
  clear w0 w1
  go_enter Try.func4, Try.ntmps4
  go_wp2_with fail
  refine (parse_walk _ _ _ _ l0 _ _ _ _ _ l1 _ _ (ints_of W0.out) (ints_of W1.out) depth (by omega) (by omega) hd0 (by omega)).mono ?_
  rintro e w2 ⟨v2, rfl, hs2⟩
  have hok := parse_ok (two l0 z0 z1) (l0 + l1) l0 depth (by omega)
  have hlen := parse_len (two l0 z0 z1) (l0 + l1) l0 depth
  obtain ⟨ps, hps⟩ : ∃ ps, parse (two l0 z0 z1) (l0 + l1) l0 depth = ps := ⟨_, rfl⟩
  rw [hps] at hs2 hok hlen
  obtain ⟨N, hN⟩ : ∃ N, ps.length = N := ⟨_, rfl⟩
  have HN := Lib.hid hN
  have Hok := Lib.hid hok
  have T2 := Lib.hid hs2.touch
  obtain ⟨xa, xb, xc, rfl, hr⟩ := recs_row hs2.row
  rw [hN] at hlen ⊢
  have R := Lib.hid hr
  clear hs2 hr hps hok hN
  go_wp2_with fail
  go_loopw [8, 9] (fun v i wr => ∃ k at_ m : Nat, k ≤ N ∧ at_ ≤ l1 ∧ v = .int .i64 at_ ∧ i = .int .i64 k ∧ okSteps (two l0 z0 z1) (l0 + l1) (l0 + at_) (ps.drop k) ∧ wr = w2.drewN m) (fun _ i _ => N - (intOf i).toNat)
  case atStart => exact ⟨0, 0, 0, by omega, by omega, rfl, rfl, by simpa using Hok.out, rfl⟩
  case round =>
    obtain ⟨k, at_, m, hk, hat, rfl, rfl, hok, rfl⟩ := hrel
    by_cases hlt : k < N
    · obtain rfl := R.out.at_ (by rw [HN.out]; omega)
      have hk' : k < ps.length := by rw [HN.out]; exact hlt
      rw [List.drop_eq_getElem_cons hk'] at hok
      obtain ⟨L, O, M, hp, hM, hLM, hO1, hO2, hok2⟩ := okSteps_cons hok
      obtain ⟨k1, k2, k3⟩ := R.out.cell k _ (List.getElem?_eq_getElem hk')
      rw [hp] at k1 k2 k3
      simp only [Nat.zero_add] at k1 k2 k3
      have e1 : ∀ m, (w2.drewN m).cell? ⟨xb, k * 3, none⟩ = some (.int .i64 L) := fun m => (Touch.eq_drewN (S := fun _ => False) w2 m).cell k1 id
      have e2 : ∀ m, (w2.drewN m).cell? ⟨xb, k * 3 + 1, none⟩ = some (.int .i64 O) := fun m => (Touch.eq_drewN (S := fun _ => False) w2 m).cell k2 id
      have e3 : ∀ m, (w2.drewN m).cell? ⟨xb, k * 3 + 2, none⟩ = some (.int .i64 M) := fun m => (Touch.eq_drewN (S := fun _ => False) w2 m).cell k3 id
      have f1 : IntKind.i64.wrap ((l1 : Int) - (at_ : Int)) = (l1 : Int) - at_ := IntWalk.i64_in _ (by omega)
      have f2 : IntKind.i64.wrap ((l1 : Int) - (at_ : Int) - (L : Int)) = (l1 : Int) - at_ - L := IntWalk.i64_in _ (by omega)
      have g0 : decide ((L : Int) < 0) = false := by simp
      have g1 : decide ((M : Int) < 4) = false := by simp; omega
      have g2 : decide ((l1 : Int) - (at_ : Int) < (L : Int)) = false := by simp; omega
      have g3 : decide ((l1 : Int) - (at_ : Int) - (L : Int) < (M : Int)) = false := by simp; omega
      have g4 : decide ((O : Int) < 1) = false := by simp; omega
      have g5 : decide ((l0 : Int) + ((at_ : Int) + (L : Int)) < (O : Int)) = false := by simp; omega
      have Hok2 := Lib.hid hok2
      have hb1 : at_ + L + M ≤ l1 := by omega
      clear k1 k2 k3 hp hok hok2 hO1 hO2
      go_wp2_with fail
      go_quiet (fail)
      go_wp2_with fail
      go_roundw
      case rel => exact ⟨k + 1, at_ + L + M, _, by omega, by omega, by go_num, by go_num, by rw [← Nat.add_assoc, ← Nat.add_assoc]; exact Hok2.out, rfl⟩
      case measure => simp [intOf]; omega
    · obtain rfl : k = N := by omega
      go_wp2_with fail
      refine (known_walk _).mono ?_
      rintro e w5 ⟨rfl, ht5⟩
      go_wp2_with fail
      go_ret
      exact ⟨rfl, ((T2.out.drewN m).trans ht5).owned⟩

theorem MatchSteps_law (w : World) (a0 : Option Addr) (b0 o0 l0 c0 : Nat) (z0 : Nat → Int) (w0 : IntsIn .u8 w a0 b0 o0 l0 c0 z0) (a1 : Option Addr) (b1 o1 l1 c1 : Nat) (z1 : Nat → Int) (w1 : IntsIn .u8 w a1 b1 o1 l1 c1 z1) (a2 : Int) (w2 : (Lit.int .i64 a2).wf = true) :
    Calls Try.prog 4 #[.slice a0 l0 c0, .slice a1 l1 c1, .int .i64 a2] w fun e w' => e = .returned (.bool true) ∧ Below w.heap.size w w' := by
  clear w2
  have hc : 300 < l0 ∨ (l0 ≤ 300 ∧ 300 < l1) ∨ (l0 ≤ 300 ∧ l1 ≤ 300 ∧ a2 < 1) ∨ (l0 ≤ 300 ∧ l1 ≤ 300 ∧ 1 ≤ a2 ∧ 32 < a2) ∨ (l0 ≤ 300 ∧ l1 ≤ 300 ∧ ∃ d : Nat, a2 = d ∧ 1 ≤ d ∧ d ≤ 32) := by
    by_cases h1 : 300 < l0
    · exact .inl h1
    by_cases h2 : 300 < l1
    · exact .inr (.inl ⟨by omega, h2⟩)
    by_cases h3 : a2 < 1
    · exact .inr (.inr (.inl ⟨by omega, by omega, h3⟩))
    by_cases h4 : 32 < a2
    · exact .inr (.inr (.inr (.inl ⟨by omega, by omega, by omega, h4⟩)))
    · exact .inr (.inr (.inr (.inr ⟨by omega, by omega, a2.toNat, by omega, by omega, by omega⟩)))
  rcases hc with h | ⟨h, h'⟩ | ⟨h, h', h1⟩ | ⟨h, h', h1, h2⟩ | ⟨h, h', d, rfl, h1, h2⟩
  rotate_left 4
  · exact MatchSteps_in w a0 b0 o0 l0 c0 z0 w0 a1 b1 o1 l1 c1 z1 w1 h h' d h1 h2
  all_goals
    go_enter Try.func4, Try.ntmps4
    go_wp2_with fail
    go_ret
    exact ⟨rfl, Below.refl _ _⟩
end Go.Proofs.Ytmhmbepohcapnaa
