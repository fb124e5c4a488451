/- fse: Same of entries. -/
import Derived.Test.YtaacphmbkieacaaFaK
namespace Go.Proofs.Ytaacphmbkieacaa
open Go.RowKit Go.WideShapes Fs
set_option linter.unusedVariables false
set_option maxRecDepth 100000

theorem eq34 (a b c a' b' c' : Int) (w : World) : (Op.equalIn 10000 34 (.agg #[.int .i64 a, .int .i64 b, .int .i64 c]) (.agg #[.int .i64 a', .int .i64 b', .int .i64 c'])).run Try.prog w = .ok (a == a' && (b == b' && c == c')) w := by
  have u3 := Try.underlying3
  have a3 := Try.isAgg3
  have z3 := Try.sizeOf3
  have hS : Try.prog.underlying 34 = some (.struct (Try.prog.fieldsOf 34)) := by kernel_rfl
  have hp : Try.prog.stoodInHeld 34 = false := by kernel_rfl
  rw [show (10000 : Nat) = 9999 + 1 from rfl, run_equalIn_agg w 9999 34 _ _ hS hp]
  simp only [Program.fieldsOf, Try.underlying34]
  go_simp
  by_cases h1 : a = a' <;> by_cases h2 : b = b' <;> by_cases h3 : c = c' <;> simp [h1, h2, h3]

theorem RowAt.drewNI {w : World} {g : Nat} {e : TypeId} {n : Nat} {F : Nat → Value} (h : RowAt w g e n F) (m : Nat) : RowAt (w.drewN m) g e n F := h

theorem same_ents (g1 c1 g2 c2 n : Nat) (Sy Bi : Nat → Nat) (Ba : Nat → Int) (w : World) (h1 : TabAt w g1 n Sy Bi Ba) (h2 : TabAt w g2 n Sy Bi Ba) (hn : n ≤ 1000000) :
    Calls Try.prog 23 #[.slice (some ⟨g1, 0, none⟩) n c1, .slice (some ⟨g2, 0, none⟩) n c2] w fun e w' => e = .returned (.bool true) ∧ ∃ m, w' = w.drewN m := by
  have H1 := Lib.hid h1
  have H2 := Lib.hid h2
  clear h1 h2
  go_enter Try.func23, Try.ntmps23
  go_wp2_with fail
  go_loopw [5] (fun i wr => ∃ k m : Nat, k ≤ n ∧ i = .int .i64 k ∧ wr = w.drewN m) (fun i _ => n - (intOf i).toNat)
  case atStart => exact ⟨0, 0, by omega, rfl, rfl⟩
  case round =>
    obtain ⟨k, m, hk, rfl, rfl⟩ := hrel
    by_cases hlt : k < n
    · obtain ⟨k1, k2, k3⟩ := TabAt.get H1.out hlt
      obtain ⟨q1, q2, q3⟩ := TabAt.get H2.out hlt
      obtain ⟨x, hx⟩ : ∃ x : Int, (Sy k : Int) = x := ⟨_, rfl⟩
      obtain ⟨y, hy⟩ : ∃ x : Int, (Bi k : Int) = x := ⟨_, rfl⟩
      obtain ⟨q, hq⟩ : ∃ x : Int, Ba k = x := ⟨_, rfl⟩
      rw [hx] at k1 q1
      rw [hy] at k2 q2
      rw [hq] at k3 q3
      have e1 : ∀ m, (w.drewN m).cell? ⟨g1, k * 3, none⟩ = some (.int .i64 x) := fun m => (Touch.eq_drewN (S := fun _ => False) w m).cell k1 id
      have e2 : ∀ m, (w.drewN m).cell? ⟨g1, k * 3 + 1, none⟩ = some (.int .i64 y) := fun m => (Touch.eq_drewN (S := fun _ => False) w m).cell k2 id
      have e3 : ∀ m, (w.drewN m).cell? ⟨g1, k * 3 + 2, none⟩ = some (.int .i64 q) := fun m => (Touch.eq_drewN (S := fun _ => False) w m).cell k3 id
      have f1 : ∀ m, (w.drewN m).cell? ⟨g2, k * 3, none⟩ = some (.int .i64 x) := fun m => (Touch.eq_drewN (S := fun _ => False) w m).cell q1 id
      have f2 : ∀ m, (w.drewN m).cell? ⟨g2, k * 3 + 1, none⟩ = some (.int .i64 y) := fun m => (Touch.eq_drewN (S := fun _ => False) w m).cell q2 id
      have f3 : ∀ m, (w.drewN m).cell? ⟨g2, k * 3 + 2, none⟩ = some (.int .i64 q) := fun m => (Touch.eq_drewN (S := fun _ => False) w m).cell q3 id
      have eqS := fun w => eq34 x y q x y q w
      simp only [beq_self_eq_true, Bool.and_true] at eqS
      clear k1 k2 k3 q1 q2 q3 hx hy hq
      go_wp2_with fail
      go_quiet (fail)
      go_wp2_with fail
      go_roundw
      case rel => exact ⟨k + 1, _, by omega, by go_num, rfl⟩
      case measure => simp [intOf]; omega
    · obtain rfl : k = n := by omega
      go_wp2_with fail
      go_ret
      exact ⟨rfl, m, rfl⟩
end Go.Proofs.Ytaacphmbkieacaa
