/- seqs: SameInts; the laws on offsets. -/
import Derived.Test.YthnhacbagmhfoaaF
namespace Go.Proofs.Ythnhacbagmhfoaa
open Go.RowKit Go.WideShapes
set_option linter.unusedVariables false
set_option maxRecDepth 100000

theorem same_yes (a1 : Option Addr) (b1 o1 n c1 : Nat) (z1 : Nat → Int) (a2 : Option Addr) (b2 o2 c2 : Nat) (z2 : Nat → Int) (w : World) (h1 : Ints w a1 b1 o1 n z1) (h2 : Ints w a2 b2 o2 n z2) (hn : n ≤ 1000000) (he : ∀ i, i < n → z1 i = z2 i) :
    Calls Try.prog 28 #[.slice a1 n c1, .slice a2 n c2] w fun e w' => e = .returned (.bool true) ∧ ∃ m, w' = w.drewN m := by
  have H1 := Lib.hid h1
  have H2 := Lib.hid h2
  have He := Lib.hid he
  clear h1 h2 he
  go_enter Try.func28, Try.ntmps28
  go_wp2_with fail
  go_loopw [5] (fun i wr => ∃ k m : Nat, k ≤ n ∧ i = .int .i64 k ∧ wr = w.drewN m) (fun i _ => n - (intOf i).toNat)
  case atStart => exact ⟨0, 0, by omega, rfl, rfl⟩
  case round =>
    obtain ⟨k, m, hk, rfl, rfl⟩ := hrel
    by_cases hlt : k < n
    · obtain rfl := H1.out.at_ (by omega)
      obtain rfl := H2.out.at_ (by omega)
      have e1 : ∀ m, (w.drewN m).cell? ⟨b1, o1 + k, none⟩ = some (.int .i64 (z1 k)) := fun m => (Touch.eq_drewN (S := fun _ => False) w m).cell (H1.out.cell k hlt) id
      have e2 : ∀ m, (w.drewN m).cell? ⟨b2, o2 + k, none⟩ = some (.int .i64 (z1 k)) := fun m => by rw [He.out k hlt]; exact (Touch.eq_drewN (S := fun _ => False) w m).cell (H2.out.cell k hlt) id
      go_wp2_with fail
      go_quiet (fail)
      go_wp2_with fail
      go_roundw
      case rel => exact ⟨k + 1, _, by omega, by go_num, rfl⟩
      case measure => simp [intOf]; omega
    · obtain rfl : k = n := by omega
      go_wp2_with fail
      go_ret
      exact ⟨rfl, m, rfl⟩
end Go.Proofs.Ythnhacbagmhfoaa
