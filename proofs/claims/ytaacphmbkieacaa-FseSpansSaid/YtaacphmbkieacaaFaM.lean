/- fse: the law FseTables. -/
import Derived.Test.YtaacphmbkieacaaFaL
namespace Go.Proofs.Ytaacphmbkieacaa
open Go.RowKit Go.WideShapes Fs
set_option linter.unusedVariables false
set_option linter.unusedSimpArgs false
set_option maxRecDepth 100000

theorem no_ents (w : World) : Calls Try.prog 23 #[.slice none 0 0, .slice none 0 0] w fun e w' => e = .returned (.bool true) ∧ ∃ m, w' = w.drewN m := by
  go_enter Try.func23, Try.ntmps23
  go_wp2_with fail
  go_loopw [5] (fun i wr => i = .int .i64 0 ∧ wr = w) (fun i _ => 0)
  case atStart => exact ⟨rfl, rfl⟩
  case round =>
    obtain ⟨rfl, rfl⟩ := hrel
    go_wp2_with fail
    go_ret
    exact ⟨rfl, 0, rfl⟩

set_option maxHeartbeats 1000000 in
theorem FseTables_in (w : World) (a0 : Option Addr) (b0 o0 l0 c0 : Nat) (z0 : Nat → Int) (w0 : IntsIn .i64 w a0 b0 o0 l0 c0 z0) (hl : l0 ≤ 100) (a1 : Int) :
    Calls Try.prog 5 #[.slice a0 l0 c0, .int .i64 a1] w fun e w' => e = .returned (.bool true) ∧ Below w.heap.size w w' := by
  have q0 : decide ((100 : Int) < (l0 : Int)) = false := by simp; omega
  have W0 := Lib.hid (ints_of w0)
  clear w0
  cases hok : isOk z0 l0 a1 with
  | false =>
    have HOK := Lib.hid hok
    clear hok
    go_enter Try.func5, Try.ntmps5
    go_wp2_with fail
    refine (table_no a0 b0 o0 l0 c0 z0 a1 _ W0.out (by omega) HOK.out).mono ?_
    rintro e w3 ⟨rfl, t3⟩
    have T3 := Lib.hid t3
    clear t3
    go_wp2_with fail
    refine (rtable_no a0 b0 o0 l0 c0 z0 a1 _ (W0.out.touch T3.out) (by omega) HOK.out).mono ?_
    rintro e w4 ⟨rfl, rfl⟩
    go_wp2_with fail
    refine (no_ents _).mono ?_
    rintro e w5 ⟨rfl, m, rfl⟩
    go_wp2_with fail
    refine (known_walk _).mono ?_
    rintro e w6 ⟨rfl, t6⟩
    go_wp2_with fail
    go_ret
    exact ⟨rfl, ((T3.out.drewN m).trans t6).owned⟩
  | true =>
    have hl5 : 5 ≤ a1 := by
      simp only [isOk, logOk, Bool.and_eq_true, decide_eq_true_eq] at hok
      omega
    obtain ⟨L, rfl⟩ := Int.eq_ofNat_of_zero_le (show 0 ≤ a1 by omega)
    have h9 : (2 : Nat) ^ L ≤ 1000000 := Nat.le_trans (Nat.pow_le_pow_right (by omega) (isOk_nat hok).2.1) (by decide)
    have HOK := Lib.hid hok
    clear hok
    go_enter Try.func5, Try.ntmps5
    go_wp2_with fail
    refine (table_yes a0 b0 o0 l0 c0 L z0 _ W0.out HOK.out).mono ?_
    rintro e w3 ⟨g3, rfl, hg3, hh3, t3⟩
    have T3 := Lib.hid t3
    have HI3 := Lib.hid hh3
    clear t3 hh3
    go_wp2_with fail
    refine (rtable_yes a0 b0 o0 l0 c0 L z0 _ (W0.out.touch T3.out) HOK.out).mono ?_
    rintro e w4 ⟨g4, rfl, hg4, hh4, t4⟩
    have T4 := Lib.hid (T3.out.trans t4)
    have HI4 := Lib.hid hh4
    have HI34 := Lib.hid (RowAt.touch HI3.out t4 id)
    clear t4 hh4
    go_wp2_with fail
    refine (same_ents g3 _ g4 _ (2 ^ L) _ _ _ _ HI34.out HI4.out h9).mono ?_
    rintro e w5 ⟨rfl, m, rfl⟩
    go_wp2_with fail
    refine (known_walk _).mono ?_
    rintro e w6 ⟨rfl, t6⟩
    go_wp2_with fail
    go_ret
    exact ⟨rfl, ((T4.out.drewN m).trans t6).owned⟩
theorem FseTables_law (w : World) (a0 : Option Addr) (b0 o0 l0 c0 : Nat) (z0 : Nat → Int) (w0 : IntsIn .i64 w a0 b0 o0 l0 c0 z0) (a1 : Int) (w1 : (Lit.int .i64 a1).wf = true) :
    Calls Try.prog 5 #[.slice a0 l0 c0, .int .i64 a1] w fun e w' => e = .returned (.bool true) ∧ Below w.heap.size w w' := by
  by_cases hl : 100 < l0
  · clear w0 w1
    go_enter Try.func5, Try.ntmps5
    go_wp2_with fail
    go_ret
    exact ⟨rfl, Below.refl _ _⟩
  · exact FseTables_in w a0 b0 o0 l0 c0 z0 w0 (by omega) a1
end Go.Proofs.Ytaacphmbkieacaa
