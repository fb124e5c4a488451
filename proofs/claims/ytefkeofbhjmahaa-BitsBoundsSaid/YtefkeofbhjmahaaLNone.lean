/- The laws BitsOfNothing and BitsBounds, walked. -/
import Derived.Test.YtefkeofbhjmahaaK
namespace Go.Proofs.Ytefkeofbhjmahaa
open Go.RowKit Go.WideShapes
set_option linter.unusedVariables false

theorem Touch.nothing {w w' : World} (h : Touch (fun _ => False) w w') : Below w.heap.size w w' := h.none.below (Nat.le_refl _)

theorem BitsOfNothing_law (w : World) (a0 : Int) (w0 : (Lit.int .i64 a0).wf = true) (a1 : Int) (w1 : (Lit.int .i64 a1).wf = true) :
    Calls Try.prog 7 #[.int .i64 a0, .int .i64 a1] w fun e w' => e = .returned (.bool true) ∧ Below w.heap.size w w' := by
  clear w0 w1
  go_enter Try.func7, Try.ntmps7
  go_wp2_with fail
  refine (take_nil _ _).mono ?_
  rintro e w1 ⟨rfl, rfl⟩
  go_wp2_with fail
  refine (put_nil _ _ _).mono ?_
  rintro e w1 ⟨rfl, rfl⟩
  go_wp2_with fail
  refine (len_nil _).mono ?_
  rintro e w1 ⟨rfl, rfl⟩
  go_wp2_with fail
  refine (bytes_nil _).mono ?_
  rintro e w1 ⟨rfl, rfl⟩
  go_wp2_with fail
  refine (left_nil _).mono ?_
  rintro e w1 ⟨rfl, rfl⟩
  go_wp2_with fail
  refine (known_walk _).mono ?_
  rintro e w6 ⟨rfl, ht6⟩
  go_wp2_with fail
  go_ret
  exact ⟨rfl, ht6.nothing⟩




set_option maxHeartbeats 1000000 in
theorem BitsBounds_no (w : World) (a0 : Int) (a1 : Int) (hno : putOk a0 a1 = false) :
    Calls Try.prog 4 #[.int .i64 a0, .int .i64 a1] w fun e w' => e = .returned (.bool true) ∧ Below w.heap.size w w' := by
  have Hno := Lib.hid hno
  clear hno
  have hcase : a1 < 0 ∨ 24 < a1 ∨ (0 ≤ a1 ∧ a1 ≤ 24) := by omega
  rcases hcase with h1 | h1 | ⟨h1, h2⟩
  rotate_left 2
  by_cases h3 : a0 < 0
  rotate_left 1
  obtain ⟨n, rfl⟩ := Int.eq_ofNat_of_zero_le (show 0 ≤ a1 by omega)
  have hp : wrap64 ((2 : Int) ^ n) ≤ a0 := by
    have h := Hno.out
    have h3 : ¬ a0 < 2 ^ n := by
      intro hlt
      simp [putOk] at h
      omega
    rw [wrap_pow n (by omega)]; exact Int.not_lt.1 (by exact_mod_cast h3)
  have hmin : min (n : Int) 24 = n := by omega
  have hmax : max 0 (n : Int) = n := by omega
  have hq : decide (a0 < wrap64 ((2 : Int) ^ n)) = false := by simpa using hp
  all_goals
    go_enter Try.func4, Try.ntmps4
    go_wp2_with fail
    refine (wnew_walk _).mono ?_
    rintro e w1 ⟨rfl, hw1, ht1, hs1⟩
    have Hw1 := Lib.hid hw1
    clear hw1 hs1
    go_wp2_with fail
    refine (put_is _ 1 1 _ _ _ [true] true Hw1.out (by simp) (by decide) (by decide)).mono ?_
    rintro e w2 ⟨rfl, v2, hw2, ht2, hf2⟩
    have Hw2 := Lib.hid hw2
    have ht2' := own_then ht1 (.inl rfl) ht2
    have hf2' := Fresh.trans (u := .slice none 0 0) (.inl rfl) hf2 ht1.size
    clear hw2 ht1 ht2 Hw1
    go_wp2_with fail
    refine (bytes_walk _ _ _ _ Hw2.out (by simp)).mono ?_
    rintro e w3 ⟨rfl, hb3, ht3⟩
    have hcv : (convert 33 9 (.slice (some ⟨w2.heap.size, 0, none⟩) 1 1)).run Try.prog w3 = .ok (.string (strBits [true])) w3 := conv_bytes (l := [true]) hb3
    have Hw3 := Lib.hid (Hw2.out.touch ht3 id (fun _ _ => id))
    have ht3' := ht2'.trans ht3
    clear Hw2 ht2' ht3 hb3
    go_wp2_with fail
    refine (put_no _ _ _ _ Hno.out).mono ?_
    rintro e w4 ⟨rfl, rfl⟩
    go_wp2_with fail
    refine (len_walk _ _ _ _ Hw3.out).mono ?_
    rintro e w5 ⟨rfl, rfl⟩
    go_wp2_with fail
    refine (bytes_walk _ _ _ _ Hw3.out (by simp)).mono ?_
    rintro e w6 ⟨rfl, hb6, ht6⟩
    have hcv6 : (convert 33 9 (.slice (some ⟨w3.heap.size, 0, none⟩) 1 1)).run Try.prog w6 = .ok (.string (strBits [true])) w6 := conv_bytes (l := [true]) hb6
    clear hcv hb6
    go_wp2_with fail
    refine (known_walk _).mono ?_
    rintro e w7 ⟨rfl, ht7⟩
    go_wp2_with fail
    go_ret
    exact ⟨rfl, ((ht3'.trans ht6).trans ht7).nothing⟩

theorem putL_one (a k : Nat) (h : putOk (a : Int) (k : Int) = true) (l : List Bool) : putL a k l = l ++ digits a k := by
  unfold putL; rw [h]; simp

set_option maxHeartbeats 1000000 in
theorem BitsBounds_yes (w : World) (a n : Nat) (h1 : n ≤ 24) (h3 : a < 2 ^ n) (hok : putOk a n = true) :
    Calls Try.prog 4 #[.int .i64 a, .int .i64 n] w fun e w' => e = .returned (.bool true) ∧ Below w.heap.size w w' := by
  have hp : (a : Int) < wrap64 ((2 : Int) ^ n) := by rw [wrap_pow n h1]; exact_mod_cast h3
  have hmin : min (n : Int) 24 = n := by omega
  have hmax : max 0 (n : Int) = n := by omega
  have hq : decide ((a : Int) < wrap64 ((2 : Int) ^ n)) = true := by simpa using hp
  have Hok := Lib.hid hok
  clear hok
  go_enter Try.func4, Try.ntmps4
  go_wp2_with fail
  refine (wnew_walk _).mono ?_
  rintro e w1 ⟨rfl, hw1, ht1, hs1⟩
  have Hw1 := Lib.hid hw1
  clear hw1 hs1
  go_wp2_with fail
  refine (put_is _ 1 1 _ _ _ [true] true Hw1.out (by simp) (by decide) (by decide)).mono ?_
  rintro e w2 ⟨rfl, v2, hw2, ht2, hf2⟩
  have Hw2 := Lib.hid hw2
  have ht2' := own_then ht1 (.inl rfl) ht2
  have hf2' := Fresh.trans (u := .slice none 0 0) (.inl rfl) hf2 ht1.size
  clear hw2 ht1 ht2 Hw1
  go_wp2_with fail
  refine (bytes_walk _ _ _ _ Hw2.out (by simp)).mono ?_
  rintro e w3 ⟨rfl, hb3, ht3⟩
  have hcv : (convert 33 9 (.slice (some ⟨w2.heap.size, 0, none⟩) 1 1)).run Try.prog w3 = .ok (.string (strBits [true])) w3 := conv_bytes (l := [true]) hb3
  have Hw3 := Lib.hid (Hw2.out.touch ht3 id (fun _ _ => id))
  have ht3' := ht2'.trans ht3
  clear Hw2 ht2' ht3 hb3
  go_wp2_with fail
  refine (put_is _ _ _ _ _ _ _ true Hw3.out (by simp) Hok.out rfl).mono ?_
  rintro e w4 ⟨rfl, v4, hw4, ht4, hf4⟩
  have ht4' := own_then ht3' hf2' ht4
  clear hw4 hf4 ht4
  go_wp2_with fail
  refine (known_walk _).mono ?_
  rintro e w7 ⟨rfl, ht7⟩
  go_wp2_with fail
  go_ret
  exact ⟨rfl, (ht4'.trans ht7).nothing⟩

theorem BitsBounds_law (w : World) (a0 : Int) (w0 : (Lit.int .i64 a0).wf = true) (a1 : Int) (w1 : (Lit.int .i64 a1).wf = true) :
    Calls Try.prog 4 #[.int .i64 a0, .int .i64 a1] w fun e w' => e = .returned (.bool true) ∧ Below w.heap.size w w' := by
  cases h : putOk a0 a1 with
  | false => exact BitsBounds_no w a0 a1 h
  | true =>
    obtain ⟨a, k, rfl, rfl, hk, ha⟩ := putOk_yes h
    exact BitsBounds_yes w a k hk ha h
end Go.Proofs.Ytefkeofbhjmahaa
