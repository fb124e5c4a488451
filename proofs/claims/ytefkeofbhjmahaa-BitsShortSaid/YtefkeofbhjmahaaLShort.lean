/- The law BitsShort, walked. -/
import Derived.Test.YtefkeofbhjmahaaG
namespace Go.Proofs.Ytefkeofbhjmahaa
open Go.RowKit Go.WideShapes
set_option linter.unusedVariables false

theorem takenL_len (l : List Bool) (n : Nat) (h : n ≤ 24) (h2 : n ≤ l.length) : takeOk n l.length = true ∧ (((takenL l n).length : Nat) : Int) = (l.length : Int) - n := by
  have hok : takeOk n l.length = true := by simp [takeOk]; omega
  refine ⟨hok, ?_⟩
  unfold takenL; rw [hok]; simp; omega

set_option maxRecDepth 100000 in
set_option maxHeartbeats 2000000 in
theorem BitsShort_in (w : World) (a0 : Option Addr) (b0 o0 l0 c0 : Nat) (z0 : Nat → Nat → Int) (w0 : RecsIn 2 w a0 b0 o0 l0 c0 z0) (hl : l0 ≤ 50) (a1 : Int) :
    Calls Try.prog 12 #[.slice a0 l0 c0, .int .i64 a1] w fun e w' => e = .returned (.bool true) ∧ Below w.heap.size w w' := by
  have d0 : decide ((50 : Int) < (l0 : Int)) = false := by simp; omega
  have Hat := Lib.hid w0.at_
  go_enter Try.func12, Try.ntmps12
  go_wp2_with fail
  refine (wnew_walk _).mono ?_
  rintro e w1 ⟨rfl, hw1, ht1, hs1⟩
  have Hw1 := Lib.hid hw1
  clear hw1 hs1
  go_wp2_with fail
  go_loopw [6] (fun i wr => ∃ k : Nat, ∃ l : List Bool, ∃ vp : Value, k ≤ l0 ∧ i = .int .i64 k ∧ Wr wr 53 w.heap.size vp l ∧ OwnB w.heap.size vp ∧ l.length ≤ 24 * k ∧ Touch (fun k => w.heap.size ≤ k) w wr) (fun i _ => l0 - (intOf i).toNat)
  case atStart => exact ⟨0, [], _, by omega, rfl, Hw1.out, OwnB.nil _, by simp, ht1.none⟩
  case round =>
    obtain ⟨k, l, vp, hk, rfl, hp, ho1, hlen, ht⟩ := hrel
    have Hp := Lib.hid hp
    clear hp Hw1
    by_cases hlt : k < l0
    · obtain rfl := Hat.out (by omega)
      obtain ⟨e0, e1⟩ := rec2 w0 ht hlt
      have hll := putL_len (z0 k 0) (z0 k 1) l
      go_wp2_with fail
      go_region_held3 (fun wx => wx.cell? ⟨b0, o0 + k * 2, none⟩ = some (.int .i64 (z0 k 0)) ∧ wx.cell? ⟨b0, o0 + k * 2 + 1, none⟩ = some (.int .i64 (z0 k 1))) (first | exact ⟨e0, e1⟩ | exact rec2 w0 (foot_own ht.drew (Nat.le_refl _) ho1 ht3) hlt) (first | (go_at_call 15; refine (put_walk _ _ _ _ _ _ Hp.out.drew (by omega)).mono ?_; rintro e w3 ⟨rfl, vp3, hp3, ht3, hf3⟩))
      have Hp3 := Lib.hid hp3
      have ho3 := ho1.fresh hf3 ht.size
      have ht' := foot_own ht.drew (Nat.le_refl _) ho1 ht3
      clear hp3
      go_wp2_with fail
      go_roundw
      case rel => exact ⟨k + 1, _, vp3, by omega, by go_num, Hp3.out, ho3, by omega, ht'⟩
      case measure => simp [intOf]; omega
    · obtain rfl : k = l0 := by omega
      have ht0 : Touch (fun _ => False) w wr := ht.mono (fun i hi h => by omega)
      clear ht d0
      go_wp2_with fail
      refine (bytes_walk _ _ _ _ Hp.out (by omega)).mono ?_
      rintro e w4 ⟨rfl, hb4, ht4⟩
      go_wp2_with fail
      refine (newr_back _ _ l _ hb4 (by omega)).mono ?_
      rintro e w5 ⟨rfl, v5, hr5, ht5, hf5⟩
      have HR5 := Lib.hid hr5
      have T4 := Lib.hid (ht0.trans ht4)
      have T5 := Lib.hid ((ht0.trans ht4).trans ht5)
      clear hb4 hr5 ht4 ht5 hf5 ht0 Hp
      go_wp2_with fail
      refine (left_walk _ _ _ _ HR5.out).mono ?_
      rintro e w6 ⟨rfl, rfl⟩
      go_wp2_with fail
      cases hok : takeOk a1 l.length with
      | false =>
        have hcase : a1 < 0 ∨ 24 < a1 ∨ (0 ≤ a1 ∧ a1 ≤ 24 ∧ (l.length : Int) < a1) := by
          simp [takeOk] at hok; omega
        refine (take_no _ _ _ _ _ HR5.out hok).mono ?_
        rintro e w7 ⟨rfl, rfl⟩
        clear hok
        rcases hcase with h | h | ⟨h, h', h''⟩
        all_goals
          go_wp2_with fail
          refine (left_walk _ _ _ _ HR5.out).mono ?_
          rintro e w8 ⟨rfl, rfl⟩
          go_wp2_with fail
          refine (known_walk _).mono ?_
          rintro e w9 ⟨rfl, ht9⟩
          go_wp2_with fail
          go_ret
          exact ⟨rfl, (T5.out.trans ht9).owned⟩
      | true =>
        obtain ⟨n, rfl, h1, h2⟩ : ∃ n : Nat, a1 = n ∧ n ≤ 24 ∧ n ≤ l.length := by
          simp [takeOk] at hok
          exact ⟨a1.toNat, by omega, by omega, by omega⟩
        have hlen2 := takenL_len l n h1 h2
        refine (take_walk _ _ _ n _ HR5.out (by omega)).mono ?_
        rintro e w7 ⟨rfl, v7, hr7, _, ht7⟩
        rw [hok]
        have HR7 := Lib.hid hr7
        have T7 := Lib.hid (T5.out.then ht7 (fun i hi hh => by have := T4.out.size; omega))
        obtain ⟨x, hx⟩ : ∃ x, takenV l n = x := ⟨_, rfl⟩
        rw [hx]
        have Hlen2 := Lib.hid hlen2.2
        clear hr7 ht7 hok hlen2 hx
        go_wp2_with fail
        refine (left_walk _ _ _ _ HR7.out).mono ?_
        rintro e w8 ⟨rfl, rfl⟩
        rw [Hlen2.out]
        go_wp2_with fail
        refine (known_walk _).mono ?_
        rintro e w9 ⟨rfl, ht9⟩
        go_wp2_with fail
        go_ret
        exact ⟨rfl, (T7.out.trans ht9).owned⟩

theorem BitsShort_law (w : World) (a0 : Option Addr) (b0 o0 l0 c0 : Nat) (z0 : Nat → Nat → Int) (w0 : RecsIn 2 w a0 b0 o0 l0 c0 z0) (a1 : Int) (w1 : (Lit.int .i64 a1).wf = true) :
    Calls Try.prog 12 #[.slice a0 l0 c0, .int .i64 a1] w fun e w' => e = .returned (.bool true) ∧ Below w.heap.size w w' := by
  by_cases hl : 50 < l0
  · clear w1
    go_enter Try.func12, Try.ntmps12
    go_wp2_with fail
    go_ret
    exact ⟨rfl, Below.refl _ _⟩
  · exact BitsShort_in w a0 b0 o0 l0 c0 z0 w0 (by omega) a1
end Go.Proofs.Ytefkeofbhjmahaa
