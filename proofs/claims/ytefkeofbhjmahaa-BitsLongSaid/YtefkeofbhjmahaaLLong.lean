/- The law BitsLong, walked. -/
import Derived.Test.YtefkeofbhjmahaaK
namespace Go.Proofs.Ytefkeofbhjmahaa
open Go.RowKit Go.WideShapes
set_option linter.unusedVariables false

theorem byteAt_last (l : List Bool) : byteAt (l ++ [true]) (l.length / 8) ≠ 0 := by
  intro h
  have := byteAt_testBit (l ++ [true]) (l.length / 8) (l.length % 8)
  rw [h, show 8 * (l.length / 8) + l.length % 8 = l.length by omega] at this
  simp [List.getD_eq_getElem?_getD] at this
  omega

set_option maxRecDepth 100000 in
set_option maxHeartbeats 1000000 in
theorem BitsLong_in (w : World) (a0 : Option Addr) (b0 o0 l0 c0 : Nat) (z0 : Nat → Nat → Int) (w0 : RecsIn 2 w a0 b0 o0 l0 c0 z0) (hl : l0 ≤ 100) :
    Calls Try.prog 5 #[.slice a0 l0 c0] w fun e w' => e = .returned (.bool true) ∧ Below w.heap.size w w' := by
  have d0 : decide ((100 : Int) < (l0 : Int)) = false := by simp; omega
  have Hat := Lib.hid w0.at_
  go_enter Try.func5, Try.ntmps5
  go_wp2_with fail
  refine (wnew_walk _).mono ?_
  rintro e w1 ⟨rfl, hw1, ht1, hs1⟩
  have Hw1 := Lib.hid hw1
  clear hw1 hs1
  go_wp2_with fail
  go_loopw [4] (fun i wr => ∃ k : Nat, ∃ l : List Bool, ∃ vp : Value, k ≤ l0 ∧ i = .int .i64 k ∧ Wr wr 53 w.heap.size vp l ∧ OwnB w.heap.size vp ∧ l.length ≤ 24 * k ∧ Touch (fun k => w.heap.size ≤ k) w wr) (fun i _ => l0 - (intOf i).toNat)
  case atStart => exact ⟨0, [], _, by omega, rfl, Hw1.out, OwnB.nil _, by simp, ht1.none⟩
  case round =>
    obtain ⟨k, l, vp, hk, rfl, hp, ho1, hlen, ht⟩ := hrel
    have Hp := Lib.hid hp
    clear hp Hw1
    by_cases hlt : k < l0
    · obtain rfl := Hat.out (by omega)
      obtain ⟨e0, e1⟩ := rec2 w0 ht hlt
      have hll := putL_len (z0 k 0) (z0 k 1) l
      go_wp2_with fail
      go_region_held3 (fun wx => wx.cell? ⟨b0, o0 + k * 2, none⟩ = some (.int .i64 (z0 k 0)) ∧ wx.cell? ⟨b0, o0 + k * 2 + 1, none⟩ = some (.int .i64 (z0 k 1))) (first | exact ⟨e0, e1⟩ | exact rec2 w0 (foot_own ht.drew (Nat.le_refl _) ho1 ht3) hlt) (first | (go_at_call 15; refine (put_walk _ _ _ _ _ _ Hp.out.drew (by omega)).mono ?_; rintro e w3 ⟨rfl, vp3, hp3, ht3, hf3⟩))
      have Hp3 := Lib.hid hp3
      have ho3 := ho1.fresh hf3 ht.size
      have ht' := foot_own ht.drew (Nat.le_refl _) ho1 ht3
      clear hp3
      go_wp2_with fail
      go_roundw
      case rel => exact ⟨k + 1, _, vp3, by omega, by go_num, Hp3.out, ho3, by omega, ht'⟩
      case measure => simp [intOf]; omega
    · obtain rfl : k = l0 := by omega
      go_wp2_with fail
      refine (bytes_walk _ _ _ _ Hp.out (by omega)).mono ?_
      rintro e w4 ⟨rfl, hb4, ht4⟩
      have Hp4 := Lib.hid (Hp.out.touch ht4 id (fun _ _ => id))
      have hcb := tab_cell hb4 (show l.length / 8 < l.length / 8 + 1 by omega)
      have hnz := byteAt_last l
      obtain ⟨x, hx⟩ : ∃ x, byteAt (l ++ [true]) (l.length / 8) = x := ⟨_, rfl⟩
      rw [bytesF, hx] at hcb
      rw [hx] at hnz
      have hx0 : ((x : Int) != 0) = true := by simp; omega
      clear hx hnz hb4
      go_wp2_with fail
      refine (len_walk _ _ _ _ Hp4.out).mono ?_
      rintro e w5 ⟨rfl, rfl⟩
      go_wp2_with fail
      refine (known_walk _).mono ?_
      rintro e w6 ⟨rfl, ht6⟩
      go_wp2_with fail
      go_ret
      exact ⟨rfl, ((ht.then ht4 (fun _ _ h => h.elim)).then ht6 (fun _ _ h => h.elim)).below (Nat.le_refl _)⟩

theorem BitsLong_law (w : World) (a0 : Option Addr) (b0 o0 l0 c0 : Nat) (z0 : Nat → Nat → Int) (w0 : RecsIn 2 w a0 b0 o0 l0 c0 z0) :
    Calls Try.prog 5 #[.slice a0 l0 c0] w fun e w' => e = .returned (.bool true) ∧ Below w.heap.size w w' := by
  by_cases hl : 100 < l0
  · go_enter Try.func5, Try.ntmps5
    go_wp2_with fail
    go_ret
    exact ⟨rfl, Below.refl _ _⟩
  · exact BitsLong_in w a0 b0 o0 l0 c0 z0 w0 (by omega)
end Go.Proofs.Ytefkeofbhjmahaa
