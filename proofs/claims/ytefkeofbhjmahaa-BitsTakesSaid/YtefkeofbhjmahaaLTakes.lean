/- The law BitsTakes, walked. -/
import Derived.Test.YtefkeofbhjmahaaH
namespace Go.Proofs.Ytefkeofbhjmahaa
open Go.RowKit Go.WideShapes
set_option linter.unusedVariables false

set_option maxRecDepth 100000 in
set_option maxHeartbeats 2000000 in
theorem BitsTakes_in (w : World) (a0 : Option Addr) (b0 o0 l0 c0 : Nat) (z0 : Nat → Int) (w0 : IntsIn .u8 w a0 b0 o0 l0 c0 z0) (a1 : Option Addr) (b1 o1 l1 c1 : Nat) (z1 : Nat → Int) (w1 : IntsIn .i64 w a1 b1 o1 l1 c1 z1)
    (hl0 : l0 ≤ 300) (hl1 : l1 ≤ 200) :
    Calls Try.prog 10 #[.slice a0 l0 c0, .slice a1 l1 c1] w fun e w' => e = .returned (.bool true) ∧ Below w.heap.size w w' := by
  obtain ⟨i0, hi, hz0, hz1, hz2⟩ := info_parts Try.info5
  have d0 : decide ((300 : Int) < (l0 : Int)) = false := by simp; omega
  have d1 : decide ((200 : Int) < (l1 : Int)) = false := by simp; omega
  have W0 := Lib.hid w0
  have W1 := Lib.hid w1
  clear w0 w1
  go_enter Try.func10, Try.ntmps10
  go_wp2_with (first
    | (refine wpList_append_mine rfl (.tmp 23) (.tmp 24) 33 33 rfl 5 i0 (.int .u8 0) 1 1 Try.underlying33 hi hz0 hz1 hz2 rfl (.slice (some ⟨w.heap.size, 0, none⟩) 0 0) _ _ rfl (row_of_tab (m := 0) (F := fun _ => .int .u8 0) (heap_alloc_new _ _) (by unfold maxLen; omega)) _ l0 _ rfl (src_ints Try.underlying33 W0.out (fun i hi => ((Touch.refl (fun _ => False) w).alloc _).cell (W0.out.cell i hi) id)) (by unfold maxLen; omega) (by omega) ?_; intro a2 c2 w2 hown ht hf _; simp only [Nat.zero_add] at hown hf ⊢))
  have hb1 : OwnB w.heap.size (.slice (some ⟨w.heap.size, 0, none⟩) 0 0) := fun k hk => by simp [Value.ownBlock] at hk; omega
  have t2 : Touch (fun _ => False) w w2 := own_app ((Touch.refl _ w).alloc _) hb1 ht
  by_cases hl : l0 = 0
  · subst hl
    clear hown hf ht hb1
    refine (newr_none _ _ _).mono ?_
    rintro e w3 ⟨rfl, rfl⟩
    go_wp2_with fail
    refine (rnewr_none _ _ _).mono ?_
    rintro e w3 ⟨rfl, rfl⟩
    go_wp2_with fail
    go_loopw [9, 10, 11, 12, 13] (fun i _ _ _ _ wr => i = .int .i64 0 ∧ Touch (fun _ => False) w wr) (fun _ _ _ _ _ _ => 0)
    case atStart => exact ⟨rfl, t2⟩
    case round =>
      obtain ⟨rfl, htt⟩ := hrel
      by_cases hlt : 0 < l1
      all_goals
        go_wp2_with fail
        refine (known_walk _).mono ?_
        rintro e w9 ⟨rfl, ht9⟩
        go_wp2_with fail
        go_ret
        exact ⟨rfl, (htt.trans ht9).owned⟩
  obtain ⟨m, rfl⟩ : ∃ m, l0 = m + 1 := ⟨l0 - 1, by omega⟩
  rcases row_form hown with ⟨h, _⟩ | ⟨g, c, h⟩
  · simp at h
  simp at h
  obtain ⟨rfl, rfl⟩ := h
  have hz := seen_in W0.out t2
  obtain ⟨z, hzd⟩ : ∃ z : Nat → Nat, (fun i => (z0 i).toNat) = z := ⟨_, rfl⟩
  rw [hzd] at hz
  have hseen : Seen w2 (some ⟨g, 0, none⟩) g 0 (m + 1) z := by
    refine seen_row hown rfl z (fun i hi => ?_) hz.lt
    rw [show List.map (fun _ => Value.int .u8 0) (List.range 0) ++ cellsZ .u8 z0 (m + 1) = cellsZ .u8 z0 (m + 1) from rfl, cellsZ_get hi, ← hzd]
    have := u8_wf (W0.out.wf i)
    congr 2; simp only; omega
  have Sc := Lib.hid hseen
  have hat := W0.out.at_ (by omega)
  subst hat
  have Hz := Lib.hid hz
  have Hzw : Hid (Seen w (some ⟨b0, o0, none⟩) b0 o0 (m + 1) z) := Lib.hid (by rw [← hzd]; exact seen_in W0.out (Touch.refl _ w))
  have T2 := Lib.hid t2
  have hb0 := W0.out.lt (by omega)
  clear hown hf ht hb1 hz hseen hzd t2
  by_cases hx : z m = 0
  · have hc1 := Sc.out.cell m (by omega)
    have hc2 := Hz.out.cell m (by omega)
    rw [hx] at hc1 hc2
    refine (newr_zero _ _ _ _ _ (by omega) hc1).mono ?_
    rintro e w3 ⟨rfl, rfl⟩
    go_wp2_with fail
    refine (rnewr_zero _ _ _ _ _ (by omega) hc2).mono ?_
    rintro e w3 ⟨rfl, rfl⟩
    clear hc1 hc2
    go_wp2_with fail
    go_loopw [9, 10, 11, 12, 13] (fun i _ _ _ _ wr => i = .int .i64 0 ∧ Touch (fun _ => False) w wr) (fun _ _ _ _ _ _ => 0)
    case atStart => exact ⟨rfl, T2.out⟩
    case round =>
      obtain ⟨rfl, htt⟩ := hrel
      by_cases hlt : 0 < l1
      all_goals
        go_wp2_with fail
        refine (known_walk _).mono ?_
        rintro e w9 ⟨rfl, ht9⟩
        go_wp2_with fail
        go_ret
        exact ⟨rfl, (htt.trans ht9).owned⟩
  refine (newr_yes _ _ m _ z _ Sc.out hx (by omega)).mono ?_
  rintro e w3 ⟨rfl, v3, hr3, ht3, hf3⟩
  have HR3 := Lib.hid hr3
  have Hz3 := Lib.hid (Hz.out.touch ht3 id)
  have T3 := Lib.hid (T2.out.trans ht3)
  clear hr3 ht3 Sc Hz
  go_wp2_with fail
  refine (rnewr_yes _ _ m _ z _ Hz3.out hx (by omega)).mono ?_
  rintro e w4 ⟨rfl, hx4, ht4⟩
  have hl8 := log2_lt8 (z m) (Hz3.out.lt m)
  obtain ⟨N, hN⟩ : ∃ N, 8 * m + Nat.log2 (z m) = N := ⟨_, rfl⟩
  rw [hN] at hx4 HR3
  have hNm : N ≤ 8 * (m + 1) := by omega
  have HX4 := Lib.hid hx4
  have HR4 := Lib.hid (HR3.out.touch ht4 id (fun _ _ => id))
  have hv3 : v3.ownBlock ≠ some w3.heap.size := fun e => by have := HR3.out.lt.2 _ e; omega
  have hne3 : w2.heap.size ≠ w3.heap.size := by have := HR3.out.lt.1; omega
  have S3 := Lib.hid T3.out.size
  have S2 := Lib.hid T2.out.size
  have T4 := Lib.hid (T3.out.trans ht4)
  have O3 := Lib.hid ((OwnB.nil w.heap.size).fresh hf3 T2.out.size)
  clear hx4 ht4 HR3 hN hl8 hx T2 T3 hf3
  go_wp2_with fail
  go_loopw [9, 10, 11, 12, 13] (fun i _ _ _ _ wr => ∃ k N' : Nat, ∃ v : Value, k ≤ l1 ∧ i = .int .i64 k ∧ N' ≤ N ∧ Wr wr 56 w2.heap.size v (readBits z N') ∧ v.ownBlock = v3.ownBlock ∧ Rd wr w3.heap.size (.slice (some ⟨b0, o0, none⟩) (m + 1) c0) N' ∧ Touch (fun _ => False) w wr) (fun i _ _ _ _ _ => l1 - (intOf i).toNat)
  case atStart => exact ⟨0, N, v3, by omega, rfl, by omega, HR4.out, rfl, HX4.out, T4.out⟩
  case round =>
    obtain ⟨k, N', v, hk, rfl, hN', hr, hvo, hxx, htt⟩ := hrel
    have HR := Lib.hid hr
    have HX := Lib.hid hxx
    clear hr hxx HR4 HX4 T4
    by_cases hlt : k < l1
    · have hat1 := W1.out.at_ (by omega)
      subst hat1
      have e1 := htt.cell (W1.out.cell k hlt) id
      go_wp2_with fail
      refine (take_walk _ _ _ (z1 k) _ HR.out (by rw [readBits_length]; omega)).mono ?_
      rintro e w5 ⟨rfl, v5, hr5, hvo5, ht5⟩
      rw [takeOk_read]
      rw [takenL_read] at hr5
      have T5 := Lib.hid (htt.then ht5 (fun i hi hh => by have := S2.out; omega))
      have HX5 := Lib.hid (HX.out.touch ht5 (fun e => hne3 e.symm))
      have HR5 := Lib.hid hr5
      have e1' := T5.out.cell (W1.out.cell k hlt) id
      clear hr5 ht5 HX HR htt
      go_wp2_with fail
      refine (rtake_walk _ _ _ _ _ N' _ z (z1 k) _ HX5.out (Hzw.out.touch T5.out id) (by omega) (by omega) (fun e => by have := S3.out; omega)).mono ?_
      rintro e w6 ⟨rfl, hx6, _, ht6⟩
      have hx6' : Rd w6 w3.heap.size (.slice (some ⟨b0, o0, none⟩) (m + 1) c0) (leftN N' (z1 k)) := hx6
      have hle := leftN_le N' (z1 k)
      have hr6 := HR5.out.touch ht6 hne3 (fun i hi hh => hv3 (by rw [← hvo, ← hvo5, hi, hh]))
      have T6 := Lib.hid (T5.out.then ht6 (fun i hi hh => by have := S3.out; omega))
      obtain ⟨N2, hN2⟩ : ∃ N2, leftN N' (z1 k) = N2 := ⟨_, rfl⟩
      obtain ⟨x, hx⟩ : ∃ x, takenV (readBits z N') (z1 k) = x := ⟨_, rfl⟩
      obtain ⟨ok, hok⟩ : ∃ ok, takeOk (z1 k) N' = ok := ⟨_, rfl⟩
      rw [hN2] at hx6' hle hr6
      rw [hx, hok]
      have hleft : ∀ n, Calls Try.prog 22 #[.pointer (some ⟨w2.heap.size, 0, none⟩)] (w6.drewN n) fun e w' => e = .returned (.int .i64 N2) ∧ w6.drewN n = w' := fun n => by
        have := left_walk _ _ _ _ (hr6.drewN n); rwa [readBits_length] at this
      have Hleft := Lib.hid hleft
      have hcx := hx6'.cellN
      have HX6 := Lib.hid hx6'
      have HR6 := Lib.hid hr6
      clear hx6 hx6' ht6 hr6 hleft hN2 hx hok HR5 HX5 T5 e1 e1'
      go_wp2_with fail
      go_quiet ((go_at_call 22; exact quiet_same (Hleft.out _)))
      go_wp2_with fail
      go_roundw
      case rel => exact ⟨k + 1, N2, v5, by omega, by go_num, by omega, HR6.out.drewN _, hvo5.trans hvo, HX6.out.drewN _, T6.out.drewN _⟩
      case measure => simp [intOf]; omega
    · obtain rfl : k = l1 := by omega
      go_wp2_with fail
      refine (known_walk _).mono ?_
      rintro e w9 ⟨rfl, ht9⟩
      go_wp2_with fail
      go_ret
      exact ⟨rfl, (htt.trans ht9).owned⟩

theorem BitsTakes_law (w : World) (a0 : Option Addr) (b0 o0 l0 c0 : Nat) (z0 : Nat → Int) (w0 : IntsIn .u8 w a0 b0 o0 l0 c0 z0) (a1 : Option Addr) (b1 o1 l1 c1 : Nat) (z1 : Nat → Int) (w1 : IntsIn .i64 w a1 b1 o1 l1 c1 z1) :
    Calls Try.prog 10 #[.slice a0 l0 c0, .slice a1 l1 c1] w fun e w' => e = .returned (.bool true) ∧ Below w.heap.size w w' := by
  by_cases h1 : 300 < l0
  · go_enter Try.func10, Try.ntmps10
    go_wp2_with fail
    go_ret
    exact ⟨rfl, Below.refl _ _⟩
  by_cases h2 : 200 < l1
  · go_enter Try.func10, Try.ntmps10
    go_wp2_with fail
    go_ret
    exact ⟨rfl, Below.refl _ _⟩
  exact BitsTakes_in w a0 b0 o0 l0 c0 z0 w0 a1 b1 o1 l1 c1 z1 w1 (by omega) (by omega)
end Go.Proofs.Ytefkeofbhjmahaa
