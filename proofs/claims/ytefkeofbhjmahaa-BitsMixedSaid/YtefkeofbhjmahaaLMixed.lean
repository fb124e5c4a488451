/- The law BitsMixed, walked. -/
import Derived.Test.YtefkeofbhjmahaaH
namespace Go.Proofs.Ytefkeofbhjmahaa
open Go.RowKit Go.WideShapes
set_option linter.unusedVariables false

theorem and_15 (a : Int) : ∃ n : Nat, n ≤ 15 ∧ bits BinOp.and IntKind.i64 a 15 = n := by
  have h1 : (BitVec.ofInt 64 15).toNat = 15 := by decide
  refine ⟨(BitVec.ofInt 64 a &&& BitVec.ofInt 64 15).toNat, ?_, ?_⟩
  · rw [BitVec.toNat_and, h1]; exact Nat.and_le_right
  · have h2 : (BitVec.ofInt 64 a &&& BitVec.ofInt 64 15).toNat ≤ 15 := by rw [BitVec.toNat_and, h1]; exact Nat.and_le_right
    show IntKind.i64.wrap ((BitVec.ofInt 64 a &&& BitVec.ofInt 64 15).toNat : Nat) = _
    rw [IntKind.wrap_i64]; omega
/-- The digits of z from place q on, p of them, as a number. -/
def winV (z : Nat → Nat) (q p : Nat) : Nat := ofBits (fun i => bitOf z (q + i)) p
theorem winV_lt (z : Nat → Nat) (q p : Nat) : winV z q p < 2 ^ p := ofBits_lt _ _
theorem winV_succ (z : Nat → Nat) (q p : Nat) : winV z q (p + 1) = winV z (q + 1) p * 2 + winV z q 1 := by
  unfold winV
  rw [ofBits_shift]
  have : (fun i => bitOf z (q + (i + 1))) = fun i => bitOf z (q + 1 + i) := funext fun i => by congr 1; omega
  rw [this]
  simp only [ofBits, Nat.add_zero]
  by_cases h : bitOf z q <;> simp [h] <;> omega
theorem takenV_win (z : Nat → Nat) (q p : Nat) (hp : p ≤ 24) : takenV (readBits z (q + p)) p = winV z q p ∧ takeOk p (q + p) = true ∧ leftN (q + p) p = q := by
  have hok : takeOk (p : Int) (q + p) = true := by simp [takeOk]; omega
  refine ⟨?_, hok, ?_⟩
  · unfold takenV; rw [readBits_length, hok, if_pos rfl, Int.toNat_natCast, takeV_read]; rfl
  · unfold leftN; rw [hok, if_pos rfl]; simp

set_option maxRecDepth 100000 in
set_option maxHeartbeats 2000000 in
theorem BitsMixed_in (w : World) (b0 o0 m c0 : Nat) (z0 : Nat → Int) (w0 : IntsIn .u8 w (some ⟨b0, o0, none⟩) b0 o0 (m + 1) c0 z0) (a1 : Option Addr) (b1 o1 l1 c1 : Nat) (z1 : Nat → Int) (w1 : IntsIn .i64 w a1 b1 o1 l1 c1 z1)
    (hl0 : m < 100) (hl1 : l1 ≤ 100) (x : Nat) (hx0 : x ≠ 0) (hx : z0 m = x) :
    Calls Try.prog 13 #[.slice (some ⟨b0, o0, none⟩) (m + 1) c0, .slice a1 l1 c1] w fun e w' => e = .returned (.bool true) ∧ Below w.heap.size w w' := by
  have d1 : decide ((100 : Int) < (l1 : Int)) = false := by simp; omega
  have hc := w0.cell m (by omega)
  rw [hx] at hc
  have hq : ((x : Int) == 0) = false := by simp; omega
  obtain ⟨z, hzd⟩ : ∃ z : Nat → Nat, (fun i => (z0 i).toNat) = z := ⟨_, rfl⟩
  have Hz : Hid (Seen w (some ⟨b0, o0, none⟩) b0 o0 (m + 1) z) := Lib.hid (by rw [← hzd]; exact seen_in w0 (Touch.refl _ w))
  have hzx : z m = x := by rw [← hzd]; simp [hx]
  have hzm : z m ≠ 0 := by rw [hzx]; exact hx0
  have W0 := Lib.hid w0
  have W1 := Lib.hid w1
  have hb0 := w0.lt (by omega)
  clear w0 w1 hx hzd
  go_enter Try.func13, Try.ntmps13
  go_wp2_with fail
  refine (newr_yes _ _ m _ z _ Hz.out hzm (by omega)).mono ?_
  rintro e w3 ⟨rfl, v3, hr3, ht3, hf3⟩
  clear hc
  go_wp2_with fail
  refine (rnewr_yes _ _ m _ z _ (Hz.out.touch ht3 id) hzm (by omega)).mono ?_
  rintro e w4 ⟨rfl, hx4, ht4⟩
  have hl8 := log2_lt8 (z m) (Hz.out.lt m)
  obtain ⟨N, hN⟩ : ∃ N, 8 * m + Nat.log2 (z m) = N := ⟨_, rfl⟩
  rw [hN] at hx4 hr3
  have hNm : N ≤ 8 * (m + 1) := by omega
  have HX4 := Lib.hid hx4
  have HR4 := Lib.hid (hr3.touch ht4 id (fun _ _ => id))
  have hv3 : v3.ownBlock ≠ some w3.heap.size := fun e => by have := hr3.lt.2 _ e; omega
  have hne3 : w.heap.size ≠ w3.heap.size := by have := hr3.lt.1; omega
  have S3 := Lib.hid ht3.size
  have T4 := Lib.hid (ht3.trans ht4)
  clear hx4 ht4 hr3 hN hl8 hzm hzx ht3 hf3
  go_wp2_with fail
  go_loopw [9, 10, 11, 12, 13, 14, 15, 16] (fun i _ _ _ _ _ _ _ wr => ∃ k N' : Nat, ∃ v : Value, k ≤ l1 ∧ i = .int .i64 k ∧ N' ≤ N ∧ Wr wr 56 w.heap.size v (readBits z N') ∧ v.ownBlock = v3.ownBlock ∧ Rd wr w3.heap.size (.slice (some ⟨b0, o0, none⟩) (m + 1) c0) N' ∧ Touch (fun _ => False) w wr) (fun i _ _ _ _ _ _ _ _ => l1 - (intOf i).toNat)
  case atStart => exact ⟨0, N, v3, by omega, rfl, by omega, HR4.out, rfl, HX4.out, T4.out⟩
  case round =>
    obtain ⟨k, N', v, hk, rfl, hN', hr, hvo, hxx, htt⟩ := hrel
    have HR := Lib.hid hr
    have HX := Lib.hid hxx
    clear hr hxx HR4 HX4 T4
    by_cases hlt : k < l1
    · have hat1 := W1.out.at_ (by omega)
      subst hat1
      have e1 := htt.cell (W1.out.cell k hlt) id
      obtain ⟨n, hn, hand⟩ := and_15 (z1 k)
      go_wp2_with fail
      refine (take_walk _ _ _ n _ HR.out (by rw [readBits_length]; omega)).mono ?_
      rintro e w5 ⟨rfl, v5, hr5, hvo5, ht5⟩
      rw [takeOk_read]
      rw [takenL_read] at hr5
      have T5 := Lib.hid (htt.then ht5 (fun i hi hh => by omega))
      have HX5 := Lib.hid (HX.out.touch ht5 (fun e => hne3 e.symm))
      by_cases hle : n ≤ N'
      · obtain ⟨q, rfl⟩ : ∃ q, N' = q + n := ⟨N' - n, by omega⟩
        obtain ⟨t1, t2, t3⟩ := takenV_win z q n (by omega)
        rw [t1, t2]
        rw [t3] at hr5
        have HR5 := Lib.hid hr5
        have hvl := winV_lt z q n
        have HQ := Lib.hid (rfl : winV z q n = winV z q n)
        obtain ⟨y, hy⟩ : ∃ y, winV z q n = y := ⟨_, rfl⟩
        rw [hy]
        have Hy := Lib.hid hy
        clear hr5 ht5 HX HR htt e1 t1 t2 t3 hand hvl hy HQ
        go_wp2_with fail
        go_loopw [13, 14, 15, 16] (fun acc j _ _ wx => ∃ p r : Nat, r + p = n ∧ j = .int .i64 r ∧ acc = .int .i64 (winV z (q + p) r) ∧ Wr wx 56 w.heap.size v5 (readBits z q) ∧ Rd wx w3.heap.size (.slice (some ⟨b0, o0, none⟩) (m + 1) c0) (q + p) ∧ Touch (fun _ => False) w wx) (fun _ j _ _ _ => n - (intOf j).toNat)
        case atStart => exact ⟨n, 0, by omega, rfl, rfl, HR5.out, HX5.out, T5.out⟩
        case round =>
          obtain ⟨p, r, hpr, rfl, rfl, hr, hxx, htx⟩ := hrel
          have HR6 := Lib.hid hr
          have HX6 := Lib.hid hxx
          clear hr hxx HR5 HX5 T5
          by_cases hrn : r < n
          · obtain ⟨p, rfl⟩ : ∃ i, p = i + 1 := ⟨p - 1, by omega⟩
            obtain ⟨t1, t2, t3⟩ := takenV_win z (q + p) 1 (by omega)
            have hs := winV_succ z (q + p) r
            rw [show q + p + 1 = q + (p + 1) by omega] at hs t1 t2 t3
            have hl1 := winV_lt z (q + (p + 1)) r
            have hl2 := winV_lt z (q + p) 1
            have hl3 : 2 ^ r ≤ 2 ^ 15 := Nat.pow_le_pow_right (by omega) (by omega)
            obtain ⟨acc, hacc⟩ : ∃ acc, winV z (q + (p + 1)) r = acc := ⟨_, rfl⟩
            obtain ⟨d, hd⟩ : ∃ d, winV z (q + p) 1 = d := ⟨_, rfl⟩
            rw [hacc] at hl1 hs
            rw [hd] at hl2 hs t1
            rw [hacc]
            have hb1 : acc ≤ 40000 := by omega
            have hb2 : d ≤ 2 := by omega
            have Hs := Lib.hid hs
            clear hs hl1 hl2 hl3 hacc hd
            go_wp2_with fail
            refine (rtake_walk _ _ _ _ _ (q + (p + 1)) _ z 1 _ HX6.out (Hz.out.touch htx id) (by omega) (by omega) (fun e => by have := S3.out; omega)).mono ?_
            rintro e w6 ⟨rfl, hx6, _, ht6⟩
            have hx6' : Rd w6 w3.heap.size (.slice (some ⟨b0, o0, none⟩) (m + 1) c0) (leftN (q + (p + 1)) 1) := hx6
            have t1' : takenV (readBits z (q + (p + 1))) 1 = d := t1
            have t2' : takeOk 1 (q + (p + 1)) = true := t2
            have t3' : leftN (q + (p + 1)) 1 = q + p := t3
            rw [t3'] at hx6'
            rw [t1', t2']
            have hr6 := HR6.out.touch ht6 hne3 (fun i hi hh => hv3 (by rw [← hvo, ← hvo5, hi, hh]))
            have T6 := Lib.hid (htx.then ht6 (fun i hi hh => by have := S3.out; omega))
            have HX7 := Lib.hid hx6'
            have HR7 := Lib.hid hr6
            clear hx6 hx6' hr6 ht6 t1 t2 t3 t1' t2' t3'
            go_wp2_with fail
            go_roundw
            case rel => exact ⟨p, r + 1, by omega, by go_num, by rw [Hs.out]; go_num, HR7.out, HX7.out, T6.out⟩
            case measure => simp [intOf]; omega
          · obtain rfl : p = 0 := by omega
            obtain rfl : r = n := by omega
            rw [show q + 0 = q by omega] at HX6 ⊢
            rw [Hy.out]
            go_wp2_with fail
            go_roundw
            case rel => exact ⟨k + 1, q, v5, by omega, by go_num, by omega, HR6.out, hvo5.trans hvo, HX6.out, htx⟩
            case measure => simp [intOf]; omega
      · have hno : takeOk (n : Int) N' = false := by simp [takeOk]; omega
        have hleft : leftN N' n = N' := by unfold leftN; rw [hno]; simp
        have hv0 : takenV (readBits z N') n = 0 := by unfold takenV; rw [readBits_length, hno]; simp
        rw [hno, hv0]
        rw [hleft] at hr5
        have hlen : ((readBits z N').length : Int) = N' := by rw [readBits_length]
        have HR5 := Lib.hid hr5
        clear hr5 ht5 HX HR htt e1 hand hno hleft hv0
        go_wp2_with fail
        go_loopw [13, 14, 15, 16] (fun _ j _ _ wx => j = .int .i64 0 ∧ Wr wx 56 w.heap.size v5 (readBits z N') ∧ Touch (fun _ => False) w wx) (fun _ _ _ _ _ => 0)
        case atStart => exact ⟨rfl, HR5.out, T5.out⟩
        case round =>
          obtain ⟨rfl, hr, htx⟩ := hrel
          have HR6 := Lib.hid hr
          clear hr
          have hn0 : 0 < n := by omega
          go_wp2_with fail
          refine (left_walk _ _ _ _ HR6.out).mono ?_
          rintro e w6 ⟨rfl, rfl⟩
          rw [hlen]
          go_wp2_with fail
          refine (known_walk _).mono ?_
          rintro e w9 ⟨rfl, ht9⟩
          go_wp2_with fail
          go_ret
          exact ⟨rfl, (htx.trans ht9).owned⟩
    · obtain rfl : k = l1 := by omega
      have hcx : wr.drew.cell? ⟨w3.heap.size, 1, none⟩ = some (.int .i64 N') := HX.out.cellN
      have hlen : ((readBits z N').length : Int) = N' := by rw [readBits_length]
      go_wp2_with fail
      go_region_held3 (fun wx => wx.cell? ⟨w3.heap.size, 1, none⟩ = some (.int .i64 N')) (first | exact hcx | exact ht9.cell hcx id) (first | (go_at_call 22; refine (left_walk _ _ _ _ HR.out.drew).mono ?_; rintro e w6 ⟨rfl, rfl⟩; rw [hlen]) | (go_at_call 20; refine (known_walk _).mono ?_; rintro e w9 ⟨rfl, ht9⟩))
      go_wp2_with fail
      go_ret
      exact ⟨rfl, (htt.drew.trans ht9).owned⟩

theorem BitsMixed_law (w : World) (a0 : Option Addr) (b0 o0 l0 c0 : Nat) (z0 : Nat → Int) (w0 : IntsIn .u8 w a0 b0 o0 l0 c0 z0) (a1 : Option Addr) (b1 o1 l1 c1 : Nat) (z1 : Nat → Int) (w1 : IntsIn .i64 w a1 b1 o1 l1 c1 z1) :
    Calls Try.prog 13 #[.slice a0 l0 c0, .slice a1 l1 c1] w fun e w' => e = .returned (.bool true) ∧ Below w.heap.size w w' := by
  by_cases h0 : l0 = 0
  · subst h0
    go_enter Try.func13, Try.ntmps13
    go_wp2_with fail
    go_ret
    exact ⟨rfl, Below.refl _ _⟩
  by_cases h1 : 100 < l0
  · go_enter Try.func13, Try.ntmps13
    go_wp2_with fail
    go_ret
    exact ⟨rfl, Below.refl _ _⟩
  obtain ⟨m, rfl⟩ : ∃ m, l0 = m + 1 := ⟨l0 - 1, by omega⟩
  obtain rfl := w0.at_ (by omega)
  have hc := w0.cell m (by omega)
  have hw := u8_wf (w0.wf m)
  obtain ⟨x, hx⟩ := Int.eq_ofNat_of_zero_le hw.1
  by_cases hx0 : x = 0
  · subst hx0
    rw [hx] at hc
    go_enter Try.func13, Try.ntmps13
    go_wp2_with fail
    go_ret
    exact ⟨rfl, Below.refl _ _⟩
  by_cases h2 : 100 < l1
  · rw [hx] at hc
    have hq : ((x : Int) == 0) = false := by simp; omega
    go_enter Try.func13, Try.ntmps13
    go_wp2_with fail
    go_ret
    exact ⟨rfl, Below.refl _ _⟩
  exact BitsMixed_in w b0 o0 m c0 z0 w0 a1 b1 o1 l1 c1 z1 w1 (by omega) (by omega) x hx0 hx
end Go.Proofs.Ytefkeofbhjmahaa
