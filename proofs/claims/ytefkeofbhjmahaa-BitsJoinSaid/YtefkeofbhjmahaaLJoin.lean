/- The law BitsJoin, walked. -/
import Derived.Test.YtefkeofbhjmahaaG
namespace Go.Proofs.Ytefkeofbhjmahaa
open Go.RowKit Go.WideShapes
set_option linter.unusedVariables false

theorem digits_take_succ (a n m : Nat) (h : m < n) : (digits a n).take (m + 1) = (digits a n).take m ++ [a.testBit m] := by
  have : (digits a n)[m]? = some (a.testBit m) := by simp [digits, h]
  rw [List.take_add_one, this]; rfl

set_option maxRecDepth 100000 in
set_option maxHeartbeats 2000000 in
theorem BitsJoin_in (w : World) (a n : Nat) (h1 : n ≤ 24) (h3 : a < 2 ^ n) (hok : putOk a n = true) :
    Calls Try.prog 8 #[.int .i64 a, .int .i64 n] w fun e w' => e = .returned (.bool true) ∧ Below w.heap.size w w' := by
  have hp : (a : Int) < wrap64 ((2 : Int) ^ n) := by rw [wrap_pow n h1]; exact_mod_cast h3
  have hq : decide (wrap64 ((2 : Int) ^ n) ≤ (a : Int)) = false := by simpa using hp
  have hq2 : decide ((24 : Int) < (n : Int)) = false := by simp; omega
  have hal : a < 2 ^ 24 := Nat.lt_of_lt_of_le h3 (Nat.pow_le_pow_right (by omega) h1)
  have Hok := Lib.hid hok
  have H3 := Lib.hid h3
  have Hal := Lib.hid hal
  have Dg : Hid ((digits a n).length = n) := Lib.hid (digits_length a n)
  clear hok h3 hal
  go_enter Try.func8, Try.ntmps8
  go_wp2_with fail
  refine (wnew_walk _).mono ?_
  rintro e w1 ⟨rfl, hw1, ht1, hs1⟩
  go_wp2_with fail
  refine (wnew_walk _).mono ?_
  rintro e w2 ⟨rfl, hw2, ht2, hs2⟩
  rw [hs1]
  rw [hs1] at hw2
  have two1 : Two w.heap.size (w.heap.size + 1) (.slice none 0 0) (.slice none 0 0) := ⟨by omega, by simp [Value.ownBlock], by simp [Value.ownBlock], by simp [Value.ownBlock]⟩
  have T2 := Lib.hid (ht1.trans ht2)
  have HA2 := Lib.hid (hw1.touch ht2 id (fun _ _ => id))
  have HB2 := Lib.hid hw2
  have Two2 := Lib.hid two1
  clear hw1 hw2 ht1 ht2 hs1 hs2 two1
  go_wp2_with fail
  refine (put_is _ _ _ _ _ _ (digits a n) true HA2.out (by simp) Hok.out (by unfold putL; rw [Hok.out]; simp)).mono ?_
  rintro e w3 ⟨rfl, v3, hw3, ht3, hf3⟩
  have HA3 := Lib.hid hw3
  have HB3 := Lib.hid (Two2.out.keep HB2.out ht3)
  have Two3 := Lib.hid (Two2.out.fresh HB2.out hf3)
  have T3 := Lib.hid (foot_owns T2.out (Nat.le_refl _) (OwnB.nil _) ht3)
  have O3 := Lib.hid ((OwnB.nil _).fresh hf3 T2.out.size)
  clear hw3 ht3 hf3 HA2 HB2 Two2 T2
  go_wp2_with fail
  go_loopw [7] (fun i wr => ∃ k : Nat, ∃ v' : Value, k ≤ n ∧ i = .int .i64 k ∧ Wr wr 53 w.heap.size v3 (digits a n) ∧ Wr wr 53 (w.heap.size + 1) v' (digits a k) ∧ Two w.heap.size (w.heap.size + 1) v3 v' ∧ OwnB w.heap.size v' ∧ Touch (fun _ => False) w wr) (fun i _ => n - (intOf i).toNat)
  case atStart => exact ⟨0, _, by omega, rfl, HA3.out, HB3.out, Two3.out, OwnB.nil _, T3.out⟩
  case round =>
    obtain ⟨k, v', hk, rfl, hA, hB, two, o', ht⟩ := hrel
    have HA := Lib.hid hA
    have HB := Lib.hid hB
    have HT := Lib.hid two
    clear hA hB two HA3 HB3 Two3 T3
    by_cases hlt : k < n
    · have hbit := bit_val a k
      obtain ⟨d, hd⟩ : ∃ d : Nat, (if a.testBit k then 1 else 0) = d := ⟨_, rfl⟩
      rw [hd] at hbit
      have hpd : putL (d : Int) 1 (digits a k) = digits a k ++ [a.testBit k] ∧ putOk (d : Int) 1 = true := by rw [← hd]; exact putL_bit _ _
      have Hpd := Lib.hid hpd
      clear hpd hd
      go_wp2_with fail
      refine (put_is _ _ _ _ _ _ _ true HB.out (by rw [digits_length]; omega) Hpd.out.2 Hpd.out.1).mono ?_
      rintro e w4 ⟨rfl, v4, hw4, ht4, hf4⟩
      have HA4 := Lib.hid (HT.out.symm.keep HA.out ht4)
      have Two4 := Lib.hid (HT.out.symm.fresh HA.out hf4).symm
      have HB4 := Lib.hid hw4
      have T4 := Lib.hid (foot_owns ht (by omega) o' ht4)
      have O4 := Lib.hid (o'.fresh hf4 ht.size)
      clear hw4 ht4 hf4 hbit
      go_wp2_with fail
      go_roundw
      case rel => exact ⟨k + 1, v4, by omega, by go_num, HA4.out, by rw [digits_succ]; exact HB4.out, Two4.out, O4.out, T4.out⟩
      case measure => simp [intOf]; omega
    · obtain rfl : k = n := by omega
      obtain ⟨l, hl⟩ : ∃ l, digits a k = l := ⟨_, rfl⟩
      have hll : l.length ≤ 24 := by rw [← hl, digits_length]; omega
      rw [hl] at HA HB
      have Hl := Lib.hid hl
      clear hl
      go_wp2_with fail
      refine (bytes_walk _ _ _ _ HA.out (by omega)).mono ?_
      rintro e w4 ⟨rfl, hb4, ht4⟩
      have Hb4 := Lib.hid hb4
      have HA4 := Lib.hid (HA.out.touch ht4 id (fun _ _ => id))
      have HB4 := Lib.hid (HB.out.touch ht4 id (fun _ _ => id))
      have T4 := Lib.hid (ht.trans ht4)
      have S4 := Lib.hid (ht.trans ht4).size
      clear hb4 ht4 ht HA HB
      go_wp2_with fail
      refine (newr_back _ _ l _ Hb4.out (by omega)).mono ?_
      rintro e w5 ⟨rfl, v5, hr5, ht5, hf5⟩
      have HR5 := Lib.hid hr5
      have HA5 := Lib.hid (HA4.out.touch ht5 id (fun _ _ => id))
      have HB5 := Lib.hid (HB4.out.touch ht5 id (fun _ _ => id))
      have T5 := Lib.hid (T4.out.trans ht5)
      clear hr5 ht5 hf5 HA4 HB4 T4 Hb4
      go_wp2_with fail
      clear hp hq hq2 o' hlt hk
      go_region_law (first
        | (go_simp; go_at_call 18; refine (bytes_walk _ _ _ _ HB6.out (by omega)).mono ?_; rintro e w7 ⟨rfl, hb7, ht7⟩; have hcv7 : (convert 33 9 (.slice (some ⟨w6.heap.size, 0, none⟩) (l.length / 8 + 1) (l.length / 8 + 1))).run Try.prog w7 = .ok (.string (strBits l)) w7 := conv_bytes hb7; have hcv67 : (convert 33 9 (.slice (some ⟨w5.heap.size, 0, none⟩) (l.length / 8 + 1) (l.length / 8 + 1))).run Try.prog w7 = .ok (.string (strBits l)) w7 := conv_bytes (ht7.heap Hb6.out id); have T7 := Lib.hid (T6.out.trans ht7); have HR7 := Lib.hid (HR6.out.touch ht7 id (fun _ _ => id)); clear hb7 ht7)
        | (go_simp; go_at_call 18; refine (bytes_walk _ _ _ _ HA5.out.drew (by omega)).mono ?_; rintro e w6 ⟨rfl, hb6, ht6⟩; have Hb6 := Lib.hid hb6; have hcv6 : (convert 33 9 (.slice (some ⟨w5.heap.size, 0, none⟩) (l.length / 8 + 1) (l.length / 8 + 1))).run Try.prog w6 = .ok (.string (strBits l)) w6 := conv_bytes hb6; have HB6 := Lib.hid (HB5.out.drew.touch ht6 id (fun _ _ => id)); have T6 := Lib.hid (T5.out.drew.trans ht6); have HR6 := Lib.hid (HR5.out.drew.touch ht6 id (fun _ _ => id)); clear hb6 ht6))
      all_goals
        go_wp2_with fail
        go_loopw [10, 11, 12, 13] (fun acc i _ _ wr => ∃ m q : Nat, ∃ v : Value, q + m = k ∧ i = .int .i64 q ∧ acc = .int .i64 (a / 2 ^ m : Nat) ∧ Wr wr 56 w4.heap.size v (l.take m) ∧ Touch (fun _ => False) w wr) (fun _ i _ _ _ => k - (intOf i).toNat)
        case atStart => exact ⟨k, 0, _, by omega, rfl, by rw [Nat.div_eq_of_lt H3.out]; rfl, by rw [List.take_of_length_le (by rw [← Hl.out, digits_length]; omega)]; exact HR7.out, T7.out⟩
        case round =>
          obtain ⟨m, q, v, hqm, rfl, rfl, hr, htt⟩ := hrel
          have HR := Lib.hid hr
          clear hr
          by_cases hlt : q < k
          · obtain ⟨m, rfl⟩ : ∃ j, m = j + 1 := ⟨m - 1, by omega⟩
            have htk := digits_take_succ a k m (by omega)
            rw [Hl.out] at htk
            have htake := taken_one (l.take m) (a.testBit m)
            rw [← htk] at htake
            have Htake := Lib.hid htake
            have hhalf := half_bit a m
            obtain ⟨d, hd⟩ : ∃ d : Nat, (if a.testBit m then 1 else 0) = d := ⟨_, rfl⟩
            obtain ⟨x, hx⟩ : ∃ x : Nat, a / 2 ^ (m + 1) = x := ⟨_, rfl⟩
            rw [hd, hx] at hhalf
            have hxs : x ≤ 2 ^ 24 := by rw [← hx]; exact Nat.le_trans (Nat.div_le_self _ _) (by have := Hal.out; omega)
            have hd1 : d ≤ 1 := by rw [← hd]; split <;> omega
            rw [hx]
            have Hd := Lib.hid hd
            have Hhalf := Lib.hid hhalf
            clear htake htk hd hx hhalf
            go_wp2_with fail
            refine (take_walk _ _ _ 1 _ HR.out (by simp; omega)).mono ?_
            rintro e w8 ⟨rfl, v8, hr8, _, ht8⟩
            rw [Htake.out.1, Htake.out.2.2, Hd.out]
            rw [Htake.out.2.1] at hr8
            have HR8 := Lib.hid hr8
            have T8 := Lib.hid (htt.then ht8 (fun i hi hh => by have := S4.out; omega))
            clear hr8 ht8
            go_wp2_with fail
            go_roundw
            case rel => exact ⟨m, q + 1, v8, by omega, by go_num, by rw [← Hhalf.out]; go_num, HR8.out, T8.out⟩
            case measure => simp [intOf]; omega
          · obtain rfl : m = 0 := by omega
            rw [show a / 2 ^ 0 = a by simp]
            go_wp2_with fail
            refine (known_walk _).mono ?_
            rintro e w8 ⟨rfl, ht8⟩
            go_wp2_with fail
            go_ret
            exact ⟨rfl, (htt.trans ht8).owned⟩

theorem BitsJoin_no (w : World) (a0 : Int) (a1 : Int) (hno : putOk a0 a1 = false) :
    Calls Try.prog 8 #[.int .i64 a0, .int .i64 a1] w fun e w' => e = .returned (.bool true) ∧ Below w.heap.size w w' := by
  have Hno := Lib.hid hno
  clear hno
  have hcase : a1 < 0 ∨ 24 < a1 ∨ (0 ≤ a1 ∧ a1 ≤ 24) := by omega
  rcases hcase with h1 | h1 | ⟨h1, h2⟩
  rotate_left 2
  by_cases h3 : a0 < 0
  rotate_left 1
  obtain ⟨n, rfl⟩ := Int.eq_ofNat_of_zero_le (show 0 ≤ a1 by omega)
  have hp : wrap64 ((2 : Int) ^ n) ≤ a0 := by
    have h := Hno.out
    have h3 : ¬ a0 < 2 ^ n := by
      intro hlt
      simp [putOk] at h
      omega
    rw [wrap_pow n (by omega)]; exact Int.not_lt.1 (by exact_mod_cast h3)
  all_goals
    go_enter Try.func8, Try.ntmps8
    go_wp2_with fail
    go_ret
    exact ⟨rfl, Below.refl _ _⟩

theorem BitsJoin_law (w : World) (a0 : Int) (w0 : (Lit.int .i64 a0).wf = true) (a1 : Int) (w1 : (Lit.int .i64 a1).wf = true) :
    Calls Try.prog 8 #[.int .i64 a0, .int .i64 a1] w fun e w' => e = .returned (.bool true) ∧ Below w.heap.size w w' := by
  cases h : putOk a0 a1 with
  | false => exact BitsJoin_no w a0 a1 h
  | true =>
    obtain ⟨a, k, rfl, rfl, hk, ha⟩ := putOk_yes h
    exact BitsJoin_in w a k hk ha h
end Go.Proofs.Ytefkeofbhjmahaa
