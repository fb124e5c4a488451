/- fse: small functions: how large a table may be, sums, whether all may be, whether two rows are one. -/
import Derived.Test.YtaacphmbkieacaaBiH
import Derived.Test.YtaacphmbkieacaaFsA
import Derived.Test.YtaacphmbkieacaaFsB
namespace Go.Proofs.Ytaacphmbkieacaa
open Go.RowKit Go.WideShapes Fs
set_option linter.unusedVariables false
set_option linter.unusedSimpArgs false
set_option maxRecDepth 100000

theorem log_walk (n : Int) (w : World) : Calls Try.prog 29 #[.int .i64 n] w fun e w' => e = .returned (.bool (logOk n)) ∧ w = w' := by
  obtain ⟨B, hB⟩ : ∃ B, logOk n = B := ⟨_, rfl⟩
  rw [hB]
  have HB := Lib.hid hB
  unfold logOk at hB
  cases B with
  | true =>
    simp at hB
    obtain ⟨h1, h2⟩ := hB
    go_enter Try.func29, Try.ntmps29
    go_wp2
    go_ret
    exact ⟨ret_bool (by first | rfl | (simp; omega) | simp [*]), rfl⟩
  | false =>
    simp at hB
    by_cases h1 : 5 ≤ n
    · have h2 := hB h1
      clear hB
      go_enter Try.func29, Try.ntmps29
      go_wp2
      go_ret
      exact ⟨ret_bool (by first | rfl | (simp; omega) | simp [*]), rfl⟩
    · clear hB
      go_enter Try.func29, Try.ntmps29
      go_wp2
      go_ret
      exact ⟨ret_bool (by first | rfl | (simp; omega) | simp [*]), rfl⟩

theorem sum_walk (a : Option Addr) (b off n c : Nat) (z : Nat → Int) (w : World) (h : Ints .i64 w a b off n z) (hn : n ≤ 1000) (hz : ∀ i, i < n → -2147483648 ≤ z i ∧ z i ≤ 2147483648) :
    Calls Try.prog 31 #[.slice a n c] w fun e w' => e = .returned (.int .i64 (sumZ z n)) ∧ w = w' := by
  have H := Lib.hid h
  have HZ := Lib.hid hz
  clear h hz
  go_enter Try.func31, Try.ntmps31
  go_wp2_with fail
  go_loop [3, 5, 8] (fun s _ i => ∃ k : Nat, k ≤ n ∧ i = .int .i64 k ∧ s = .int .i64 (sumZ z k)) (fun _ _ i => n - (intOf i).toNat)
  case atStart => exact ⟨0, by omega, rfl, rfl⟩
  case round =>
    obtain ⟨k, hk, rfl, rfl⟩ := hrel
    by_cases hlt : k < n
    · obtain rfl := H.out.at_ (by omega)
      have e1 := H.out.cell k hlt
      have b1 := sumZ_le (z := z) (B := 2147483648) (by omega) (n := k) (fun i hi => (HZ.out i (by omega)).2)
      have b2 := sumZ_ge (z := z) (B := -2147483648) (n := k) (fun i hi => (HZ.out i (by omega)).1)
      have b3 := HZ.out k hlt
      have hnew : sumZ z (k + 1) = sumZ z k + z k := rfl
      obtain ⟨s, hs⟩ : ∃ s, sumZ z k = s := ⟨_, rfl⟩
      obtain ⟨x, hx⟩ : ∃ x, z k = x := ⟨_, rfl⟩
      rw [hs, hx] at hnew
      rw [hs] at b1 b2
      rw [hx] at e1 b3
      rw [hs]
      have HN := Lib.hid hnew
      have c1 : s ≤ 2147483648000 := by omega
      have c2 : -2147483648000 ≤ s := by omega
      obtain ⟨c3, c4⟩ := b3
      clear hs hx hnew b1 b2
      go_wp2_with fail
      go_round
      case rel => exact ⟨k + 1, by omega, by go_num, by rw [HN.out]⟩
      case measure => simp [intOf]; omega
    · obtain rfl : k = n := by omega
      go_wp2_with fail
      go_ret
      exact ⟨rfl, rfl⟩

/-- May a count be; may a share be. -/
def cntOk (x : Int) : Bool := decide (0 ≤ x ∧ x ≤ 1073741824)
def shrOk (S x : Int) : Bool := decide (0 ≤ x ∧ x ≤ S)
theorem odd28 (x : Int) (w : World) (B : Bool) (hB : cntOk x = B) : Calls Try.prog 28 #[.int .i64 x] w fun e w' => e = .returned (.bool (!B)) ∧ w = w' := by
  unfold cntOk at hB
  cases B with
  | true =>
    simp at hB
    obtain ⟨h1, h2⟩ := hB
    go_enter Try.func28, Try.ntmps28
    go_wp2
    go_ret
    exact ⟨ret_bool (by first | rfl | (simp; omega) | simp [*]), rfl⟩
  | false =>
    simp at hB
    by_cases h1 : 0 ≤ x
    · have h2 := hB h1
      clear hB
      go_enter Try.func28, Try.ntmps28
      go_wp2
      go_ret
      exact ⟨ret_bool (by first | rfl | (simp; omega) | simp [*]), rfl⟩
    · clear hB
      go_enter Try.func28, Try.ntmps28
      go_wp2
      go_ret
      exact ⟨ret_bool (by first | rfl | (simp; omega) | simp [*]), rfl⟩
theorem odd34 (x : Int) (L g : Nat) (w : World) (hg : w.cell? ⟨g, 0, none⟩ = some (.int .i64 L)) (hL : L ≤ 24) (B : Bool) (hB : shrOk ((2 ^ L : Nat) : Int) x = B) : Calls Try.prog 34 #[.int .i64 x, .pointer (some ⟨g, 0, none⟩)] w fun e w' => e = .returned (.bool (!B)) ∧ w = w' := by
  unfold shrOk at hB
  have hp := wrap_pow L hL
  obtain ⟨S, hS⟩ : ∃ S : Nat, 2 ^ L = S := ⟨_, rfl⟩
  rw [hS] at hp hB
  have hd : decide ((L : Int) < 0) = false := by simp
  clear hS
  cases B with
  | true =>
    simp at hB
    obtain ⟨h1, h2⟩ := hB
    go_enter Try.func34, Try.ntmps34
    go_wp2
    go_ret
    exact ⟨ret_bool (by first | rfl | (simp; omega) | simp [*]), rfl⟩
  | false =>
    simp at hB
    by_cases h1 : 0 ≤ x
    · have h2 := hB h1
      clear hB
      go_enter Try.func34, Try.ntmps34
      go_wp2
      go_ret
      exact ⟨ret_bool (by first | rfl | (simp; omega) | simp [*]), rfl⟩
    · clear hB
      go_enter Try.func34, Try.ntmps34
      go_wp2
      go_ret
      exact ⟨ret_bool (by first | rfl | (simp; omega) | simp [*]), rfl⟩

/-- slices.IndexFunc and ContainsFunc with the function that asks whether a count may not be. -/
theorem index28 (a : Option Addr) (b off n c : Nat) (z : Nat → Int) (w : World) (h : Ints .i64 w a b off n z) (B : Bool) (hB : all01 cntOk z n = B) (hn : n ≤ 100000) :
    Calls Try.prog 52 #[.slice a n c, .func (.func 28) #[] #[]] w fun e w' => ∃ r : Int, e = .returned (.int .i64 r) ∧ decide (0 ≤ r) = (!B) ∧ w = w' := by
  have H := Lib.hid h
  have HB := Lib.hid hB
  clear h hB
  go_enter Try.func52, Try.ntmps52
  go_wp2_with fail
  go_loop [5, 8] (fun _ i => ∃ k : Nat, k ≤ n ∧ i = .int .i64 k ∧ all01 cntOk z k = true) (fun _ i => n - (intOf i).toNat)
  case atStart => exact ⟨0, by omega, rfl, rfl⟩
  case round =>
    obtain ⟨k, hk, rfl, hall⟩ := hrel
    have HA := Lib.hid hall
    clear hall
    by_cases hlt : k < n
    · obtain rfl := H.out.at_ (by omega)
      have e1 := H.out.cell k hlt
      obtain ⟨x, hx⟩ : ∃ x, z k = x := ⟨_, rfl⟩
      rw [hx] at e1
      have HXX := Lib.hid hx
      have hor : all01 cntOk z (k + 1) = cntOk x := by rw [all01, HA.out, hx]; rfl
      have HOr := Lib.hid hor
      clear hx hor
      cases hc : cntOk x with
      | true =>
        have HC := Lib.hid hc
        clear hc
        go_wp2_with fail
        refine (odd28 x _ true HC.out).mono ?_
        rintro e w1 ⟨rfl, rfl⟩
        go_wp2_with fail
        go_round
        case rel => exact ⟨k + 1, by omega, by go_num, by rw [HOr.out, HC.out]⟩
        case measure => simp [intOf]; omega
      | false =>
        have HC := Lib.hid hc
        have hB2 : B = false := by
          rw [← HB.out]
          cases hh : all01 cntOk z n with
          | false => rfl
          | true =>
            have := (all01_iff cntOk z n).1 hh k hlt
            rw [HXX.out, HC.out] at this
            cases this
        clear hc
        subst hB2
        go_wp2_with fail
        refine (odd28 x _ false HC.out).mono ?_
        rintro e w1 ⟨rfl, rfl⟩
        go_wp2_with fail
        go_ret
        exact ⟨_, rfl, by simp, rfl⟩
    · obtain rfl : k = n := by omega
      have hB2 : B = true := by rw [← HB.out, HA.out]
      subst hB2
      go_wp2_with fail
      go_ret
      exact ⟨_, rfl, by simp, rfl⟩
theorem contains28 (a : Option Addr) (b off n c : Nat) (z : Nat → Int) (w : World) (h : Ints .i64 w a b off n z) (B : Bool) (hB : all01 cntOk z n = B) (hn : n ≤ 100000) :
    Calls Try.prog 30 #[.slice a n c, .func (.func 28) #[] #[]] w fun e w' => e = .returned (.bool (!B)) ∧ w = w' := by
  have H := Lib.hid (index28 a b off n c z w h B hB hn)
  clear h hB
  go_enter Try.func30, Try.ntmps30
  go_wp2_with fail
  refine H.out.mono ?_
  rintro e w1 ⟨r, rfl, hr, rfl⟩
  have HR := Lib.hid hr
  clear hr
  go_wp2_with fail
  go_ret
  exact ⟨ret_bool HR.out, rfl⟩
end Go.Proofs.Ytaacphmbkieacaa
