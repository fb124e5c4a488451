/- fse: whether shares may be. -/
import Derived.Test.YtaacphmbkieacaaFaA
namespace Go.Proofs.Ytaacphmbkieacaa
open Go.RowKit Go.WideShapes Fs
set_option linter.unusedVariables false
set_option linter.unusedSimpArgs false
set_option maxRecDepth 100000

theorem index34 (a : Option Addr) (b off n c : Nat) (z : Nat → Int) (L g : Nat) (w : World) (hgc : w.cell? ⟨g, 0, none⟩ = some (.int .i64 L)) (hL : L ≤ 24) (h : Ints .i64 w a b off n z) (B : Bool) (hB : all01 (shrOk ((2 ^ L : Nat) : Int)) z n = B) (hn : n ≤ 100000) :
    Calls Try.prog 52 #[.slice a n c, .func (.func 34) #[] #[.pointer (some ⟨g, 0, none⟩)]] w fun e w' => ∃ r : Int, e = .returned (.int .i64 r) ∧ decide (0 ≤ r) = (!B) ∧ w = w' := by
  have H := Lib.hid h
  have HB := Lib.hid hB
  clear h hB
  go_enter Try.func52, Try.ntmps52
  go_wp2_with fail
  go_loop [5, 8] (fun _ i => ∃ k : Nat, k ≤ n ∧ i = .int .i64 k ∧ all01 (shrOk ((2 ^ L : Nat) : Int)) z k = true) (fun _ i => n - (intOf i).toNat)
  case atStart => exact ⟨0, by omega, rfl, rfl⟩
  case round =>
    obtain ⟨k, hk, rfl, hall⟩ := hrel
    have HA := Lib.hid hall
    clear hall
    by_cases hlt : k < n
    · obtain rfl := H.out.at_ (by omega)
      have e1 := H.out.cell k hlt
      obtain ⟨x, hx⟩ : ∃ x, z k = x := ⟨_, rfl⟩
      rw [hx] at e1
      have HXX := Lib.hid hx
      have hor : all01 (shrOk ((2 ^ L : Nat) : Int)) z (k + 1) = (shrOk ((2 ^ L : Nat) : Int)) x := by rw [all01, HA.out, hx]; rfl
      have HOr := Lib.hid hor
      clear hx hor
      cases hc : (shrOk ((2 ^ L : Nat) : Int)) x with
      | true =>
        have HC := Lib.hid hc
        clear hc
        go_wp2_with fail
        refine (odd34 x L g _ hgc hL true HC.out).mono ?_
        rintro e w1 ⟨rfl, rfl⟩
        go_wp2_with fail
        go_round
        case rel => exact ⟨k + 1, by omega, by go_num, by rw [HOr.out, HC.out]⟩
        case measure => simp [intOf]; omega
      | false =>
        have HC := Lib.hid hc
        have hB2 : B = false := by
          rw [← HB.out]
          cases hh : all01 (shrOk ((2 ^ L : Nat) : Int)) z n with
          | false => rfl
          | true =>
            have := (all01_iff (shrOk ((2 ^ L : Nat) : Int)) z n).1 hh k hlt
            rw [HXX.out, HC.out] at this
            cases this
        clear hc
        subst hB2
        go_wp2_with fail
        refine (odd34 x L g _ hgc hL false HC.out).mono ?_
        rintro e w1 ⟨rfl, rfl⟩
        go_wp2_with fail
        go_ret
        exact ⟨_, rfl, by simp, rfl⟩
    · obtain rfl : k = n := by omega
      have hB2 : B = true := by rw [← HB.out, HA.out]
      subst hB2
      go_wp2_with fail
      go_ret
      exact ⟨_, rfl, by simp, rfl⟩
theorem contains34 (a : Option Addr) (b off n c : Nat) (z : Nat → Int) (L g : Nat) (w : World) (hgc : w.cell? ⟨g, 0, none⟩ = some (.int .i64 L)) (hL : L ≤ 24) (h : Ints .i64 w a b off n z) (B : Bool) (hB : all01 (shrOk ((2 ^ L : Nat) : Int)) z n = B) (hn : n ≤ 100000) :
    Calls Try.prog 30 #[.slice a n c, .func (.func 34) #[] #[.pointer (some ⟨g, 0, none⟩)]] w fun e w' => e = .returned (.bool (!B)) ∧ w = w' := by
  have H := Lib.hid (index34 a b off n c z L g w hgc hL h B hB hn)
  clear h hB
  go_enter Try.func30, Try.ntmps30
  go_wp2_with fail
  refine H.out.mono ?_
  rintro e w1 ⟨r, rfl, hr, rfl⟩
  have HR := Lib.hid hr
  clear hr
  go_wp2_with fail
  go_ret
  exact ⟨ret_bool HR.out, rfl⟩

theorem box_cell (w : World) (v : Value) (t : TypeId) (q : Nat) : ((w.alloc (.cells #[v] t)).drewN q).cell? ⟨w.heap.size, 0, none⟩ = some v :=
  (Touch.eq_drewN (S := fun _ => False) _ q).cell (by rw [cell_of_row _ _ _ _ _ _ (heap_alloc_new w _)]; rfl) id
theorem shr_bd {L : Nat} {z : Nat → Int} {n : Nat} (hL : L ≤ 9) (h : all01 (shrOk ((2 ^ L : Nat) : Int)) z n = true) : ∀ i, i < n → -2147483648 ≤ z i ∧ z i ≤ 2147483648 := fun i hi => by
  have := (all01_iff _ z n).1 h i hi
  simp [shrOk] at this
  have hp : (2 : Nat) ^ L ≤ 2 ^ 9 := Nat.pow_le_pow_right (by omega) hL
  have e : ((2 : Int) ^ L) = ((2 ^ L : Nat) : Int) := by simp
  omega
theorem isOk_is (z : Nat → Int) (n L : Nat) : isOk z n (L : Int) = (logOk L && decide (n ≤ 32) && all01 (shrOk ((2 ^ L : Nat) : Int)) z n && decide (sumZ z n = ((2 ^ L : Nat) : Int))) := rfl

set_option maxHeartbeats 1000000 in
theorem is_walk (a : Option Addr) (b off n c : Nat) (z : Nat → Int) (log : Int) (w : World) (h : Ints .i64 w a b off n z) (hn : n ≤ 100000) :
    Calls Try.prog 18 #[.slice a n c, .int .i64 log] w fun e w' => e = .returned (.bool (isOk z n log)) ∧ Touch (fun _ => False) w w' := by
  obtain ⟨R, hR⟩ : ∃ R, isOk z n log = R := ⟨_, rfl⟩
  rw [hR]
  have H := Lib.hid h
  cases hlog : logOk log with
  | false =>
    have hr : R = false := by rw [← hR, isOk, hlog]; rfl
    have HLG := Lib.hid hlog
    clear h hR hlog
    subst hr
    go_enter Try.func18, Try.ntmps18
    go_wp2_with fail
    refine (log_walk log _).mono ?_
    rintro e w1 ⟨rfl, rfl⟩
    rw [HLG.out]
    go_wp2_with fail
    go_ret
    exact ⟨rfl, Touch.new _ _⟩
  | true =>
    have hl := hlog
    simp [logOk] at hl
    obtain ⟨L, rfl⟩ := Int.eq_ofNat_of_zero_le (show 0 ≤ log by omega)
    have hL9 : L ≤ 9 := by omega
    rw [isOk_is, hlog] at hR
    have HLG := Lib.hid hlog
    clear hlog hl
    by_cases hn32 : n ≤ 32
    · cases hall : all01 (shrOk ((2 ^ L : Nat) : Int)) z n with
      | false =>
        have hr : R = false := by rw [← hR, hall]; simp
        have HA := Lib.hid hall
        have q : decide ((32 : Int) < (n : Int)) = false := by simp; omega
        clear hR hall h
        subst hr
        go_enter Try.func18, Try.ntmps18
        go_wp2_with fail
        refine (log_walk L _).mono ?_
        rintro e w1 ⟨rfl, rfl⟩
        rw [HLG.out]
        go_wp2_with fail
        go_quiet ((go_at_call 30; exact quiet_same (contains34 a b off n c z L w.heap.size _ (box_cell w _ _ _) (by omega) ((H.out.touch (Touch.new w _)).touch (Touch.eq_drewN _ _)) false HA.out (by omega))))
        go_wp2_with fail
        go_ret
        exact ⟨rfl, (Touch.new _ _).drewN _⟩
      | true =>
        have hr : R = decide (sumZ z n = ((2 ^ L : Nat) : Int)) := by rw [← hR, hall]; simp [hn32]
        have HA := Lib.hid hall
        have HBD := Lib.hid (shr_bd hL9 hall)
        have q : decide ((32 : Int) < (n : Int)) = false := by simp; omega
        have hp := wrap_pow L (by omega)
        obtain ⟨S, hS⟩ : ∃ S : Nat, 2 ^ L = S := ⟨_, rfl⟩
        rw [hS] at hp hr
        have HS := Lib.hid hS
        have hd : decide ((L : Int) < 0) = false := by simp
        obtain ⟨s, hs⟩ : ∃ s, sumZ z n = s := ⟨_, rfl⟩
        rw [hs] at hr
        have HSS := Lib.hid hs
        have HSum := Lib.hid (show ∀ q, Calls Try.prog 31 #[.slice a n c] ((w.alloc (.cells #[.int .i64 L] 3)).drewN q) fun e w' => e = .returned (.int .i64 s) ∧ (w.alloc (.cells #[.int .i64 L] 3)).drewN q = w' from fun q => by
          have := sum_walk a b off n c z ((w.alloc (.cells #[.int .i64 L] 3)).drewN q) ((H.out.touch (Touch.new w _)).touch (Touch.eq_drewN _ q)) (by omega) HBD.out
          rw [hs] at this; exact this)
        have hR2 : (s == (S : Int)) = R := by rw [hr]; rfl
        clear hR hall h hS hs hr
        go_enter Try.func18, Try.ntmps18
        go_wp2_with fail
        refine (log_walk L _).mono ?_
        rintro e w1 ⟨rfl, rfl⟩
        rw [HLG.out]
        go_wp2_with fail
        go_quiet (first | (go_at_call 31; exact quiet_same (HSum.out _)) | (go_at_call 30; exact quiet_same (contains34 a b off n c z L w.heap.size _ (box_cell w _ _ _) (by omega) ((H.out.touch (Touch.new w _)).touch (Touch.eq_drewN _ _)) true HA.out (by omega))))
        go_wp2_with fail
        go_ret
        exact ⟨rfl, (Touch.new _ _).drewN _⟩
    · have hr : R = false := by rw [← hR]; simp [hn32]
      have q : decide ((32 : Int) < (n : Int)) = true := by simp; omega
      clear hR h
      subst hr
      go_enter Try.func18, Try.ntmps18
      go_wp2_with fail
      refine (log_walk L _).mono ?_
      rintro e w1 ⟨rfl, rfl⟩
      rw [HLG.out]
      go_wp2_with fail
      go_ret
      exact ⟨rfl, Touch.new _ _⟩
end Go.Proofs.Ytaacphmbkieacaa
