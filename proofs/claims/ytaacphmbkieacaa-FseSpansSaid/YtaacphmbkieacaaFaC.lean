/- fse: whether shares may be, by the document; two rows of numbers. -/
import Derived.Test.YtaacphmbkieacaaFaB
namespace Go.Proofs.Ytaacphmbkieacaa
open Go.RowKit Go.WideShapes Fs
set_option linter.unusedVariables false
set_option linter.unusedSimpArgs false
set_option maxRecDepth 100000

set_option maxHeartbeats 1000000 in
theorem ris_walk (a : Option Addr) (b off n c : Nat) (z : Nat → Int) (log : Int) (w : World) (h : Ints .i64 w a b off n z) (hn : n ≤ 100000) :
    Calls Try.prog 19 #[.slice a n c, .int .i64 log] w fun e w' => e = .returned (.bool (isOk z n log)) ∧ w = w' := by
  obtain ⟨R, hR⟩ : ∃ R, isOk z n log = R := ⟨_, rfl⟩
  rw [hR]
  have H := Lib.hid h
  cases hlog : logOk log with
  | false =>
    have hr : R = false := by rw [← hR, isOk, hlog]; rfl
    have hl : log < 5 ∨ (5 ≤ log ∧ 9 < log) := by simp [logOk] at hlog; omega
    clear h hR hlog
    subst hr
    rcases hl with hl | ⟨hl, hl2⟩
    all_goals
      go_enter Try.func19, Try.ntmps19
      go_wp2_with fail
      go_ret
      exact ⟨rfl, rfl⟩
  | true =>
    have hl := hlog
    simp [logOk] at hl
    obtain ⟨L, rfl⟩ := Int.eq_ofNat_of_zero_le (show 0 ≤ log by omega)
    have hL9 : L ≤ 9 := by omega
    have hL5 : 5 ≤ L := by omega
    rw [isOk_is, hlog] at hR
    clear hlog hl
    have p1 : decide ((L : Int) < 5) = false := by simp; omega
    have p2 : decide ((9 : Int) < (L : Int)) = false := by simp; omega
    by_cases hn32 : n ≤ 32
    · have q : decide ((32 : Int) < (n : Int)) = false := by simp; omega
      have hp := wrap_pow L (by omega)
      have hpb : (2 : Nat) ^ L ≤ 2 ^ 9 := Nat.pow_le_pow_right (by omega) hL9
      obtain ⟨S, hS⟩ : ∃ S : Nat, 2 ^ L = S := ⟨_, rfl⟩
      rw [hS] at hp hR hpb
      have hS512 : S ≤ 512 := by omega
      have hd : decide ((L : Int) < 0) = false := by simp
      have hw : IntKind.u64.wrap (L : Int) = L := by rw [IntKind.wrap_u64]; omega
      have HR := Lib.hid hR
      clear hS hR h hpb
      go_enter Try.func19, Try.ntmps19
      go_wp2_with fail
      go_loop [5, 6] (fun s i => ∃ k : Nat, k ≤ n ∧ i = .int .i64 k ∧ s = .int .i64 (sumZ z k) ∧ all01 (shrOk S) z k = true) (fun _ i => n - (intOf i).toNat)
      case atStart => exact ⟨0, by omega, rfl, rfl, rfl⟩
      case round =>
        obtain ⟨k, hk, rfl, rfl, hall⟩ := hrel
        have HA := Lib.hid hall
        have hbd : ∀ i, i < k → 0 ≤ z i ∧ z i ≤ S := fun i hi => by
          have := (all01_iff _ z k).1 hall i hi
          simpa [shrOk] using this
        have b1 := sumZ_le (z := z) (B := 512) (by omega) (n := k) (fun i hi => by have := (hbd i hi).2; omega)
        have b2 := sumZ_nonneg (z := z) (n := k) (fun i hi => (hbd i hi).1)
        clear hall hbd
        by_cases hlt : k < n
        · obtain rfl := H.out.at_ (by omega)
          have e1 := H.out.cell k hlt
          have hnew : sumZ z (k + 1) = sumZ z k + z k := rfl
          obtain ⟨s, hs⟩ : ∃ s, sumZ z k = s := ⟨_, rfl⟩
          obtain ⟨x, hx⟩ : ∃ x, z k = x := ⟨_, rfl⟩
          rw [hs, hx] at hnew
          rw [hs] at b1 b2
          rw [hx] at e1
          rw [hs]
          have HX := Lib.hid hx
          have HN := Lib.hid hnew
          have hor : all01 (shrOk S) z (k + 1) = shrOk S x := by rw [all01, HA.out, hx]; rfl
          have HOr := Lib.hid hor
          have c1 : s ≤ 16384 := by omega
          clear hs hx hnew b1 hor
          by_cases hx0 : x < 0
          · have hf : R = false := by
              rw [← HR.out]
              have : all01 (shrOk S) z n = false := by
                cases hh : all01 (shrOk S) z n with
                | false => rfl
                | true =>
                  have := (all01_iff _ z n).1 hh k hlt
                  rw [HX.out] at this
                  simp [shrOk] at this
                  omega
              rw [this]; simp
            subst hf
            go_wp2_with fail
            go_ret
            exact ⟨rfl, rfl⟩
          · by_cases hx1 : (S : Int) < x
            · have hf : R = false := by
                rw [← HR.out]
                have : all01 (shrOk S) z n = false := by
                  cases hh : all01 (shrOk S) z n with
                  | false => rfl
                  | true =>
                    have := (all01_iff _ z n).1 hh k hlt
                    rw [HX.out] at this
                    simp [shrOk] at this
                    omega
                rw [this]; simp
              subst hf
              go_wp2_with fail
              go_ret
              exact ⟨rfl, rfl⟩
            · go_wp2_with fail
              go_round
              case rel => exact ⟨k + 1, by omega, by go_num, by rw [HN.out], by rw [HOr.out]; simp [shrOk]; omega⟩
              case measure => simp [intOf]; omega
        · obtain rfl : k = n := by omega
          have hr : R = decide (sumZ z k = (S : Int)) := by rw [← HR.out, HA.out]; simp [hn32]
          obtain ⟨s, hs⟩ : ∃ s, sumZ z k = s := ⟨_, rfl⟩
          rw [hs] at hr
          rw [hs]
          have hR2 : (s == (S : Int)) = R := by rw [hr]; rfl
          clear hr hs b1 b2
          go_wp2_with fail
          go_ret
          exact ⟨rfl, rfl⟩
    · have hr : R = false := by rw [← hR]; simp [hn32]
      have q : decide ((32 : Int) < (n : Int)) = true := by simp; omega
      clear hR h
      subst hr
      go_enter Try.func19, Try.ntmps19
      go_wp2_with fail
      go_ret
      exact ⟨rfl, rfl⟩

theorem same_ints (a1 : Option Addr) (b1 o1 c1 : Nat) (a2 : Option Addr) (b2 o2 c2 n : Nat) (z : Nat → Int) (w : World) (h1 : Ints .i64 w a1 b1 o1 n z) (h2 : Ints .i64 w a2 b2 o2 n z) (hn : n ≤ 1000000) :
    Calls Try.prog 17 #[.slice a1 n c1, .slice a2 n c2] w fun e w' => e = .returned (.bool true) ∧ ∃ m, w' = w.drewN m := by
  have H1 := Lib.hid h1
  have H2 := Lib.hid h2
  clear h1 h2
  go_enter Try.func17, Try.ntmps17
  go_wp2_with fail
  go_loopw [5] (fun i wr => ∃ k m : Nat, k ≤ n ∧ i = .int .i64 k ∧ wr = w.drewN m) (fun i _ => n - (intOf i).toNat)
  case atStart => exact ⟨0, 0, by omega, rfl, rfl⟩
  case round =>
    obtain ⟨k, m, hk, rfl, rfl⟩ := hrel
    by_cases hlt : k < n
    · obtain rfl := H1.out.at_ (by omega)
      obtain rfl := H2.out.at_ (by omega)
      have e1 : ∀ m, (w.drewN m).cell? ⟨b1, o1 + k, none⟩ = some (.int .i64 (z k)) := fun m => (Touch.eq_drewN (S := fun _ => False) w m).cell (H1.out.cell k hlt) id
      have e2 : ∀ m, (w.drewN m).cell? ⟨b2, o2 + k, none⟩ = some (.int .i64 (z k)) := fun m => (Touch.eq_drewN (S := fun _ => False) w m).cell (H2.out.cell k hlt) id
      go_wp2_with fail
      go_quiet (fail)
      go_wp2_with fail
      go_roundw
      case rel => exact ⟨k + 1, _, by omega, by go_num, rfl⟩
      case measure => simp [intOf]; omega
    · obtain rfl : k = n := by omega
      go_wp2_with fail
      go_ret
      exact ⟨rfl, m, rfl⟩
end Go.Proofs.Ytaacphmbkieacaa
