/- fse: the law FseSums. -/
import Derived.Test.YtaacphmbkieacaaFaG
namespace Go.Proofs.Ytaacphmbkieacaa
open Go.RowKit Go.WideShapes Fs
set_option linter.unusedVariables false
set_option linter.unusedSimpArgs false
set_option maxRecDepth 100000

theorem normOk_is (z : Nat → Int) (n : Nat) (log : Int) : normOk z n log = (logOk log && decide (n ≤ 32) && all01 cntOk z n && decide (sumZ z n ≠ 0)) := rfl

set_option maxHeartbeats 2000000 in
theorem FseSums_in (w : World) (a0 : Option Addr) (b0 o0 n c0 : Nat) (z : Nat → Int) (w0 : IntsIn .i64 w a0 b0 o0 n c0 z) (hn : n ≤ 32) (L : Nat) (h5 : 5 ≤ L) (h9 : L ≤ 9) :
    Calls Try.prog 4 #[.slice a0 n c0, .int .i64 L] w fun e w' => e = .returned (.bool true) ∧ Below w.heap.size w w' := by
  have q0 : decide ((32 : Int) < (n : Int)) = false := by simp; omega
  have q1 : decide ((L : Int) < 5) = false := by simp; omega
  have q2 : decide ((9 : Int) < (L : Int)) = false := by simp; omega
  have hlog : logOk (L : Int) = true := by simp [logOk]; omega
  have H := Lib.hid (ints_of w0)
  have HLG := Lib.hid hlog
  clear w0 hlog
  go_enter Try.func4, Try.ntmps4
  go_wp2_with fail
  go_loop [5, 6] (fun s i => ∃ k : Nat, k ≤ n ∧ i = .int .i64 k ∧ s = .int .i64 (sumZ z k) ∧ all01 cntOk z k = true) (fun _ i => n - (intOf i).toNat)
  case atStart => exact ⟨0, by omega, rfl, rfl, rfl⟩
  case round =>
    obtain ⟨k, hk, rfl, rfl, hall⟩ := hrel
    have HA := Lib.hid hall
    obtain ⟨b1, b2⟩ := cnt_sum (by omega) hall
    clear hall
    by_cases hlt : k < n
    · obtain rfl := H.out.at_ (by omega)
      have e1 := H.out.cell k hlt
      have hnew : sumZ z (k + 1) = sumZ z k + z k := rfl
      have hor : all01 cntOk z (k + 1) = cntOk (z k) := by rw [all01, HA.out]; rfl
      obtain ⟨s, hs⟩ : ∃ s, sumZ z k = s := ⟨_, rfl⟩
      obtain ⟨x, hx⟩ : ∃ x, z k = x := ⟨_, rfl⟩
      rw [hs, hx] at hnew
      rw [hs] at b1 b2
      rw [hx] at e1 hor
      rw [hs]
      have HX := Lib.hid hx
      have HN := Lib.hid hnew
      have HOr := Lib.hid hor
      clear hs hx hnew hor
      by_cases hx0 : x < 0
      · go_wp2_with fail
        go_ret
        exact ⟨rfl, Below.refl _ _⟩
      · by_cases hx1 : 1073741824 < x
        · go_wp2_with fail
          go_ret
          exact ⟨rfl, Below.refl _ _⟩
        · go_wp2_with fail
          go_round
          case rel => exact ⟨k + 1, by omega, by go_num, by rw [HN.out], by rw [HOr.out]; simp [cntOk]; omega⟩
          case measure => simp [intOf]; omega
    · obtain rfl : k = n := by omega
      have hcb := cnt_bd HA.out
      obtain ⟨A, hA⟩ : ∃ A, sumZ z k = A := ⟨_, rfl⟩
      rw [hA] at b1 b2 ⊢
      have HAA := Lib.hid hA
      by_cases hA0 : A = 0
      · have hno : normOk z k (L : Int) = false := by rw [normOk_is, hA, hA0]; simp
        have HNO := Lib.hid hno
        clear hA hno hcb b1 b2
        subst hA0
        go_wp2_with fail
        refine (norm_no a0 b0 o0 k c0 z L _ H.out (by omega) HNO.out).mono ?_
        rintro e w3 ⟨rfl, rfl⟩
        go_wp2_with fail
        refine (known_walk _).mono ?_
        rintro e w8 ⟨rfl, t8⟩
        go_wp2_with fail
        go_ret
        exact ⟨rfl, t8.owned⟩
      · have hok : normOk z k (L : Int) = true := by rw [normOk_is, hA, HA.out, HLG.out]; simp [hn, hA0]
        have hne : (A == 0) = false := by simpa using hA0
        obtain ⟨n1, n2, n3, _⟩ := norm_spec z k L hok
        have HOK := Lib.hid hok
        have hp := wrap_pow L (by omega)
        have hw : IntKind.u64.wrap (L : Int) = L := by rw [IntKind.wrap_u64]; omega
        have hd : decide ((L : Int) < 0) = false := by simp
        obtain ⟨S, hS⟩ : ∃ S : Nat, 2 ^ L = S := ⟨_, rfl⟩
        rw [hS] at hp n1
        have hS5 : S ≤ 512 := by rw [← hS]; exact Nat.pow_le_pow_right (n := 2) (by omega) h9
        have HCB := Lib.hid hcb
        clear hA hok hA0 hcb hS
        go_wp2_with fail
        refine (norm_yes a0 b0 o0 k c0 L z _ H.out HOK.out).mono ?_
        rintro e w3 ⟨rfl, hh3, t3⟩
        obtain ⟨y, hy⟩ : ∃ y, normZ z k L = y := ⟨_, rfl⟩
        rw [hy] at n1 n2 n3 hh3
        have T3 := Lib.hid t3
        have HY := Lib.hid (tab_ints hh3)
        have HX := Lib.hid (H.out.touch t3)
        have N1 := Lib.hid n1
        have N2 := Lib.hid n2
        have N3 := Lib.hid n3
        have hbb : ∀ i, i < k → y i ≤ 512 := fun i hi => by have := sumZ_one n2 hi; omega
        have HBB := Lib.hid hbb
        clear t3 hh3 hy n1 n2 n3 hbb
        go_wp2_with fail
        go_loopw [9, 10] (fun s i wr => ∃ j m : Nat, j ≤ k ∧ i = .int .i64 j ∧ s = .int .i64 (sumZ y j) ∧ wr = w3.drewN m) (fun _ i _ => k - (intOf i).toNat)
        case atStart => exact ⟨0, 0, by omega, rfl, rfl, rfl⟩
        case round =>
          obtain ⟨j, m, hj, rfl, rfl, rfl⟩ := hrel
          have s1 := sumZ_nonneg (z := y) (n := j) (fun i hi => N2.out i (by omega))
          have s2 := sumZ_le (z := y) (B := 512) (by omega) (n := j) (fun i hi => HBB.out i (by omega))
          have s3 : sumZ y j ≤ 16384 := by omega
          clear s2
          by_cases hlt2 : j < k
          · obtain rfl := H.out.at_ (by omega)
            have e1 : ∀ m, (w3.drewN m).cell? ⟨w.heap.size, j, none⟩ = some (.int .i64 (y j)) := fun m => by
              have := (HY.out.touch (Touch.eq_drewN w3 m)).cell j hlt2
              rwa [Nat.zero_add] at this
            have e2 : ∀ m, (w3.drewN m).cell? ⟨b0, o0 + j, none⟩ = some (.int .i64 (z j)) := fun m => (HX.out.touch (Touch.eq_drewN w3 m)).cell j hlt2
            have hiff := N3.out j hlt2
            have hyb := HBB.out j hlt2
            have hy0 := N2.out j hlt2
            have hnew : sumZ y (j + 1) = sumZ y j + y j := rfl
            obtain ⟨s, hs⟩ : ∃ s, sumZ y j = s := ⟨_, rfl⟩
            obtain ⟨u, hu⟩ : ∃ u, y j = u := ⟨_, rfl⟩
            obtain ⟨x, hx⟩ : ∃ u, z j = u := ⟨_, rfl⟩
            rw [hs] at s1 s3
            rw [hs, hu] at hnew
            rw [hu] at e1 hiff hyb hy0
            rw [hx] at e2 hiff
            rw [hs]
            have HN := Lib.hid hnew
            have hb : decide (0 < u) = decide (0 < x) := by rw [decide_eq_decide]; exact hiff
            obtain ⟨B, hB⟩ : ∃ B, decide (0 < x) = B := ⟨_, rfl⟩
            rw [hB] at hb
            clear hnew hs hu hx hiff
            cases B with
            | true =>
              have hu0 : 0 < u := by simpa using hb
              have hx0 : 0 < x := by simpa using hB
              clear hb hB
              go_wp2_with fail
              go_quiet (fail)
              go_wp2_with fail
              go_roundw
              case rel => exact ⟨j + 1, _, by omega, by go_num, by rw [HN.out], rfl⟩
              case measure => simp [intOf]; omega
            | false =>
              have hu0 : ¬ 0 < u := by simpa using hb
              have hx0 : ¬ 0 < x := by simpa using hB
              go_wp2_with fail
              go_quiet (fail)
              go_wp2_with fail
              go_roundw
              case rel => exact ⟨j + 1, _, by omega, by go_num, by rw [HN.out], rfl⟩
              case measure => simp [intOf]; omega
          · obtain rfl : j = k := by omega
            have hfin := N1.out
            obtain ⟨s, hs⟩ : ∃ s, sumZ y j = s := ⟨_, rfl⟩
            rw [hs] at hfin
            rw [hs]
            clear hs s1 s3
            subst hfin
            go_wp2_with fail
            refine (known_walk _).mono ?_
            rintro e w8 ⟨rfl, t8⟩
            go_wp2_with fail
            go_ret
            exact ⟨rfl, ((T3.out.drewN m).trans t8).owned⟩
theorem FseSums_law (w : World) (a0 : Option Addr) (b0 o0 l0 c0 : Nat) (z0 : Nat → Int) (w0 : IntsIn .i64 w a0 b0 o0 l0 c0 z0) (a1 : Int) (w1 : (Lit.int .i64 a1).wf = true) :
    Calls Try.prog 4 #[.slice a0 l0 c0, .int .i64 a1] w fun e w' => e = .returned (.bool true) ∧ Below w.heap.size w w' := by
  have hc : 32 < l0 ∨ (l0 ≤ 32 ∧ a1 < 5) ∨ (l0 ≤ 32 ∧ 5 ≤ a1 ∧ 9 < a1) ∨ (l0 ≤ 32 ∧ ∃ L : Nat, a1 = L ∧ 5 ≤ L ∧ L ≤ 9) := by
    by_cases h1 : 32 < l0
    · exact .inl h1
    by_cases h2 : a1 < 5
    · exact .inr (.inl ⟨by omega, h2⟩)
    by_cases h3 : 9 < a1
    · exact .inr (.inr (.inl ⟨by omega, by omega, h3⟩))
    · exact .inr (.inr (.inr ⟨by omega, a1.toNat, by omega, by omega, by omega⟩))
  rcases hc with h | ⟨h, h'⟩ | ⟨h, h', h1⟩ | ⟨h, L, rfl, h1, h2⟩
  rotate_left 3
  · exact FseSums_in w a0 b0 o0 l0 c0 z0 w0 h L h1 h2
  all_goals
    clear w0 w1
    go_enter Try.func4, Try.ntmps4
    go_wp2_with fail
    go_ret
    exact ⟨rfl, Below.refl _ _⟩
end Go.Proofs.Ytaacphmbkieacaa
