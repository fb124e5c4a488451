/- match: the best place. -/
import Derived.Test.YtmhmbepohcapnaaA
namespace Go.Proofs.Ytmhmbepohcapnaa
open Go.RowKit Go.WideShapes
set_option linter.unusedVariables false
set_option maxRecDepth 100000

/-- The best place of i: where, and for how long; of the places below j, with what is known of those above. -/
def bestF (z : Nat → Int) (n i depth : Nat) : Nat → Nat → Nat → Nat → Nat × Nat
  | 0, at_, most, _ => (at_, most)
  | j + 1, at_, most, seen =>
    if depth ≤ seen then (at_, most)
    else if lcp z n j i < 4 then bestF z n i depth j at_ most seen
    else if most < lcp z n j i then bestF z n i depth j j (lcp z n j i) (seen + 1)
    else bestF z n i depth j at_ most (seen + 1)
theorem bestF_full (z : Nat → Int) (n i depth j at_ most seen : Nat) (h : depth ≤ seen) : bestF z n i depth j at_ most seen = (at_, most) := by
  cases j with
  | zero => rfl
  | succ j => rw [bestF, if_pos h]
def best (z : Nat → Int) (n i depth : Nat) : Nat × Nat := bestF z n i depth i 0 0 0

set_option maxHeartbeats 2000000 in
theorem best_walk (a : Option Addr) (b off n c : Nat) (z : Nat → Int) (w : World) (h : Ints .u8 w a b off n z) (i depth : Nat) (hin : i ≤ n) (hn : n ≤ 1000000) (hd : depth ≤ 1000) :
    Calls Try.prog 22 #[.slice a n c, .int .i64 i, .int .i64 depth] w fun e w' => e = .returned (.tuple #[.int .i64 (best z n i depth).1, .int .i64 (best z n i depth).2]) ∧ ∃ m, w' = w.drewN m := by
  have H := Lib.hid h
  clear h
  obtain ⟨R, hR⟩ : ∃ R, best z n i depth = R := ⟨_, rfl⟩
  rw [hR]
  have HR := Lib.hid hR
  clear hR
  go_enter Try.func22, Try.ntmps22
  go_wp2_with fail
  go_loopw [8, 9, 10, 11, 12] (fun x y s v _ wr => ∃ j at_ most seen m : Nat, ∃ jj : Int, j ≤ i ∧ at_ ≤ i ∧ most ≤ n ∧ seen ≤ i - j ∧ jj = (j : Int) - 1 ∧ x = .int .i64 at_ ∧ y = .int .i64 most ∧ s = .int .i64 seen ∧ v = .int .i64 jj ∧ bestF z n i depth j at_ most seen = R ∧ wr = w.drewN m) (fun _ _ _ v _ _ => (intOf v + 1).toNat)
  case atStart => exact ⟨i, 0, 0, 0, 0, _, by omega, by omega, by omega, by omega, rfl, rfl, rfl, rfl, rfl, HR.out, rfl⟩
  case round =>
    obtain ⟨j, at_, most, seen, m, jj, hj, hat, hmost, hseen, hjj, rfl, rfl, rfl, rfl, hb, rfl⟩ := hrel
    have Hb := Lib.hid hb
    clear hb
    by_cases h0 : j = 0
    · have hj1 : jj = -1 := by omega
      clear hjj
      subst hj1 h0
      have hr : R = (at_, most) := by rw [← Hb.out]; rfl
      have Hr := Lib.hid hr
      clear hr
      go_wp2_with fail
      go_ret2
      exact ⟨by rw [Hr.out]; rfl, m, rfl⟩
    obtain ⟨j, rfl⟩ : ∃ q, j = q + 1 := ⟨j - 1, by omega⟩
    have hj1 : jj = j := by omega
    clear hjj h0
    subst hj1
    by_cases hs : depth ≤ seen
    · have hr : R = (at_, most) := by rw [← Hb.out]; exact bestF_full _ _ _ _ _ _ _ _ hs
      have Hr := Lib.hid hr
      clear hr
      go_wp2_with fail
      go_ret2
      exact ⟨by rw [Hr.out]; rfl, m, rfl⟩
    have hb := Hb.out
    rw [bestF, if_neg hs] at hb
    obtain ⟨k, hk⟩ : ∃ k, lcp z n j i = k := ⟨_, rfl⟩
    have hkn : k ≤ n := by rw [← hk]; exact Nat.le_trans (lcp_le z n j i) (by omega)
    have Hl := Lib.hid (fun w h => long_walk a b off n c z w h j i (by omega) hin hn)
    rw [hk] at hb Hl
    have Hb2 := Lib.hid hb
    clear hb hk Hb
    go_wp2_with fail
    refine (Hl.out _ (H.out.touch (Touch.eq_drewN _ _))).mono ?_
    rintro e w1 ⟨rfl, m1, rfl⟩
    rw [World.drewN_drewN]
    by_cases h4 : k < 4
    · have hb := Hb2.out
      rw [if_pos h4] at hb
      have Hb3 := Lib.hid hb
      clear hb Hb2
      go_wp2_with fail
      go_roundw
      case rel => exact ⟨j, at_, most, seen, m + m1, _, by omega, by omega, by omega, by omega, rfl, rfl, rfl, rfl, rfl, Hb3.out, rfl⟩
      case measure => simp [intOf]
    · by_cases hm : most < k
      · have hb := Hb2.out
        rw [if_neg h4, if_pos hm] at hb
        have Hb3 := Lib.hid hb
        clear hb Hb2
        go_wp2_with fail
        go_roundw
        case rel => exact ⟨j, j, k, seen + 1, m + m1, _, by omega, by omega, by omega, by omega, rfl, rfl, rfl, by go_num, rfl, Hb3.out, rfl⟩
        case measure => simp [intOf]
      · have hb := Hb2.out
        rw [if_neg h4, if_neg hm] at hb
        have Hb3 := Lib.hid hb
        clear hb Hb2
        go_wp2_with fail
        go_roundw
        case rel => exact ⟨j, at_, most, seen + 1, m + m1, _, by omega, by omega, by omega, by omega, rfl, rfl, rfl, by go_num, rfl, Hb3.out, rfl⟩
        case measure => simp [intOf]
end Go.Proofs.Ytmhmbepohcapnaa
