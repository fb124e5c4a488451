/- match: for how long two places are the same; the best place. -/
import Derived.Test.YtmhmbepohcapnaaMore
import Derived.Test.YtmhmbepohcapnaaProg
namespace Go.Proofs.Ytmhmbepohcapnaa
open Go.RowKit Go.WideShapes
set_option linter.unusedVariables false
set_option maxRecDepth 100000

/-- For how many of f places the ones from j and from i on are the same. -/
def lcpA (z : Nat → Int) : Nat → Nat → Nat → Nat
  | 0, _, _ => 0
  | f + 1, j, i => if z j = z i then lcpA z f (j + 1) (i + 1) + 1 else 0
def lcp (z : Nat → Int) (n j i : Nat) : Nat := lcpA z (n - i) j i
theorem lcpA_le (z : Nat → Int) : ∀ f j i, lcpA z f j i ≤ f
  | 0, _, _ => Nat.le_refl _
  | f + 1, j, i => by
    unfold lcpA
    have := lcpA_le z f (j + 1) (i + 1)
    split <;> omega
theorem lcpA_add (z : Nat → Int) : ∀ k f j i, k ≤ f → (∀ t, t < k → z (j + t) = z (i + t)) → lcpA z f j i = lcpA z (f - k) (j + k) (i + k) + k
  | 0, f, j, i, _, _ => by simp
  | k + 1, f, j, i, hf, h => by
    obtain ⟨f, rfl⟩ : ∃ g, f = g + 1 := ⟨f - 1, by omega⟩
    have h0 : z j = z i := h 0 (by omega)
    rw [lcpA, if_pos h0, lcpA_add z k f (j + 1) (i + 1) (by omega) (fun t ht => by have := h (t + 1) (by omega); rw [show j + 1 + t = j + (t + 1) by omega, show i + 1 + t = i + (t + 1) by omega]; exact this)]
    rw [show f + 1 - (k + 1) = f - k by omega, show j + 1 + k = j + (k + 1) by omega, show i + 1 + k = i + (k + 1) by omega]
    omega
theorem lcp_end {z : Nat → Int} {n j i k : Nat} (hk : i + k = n) (h : ∀ t, t < k → z (j + t) = z (i + t)) : lcp z n j i = k := by
  unfold lcp
  rw [lcpA_add z k (n - i) j i (by omega) h, show n - i - k = 0 by omega]
  simp [lcpA]
theorem lcp_stop {z : Nat → Int} {n j i k : Nat} (hk : i + k < n) (h : ∀ t, t < k → z (j + t) = z (i + t)) (hs : z (j + k) ≠ z (i + k)) : lcp z n j i = k := by
  unfold lcp
  rw [lcpA_add z k (n - i) j i (by omega) h]
  obtain ⟨f, hf⟩ : ∃ f, n - i - k = f + 1 := ⟨n - i - k - 1, by omega⟩
  rw [hf, lcpA, if_neg hs]; omega
theorem lcp_same (z : Nat → Int) : ∀ f j i t, t < lcpA z f j i → z (j + t) = z (i + t)
  | 0, j, i, t, h => by simp [lcpA] at h
  | f + 1, j, i, t, h => by
    unfold lcpA at h
    split at h
    · rename_i h0
      cases t with
      | zero => exact h0
      | succ t =>
        have := lcp_same z f (j + 1) (i + 1) t (by omega)
        rw [show j + 1 + t = j + (t + 1) by omega, show i + 1 + t = i + (t + 1) by omega] at this
        exact this
    · omega
theorem lcp_le (z : Nat → Int) (n j i : Nat) : lcp z n j i ≤ n - i := lcpA_le z _ _ _

set_option maxHeartbeats 1000000 in
theorem long_walk (a : Option Addr) (b off n c : Nat) (z : Nat → Int) (w : World) (h : Ints .u8 w a b off n z) (j i : Nat) (hji : j < i) (hin : i ≤ n) (hn : n ≤ 1000000) :
    Calls Try.prog 25 #[.slice a n c, .int .i64 j, .int .i64 i] w fun e w' => e = .returned (.int .i64 (lcp z n j i : Nat)) ∧ ∃ m, w' = w.drewN m := by
  have H := Lib.hid h
  clear h
  go_enter Try.func25, Try.ntmps25
  go_wp2_with fail
  go_loopw [7] (fun v wr => ∃ k m : Nat, i + k ≤ n ∧ v = .int .i64 k ∧ (∀ t, t < k → z (j + t) = z (i + t)) ∧ wr = w.drewN m) (fun v _ => n - (intOf v).toNat)
  case atStart => exact ⟨0, 0, by omega, rfl, fun t ht => by omega, rfl⟩
  case round =>
    obtain ⟨k, m, hk, rfl, hs, rfl⟩ := hrel
    have Hs := Lib.hid hs
    clear hs
    have f1 : IntKind.i64.wrap ((i : Int) + (k : Int)) = (i : Int) + k := IntWalk.i64_in _ (by omega)
    have f2 : IntKind.i64.wrap ((j : Int) + (k : Int)) = (j : Int) + k := IntWalk.i64_in _ (by omega)
    have f3 : (0 : Int) ≤ (i : Int) + k := by omega
    have f4 : (0 : Int) ≤ (j : Int) + k := by omega
    have f5 : ((i : Int) + (k : Int)).toNat = i + k := by omega
    have f6 : ((j : Int) + (k : Int)).toNat = j + k := by omega
    by_cases hlt : i + k < n
    · obtain rfl := H.out.at_ (by omega)
      have g1 : (i : Int) + k < n := by omega
      have g2 : (j : Int) + k < n := by omega
      have e1 : ∀ m, (w.drewN m).cell? ⟨b, off + (j + k), none⟩ = some (.int .u8 (z (j + k))) := fun m => (Touch.eq_drewN (S := fun _ => False) w m).cell (H.out.cell _ (by omega)) id
      have e2 : ∀ m, (w.drewN m).cell? ⟨b, off + (i + k), none⟩ = some (.int .u8 (z (i + k))) := fun m => (Touch.eq_drewN (S := fun _ => False) w m).cell (H.out.cell _ (by omega)) id
      by_cases he : z (j + k) = z (i + k)
      · have hb : (z (j + k) == z (i + k)) = true := by simpa using he
        have He := Lib.hid he
        clear he
        go_wp2_with fail
        go_quiet (fail)
        go_wp2_with fail
        go_roundw
        case rel => exact ⟨k + 1, _, by omega, by go_num, fun t ht => by
          by_cases e : t = k
          · subst e; exact He.out
          · exact Hs.out t (by omega), rfl⟩
        case measure => simp [intOf]; omega
      · have hb : (z (j + k) == z (i + k)) = false := by simpa using he
        have Hl := Lib.hid (lcp_stop hlt Hs.out he)
        clear he
        go_wp2_with fail
        go_quiet (fail)
        go_wp2_with fail
        go_ret
        exact ⟨ret_int (by rw [Hl.out]), m + nq, by rw [World.drewN_drewN]⟩
    · have g1 : ¬ ((i : Int) + k < n) := by omega
      have g2 : decide ((i : Int) + (k : Int) < (n : Int)) = false := by simpa using g1
      have Hl := Lib.hid (lcp_end (show i + k = n by omega) Hs.out)
      go_wp2_with fail
      go_quiet (fail)
      go_wp2_with fail
      go_ret
      exact ⟨ret_int (by rw [Hl.out]), m + nq, by rw [World.drewN_drewN]⟩
end Go.Proofs.Ytmhmbepohcapnaa
