/- match: rows put together. -/
import Derived.Test.YtmhmbepohcapnaaD
namespace Go.Proofs.Ytmhmbepohcapnaa
open Go.RowKit Go.WideShapes
set_option linter.unusedVariables false
set_option maxRecDepth 100000

/-- Rows of bytes, one behind the other: how many bytes the first k have; what they hold. -/
def sumL (L : Nat → Nat) : Nat → Nat
  | 0 => 0
  | k + 1 => sumL L k + L k
def catV (L : Nat → Nat) (Z : Nat → Nat → Int) : Nat → List Value
  | 0 => []
  | k + 1 => catV L Z k ++ cellsZ .u8 (Z k) (L k)
theorem catV_length (L : Nat → Nat) (Z : Nat → Nat → Int) : ∀ k, (catV L Z k).length = sumL L k
  | 0 => rfl
  | k + 1 => by simp [catV, sumL, catV_length L Z k, cellsZ_length]
theorem sumL_mono (L : Nat → Nat) {k n : Nat} (h : k ≤ n) : sumL L k ≤ sumL L n := by
  induction n with
  | zero => obtain rfl : k = 0 := by omega
            exact Nat.le_refl _
  | succ n ih =>
    by_cases e : k = n + 1
    · subst e; exact Nat.le_refl _
    · have := ih (by omega)
      simp only [sumL]; omega

/-- A list of rows that can be read. -/
structure RowsOf (w : World) (a : Option Addr) (g off n : Nat) (A : Nat → Option Addr) (B O L C : Nat → Nat) (Z : Nat → Nat → Int) : Prop where
  at_ : 0 < n → a = some ⟨g, off, none⟩
  cell : ∀ i, i < n → w.cell? ⟨g, off + i, none⟩ = some (.slice (A i) (L i) (C i))
  row : ∀ i, i < n → Ints .u8 w (A i) (B i) (O i) (L i) (Z i)
theorem RowsOf.touch {w w' : World} {a : Option Addr} {g off n : Nat} {A : Nat → Option Addr} {B O L C : Nat → Nat} {Z : Nat → Nat → Int} (h : RowsOf w a g off n A B O L C Z) (ht : Touch (fun _ => False) w w') : RowsOf w' a g off n A B O L C Z :=
  ⟨h.at_, fun i hi => ht.cell (h.cell i hi) id, fun i hi => (h.row i hi).touch ht⟩

set_option maxHeartbeats 1000000 in
theorem concat_walk (w : World) (a : Option Addr) (g off n c : Nat) (A : Nat → Option Addr) (B O L C : Nat → Nat) (Z : Nat → Nat → Int) (h : RowsOf w a g off n A B O L C Z) (hn : n ≤ 100000) (ht : sumL L n ≤ 1000000) :
    Calls Try.prog 20 #[.slice a n c] w fun e w' => ∃ v, e = .returned v ∧ w'.ownsRow 0 5 1 v (sumL L n) (catV L Z n) ∧ OwnB w.heap.size v ∧ Touch (fun _ => False) w w' := by
  obtain ⟨i0, hi, hz0, hz1, hz2⟩ := info_parts Try.info5
  have H := Lib.hid h
  clear h
  go_enter Try.func20, Try.ntmps20
  go_wp2_with fail
  go_loop [3, 5, 11] (fun s _ i => ∃ k : Nat, k ≤ n ∧ i = .int .i64 k ∧ s = .int .i64 (sumL L k : Nat)) (fun _ _ i => n - (intOf i).toNat)
  case atStart => exact ⟨0, by omega, rfl, rfl⟩
  case round =>
    obtain ⟨k, hk, rfl, rfl⟩ := hrel
    have hs := sumL_mono L hk
    by_cases hlt : k < n
    · obtain rfl := H.out.at_ (by omega)
      have e1 := H.out.cell k hlt
      have hs2 : sumL L (k + 1) ≤ sumL L n := sumL_mono L (by omega)
      have hs3 : sumL L (k + 1) = sumL L k + L k := rfl
      obtain ⟨x, hx⟩ : ∃ x, sumL L k = x := ⟨_, rfl⟩
      rw [hx] at hs3 hs
      rw [hx]
      have hb : x + L k ≤ 1000000 := by omega
      have Hs := Lib.hid hs3
      clear hs2 hs3 hx
      go_wp2_with fail
      go_round
      case rel => exact ⟨k + 1, by omega, by go_num, by rw [Hs.out]; go_num⟩
      case measure => simp [intOf]; omega
    · obtain rfl : k = n := by omega
      go_wp2_with fail
      refine (grow_walk _ _ ht).mono ?_
      rintro e w2 ⟨v2, rfl, hown2, ob2, t2⟩
      have Hown2 := Lib.hid hown2
      clear hown2
      go_wp2_with fail
      go_loopw [6, 8, 27] (fun q _ i wr => ∃ j : Nat, j ≤ k ∧ i = .int .i64 j ∧ wr.ownsRow 0 5 1 q (sumL L j) (catV L Z j) ∧ OwnB w.heap.size q ∧ Touch (fun _ => False) w wr) (fun _ _ i _ => k - (intOf i).toNat)
      case atStart => exact ⟨0, by omega, rfl, Hown2.out, ob2, t2⟩
      case round =>
        obtain ⟨j, hj, rfl, hrow, hown, htt⟩ := hrel
        have Hrow := Lib.hid hrow
        clear hrow
        by_cases hlt2 : j < k
        · obtain rfl := H.out.at_ (by omega)
          have e1 := htt.cell (H.out.cell j hlt2) id
          have hs2 : sumL L (j + 1) ≤ sumL L k := sumL_mono L (by omega)
          have hs3 : sumL L (j + 1) = sumL L j + L j := rfl
          have hb : sumL L j + L j ≤ 1000000 := by omega
          have HI := Lib.hid ((H.out.row j hlt2).touch htt)
          clear hs2 hs3
          go_wp2_with (refine wpList_append_mine rfl (.tmp 31) (.tmp 32) 22 22 rfl 5 i0 (.int .u8 0) 1 1 Try.underlying22 hi hz0 hz1 hz2 rfl u6 _ _ rfl Hrow.out _ (L j) _ rfl (src_ints (C j) Try.underlying22 HI.out) (by unfold maxLen; omega) (by omega) ?_; intro a4 c4 w6 hown6 ht6 hf6 _)
          have T6 := own_app htt hown ht6
          have own6 := hown.fresh hf6 htt.size
          go_wp2_with fail
          go_roundw
          case rel => exact ⟨j + 1, by omega, by go_num, hown6, own6, T6⟩
          case measure => simp [intOf]; omega
        · obtain rfl : j = k := by omega
          go_wp2_with fail
          go_ret
          exact ⟨_, rfl, Hrow.out, hown, htt⟩

/-- Two rows as one. -/
def two (l1 : Nat) (z1 z2 : Nat → Int) (i : Nat) : Int := if i < l1 then z1 i else z2 (i - l1)
end Go.Proofs.Ytmhmbepohcapnaa
