/- hash: the laws of rows, of lengths. -/
import Derived.Test.YtdhfepalphpabaaHE
namespace Go.Proofs.Ytdhfepalphpabaa
open Go.RowKit Go.WideShapes
set_option linter.unusedVariables false
set_option linter.unusedSimpArgs false
set_option maxRecDepth 100000

theorem cat_nat (L : Nat → Nat) (Z : Nat → Nat → Int) : ∀ n, (∀ k, k < n → ∀ i, 0 ≤ Z k i ∧ Z k i < 256) → ∃ y : Nat → Nat, (∀ i, y i < 256) ∧ catV L Z n = cellsZ .u8 (nat8 y) (sumL L n)
  | 0, _ => ⟨fun _ => 0, fun _ => by show 0 < 256; omega, rfl⟩
  | n + 1, h => by
    obtain ⟨y, hy, e⟩ := cat_nat L Z n (fun k hk => h k (by omega))
    refine ⟨fun i => if i < sumL L n then y i else (Z n (i - sumL L n)).toNat, fun i => ?_, ?_⟩
    · show (if i < sumL L n then y i else _) < 256
      split
      · exact hy i
      · have := h n (by omega) (i - sumL L n); omega
    · rw [catV, e, cellsZ_append]
      refine cellsZ_congr fun i hi => ?_
      show (if i < sumL L n then nat8 y i else Z n (i - sumL L n)) = ((if i < sumL L n then y i else (Z n (i - sumL L n)).toNat : Nat) : Int)
      split
      · rfl
      · have := h n (by omega) (i - sumL L n); omega

set_option maxHeartbeats 1000000 in
theorem HashRows_law (w : World) (a0 : Int) (w0 : (Lit.int .u64 a0).wf = true) (a1 : Option Addr) (b1 o1 l1 c1 : Nat) (A1 : Nat → Option Addr) (B1 O1 L1 C1 : Nat → Nat) (Z1 : Nat → Nat → Int) (w1 : RowsIn .u8 w a1 b1 o1 l1 c1 A1 B1 O1 L1 C1 Z1) (hre : ∀ k, k < l1 → L1 k ≤ 140737488351232) :
    Calls Try.prog 4 #[.int .u64 a0, .slice a1 l1 c1] w fun e w' => e = .returned (.bool true) ∧ Below w.heap.size w w' := by
  obtain ⟨j0, hj, hj0, hj1, hj2⟩ := info_parts Try.info5
  have hl1 := Nat.le_trans w1.le w1.max
  have HL := Lib.hid (show RowsOf w a1 b1 o1 l1 A1 B1 O1 L1 C1 Z1 from ⟨w1.at_, w1.cell, fun i hi => ⟨(w1.row i hi).at_, (w1.row i hi).cell⟩⟩)
  have HLen := Lib.hid hre
  have HWF := Lib.hid (show ∀ k, k < l1 → ∀ i, 0 ≤ Z1 k i ∧ Z1 k i < 256 from fun k hk i => u8_wf ((w1.row k hk).wf i))
  unfold maxLen at hl1
  clear w0 w1 hre
  go_enter Try.func4, Try.ntmps4
  go_wp2_with fail
  go_loopw [5, 6] (fun q i wr => ∃ k : Nat, k ≤ l1 ∧ k ≤ 201 ∧ sumL L1 k ≤ 2000 ∧ i = .int .i64 k ∧ wr.ownsRow 0 5 1 q (sumL L1 k) (catV L1 Z1 k) ∧ OwnB w.heap.size q ∧ Touch (fun _ => False) w wr) (fun _ i _ => l1 - (intOf i).toNat)
  case atStart => exact ⟨0, by omega, by omega, by simp [sumL], rfl, World.ownsRow_nil _ _ _ _, OwnB.nil _, Touch.refl _ _⟩
  case round =>
    obtain ⟨k, hk, hk2, hs, rfl, hrow, hown, ht⟩ := hrel
    have Hrow := Lib.hid hrow
    obtain ⟨S, hS⟩ : ∃ S, sumL L1 k = S := ⟨_, rfl⟩
    rw [hS] at hs
    have HS := Lib.hid hS
    obtain ⟨qa, qc, rfl⟩ : ∃ qa qc, u5 = .slice qa S qc := by
      rcases row_form hrow with ⟨rfl, hn⟩ | ⟨g, c, rfl⟩
      · exact ⟨none, 0, by rw [← hS, hn]⟩
      · exact ⟨_, c, by rw [← hS]⟩
    clear hrow hS
    by_cases hlt : k < l1
    · have hlk := HLen.out k hlt
      obtain rfl := HL.out.at_ (by omega)
      have e1 := ht.cell (HL.out.cell k hlt) id
      obtain ⟨l, hl⟩ : ∃ l, L1 k = l := ⟨_, rfl⟩
      rw [hl] at hlk e1
      have HLk := Lib.hid hl
      clear hl
      by_cases h200 : 200 < k
      · have g0 : decide ((200 : Int) < (k : Int)) = true := by simp; omega
        go_wp2_with fail
        go_ret
        exact ⟨rfl, ht.owned⟩
      · have g0 : decide ((200 : Int) < (k : Int)) = false := by simp; omega
        by_cases h2000 : 2000 < S + l
        · have g1 : decide ((2000 : Int) < (S : Int) + (l : Int)) = true := by simp; omega
          go_wp2_with fail
          go_ret
          exact ⟨rfl, ht.owned⟩
        · have g1 : decide ((2000 : Int) < (S : Int) + (l : Int)) = false := by simp; omega
          have HI := Lib.hid ((HL.out.row k hlt).touch ht)
          rw [HLk.out] at HI
          have Hrow2 := Hrow
          rw [HS.out] at Hrow2
          go_wp2_with (refine wpList_append_mine rfl (.tmp 26) (.tmp 30) 23 23 rfl 5 j0 (.int .u8 0) 1 1 Try.underlying23 hj hj0 hj1 hj2 rfl (.slice qa S qc) _ _ rfl Hrow2.out _ l _ rfl (src_ints (C1 k) Try.underlying23 HI.out) (by unfold maxLen; omega) (by omega) ?_; intro a4 c4 w6 hown6 ht6 hf6 _)
          have T6 := own_app ht hown ht6
          have own6 := hown.fresh hf6 ht.size
          have hnew : sumL L1 (k + 1) = S + l := by rw [sumL, HS.out, HLk.out]
          go_roundw
          case rel => exact ⟨k + 1, by omega, by omega, by omega, by go_num, by rw [hnew, catV, HLk.out]; exact hown6, own6, T6⟩
          case measure => simp [intOf]; omega
    · obtain rfl : k = l1 := by omega
      obtain ⟨y, hy, hc⟩ := cat_nat L1 Z1 k HWF.out
      rw [HS.out] at hc
      have hr := Hrow.out
      rw [HS.out, hc] at hr
      obtain ⟨xa, xb, xc, hxv, hx⟩ := ints_row hr
      simp at hxv
      obtain ⟨rfl, rfl⟩ := hxv
      obtain ⟨X, hX⟩ : ∃ X, sumV y S a0 = X := ⟨_, rfl⟩
      have HX := Lib.hid hX
      have HI := Lib.hid hx
      have HY := Lib.hid hy
      have HC := Lib.hid hc
      clear hr hx hX hy hc
      go_wp2_with fail
      refine (sum_walk a0 wr a1 b1 o1 k c1 A1 B1 O1 L1 C1 Z1 (HL.out.touch ht) (by omega) S HS.out (by omega) y HY.out HC.out).mono ?_
      rintro e w2 ⟨rfl, t2⟩
      have T2 := Lib.hid (ht.trans t2)
      have HI2 := Lib.hid (HI.out.touch t2)
      rw [HX.out]
      clear t2
      go_wp2_with fail
      refine (sum_one a0 w2 _ qa xb 0 S qc w2.heap.size _ y HY.out HI2.out (Touch.new w2 _) (heap_alloc_new w2 _) (by omega)).mono ?_
      rintro e w3 ⟨rfl, t3⟩
      rw [HX.out]
      have T3 := Lib.hid ((T2.out.alloc _).trans t3)
      clear t3
      go_wp2_with fail
      refine (known_walk _).mono ?_
      rintro e w6 ⟨rfl, t6⟩
      go_wp2_with fail
      go_ret
      exact ⟨rfl, (T3.out.trans t6).owned⟩
end Go.Proofs.Ytdhfepalphpabaa
