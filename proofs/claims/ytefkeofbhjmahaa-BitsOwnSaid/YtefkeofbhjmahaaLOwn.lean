/- The law BitsOwn, walked. -/
import Derived.Test.YtefkeofbhjmahaaG
namespace Go.Proofs.Ytefkeofbhjmahaa
open Go.RowKit Go.WideShapes
set_option linter.unusedVariables false

set_option maxRecDepth 100000 in
set_option maxHeartbeats 2000000 in
theorem BitsOwn_in (w : World) (a0 : Option Addr) (b0 o0 l0 c0 : Nat) (z0 : Nat → Nat → Int) (w0 : RecsIn 2 w a0 b0 o0 l0 c0 z0) (hl : l0 ≤ 50) (n : Nat) (hn : n ≤ 24) :
    Calls Try.prog 9 #[.slice a0 l0 c0, .int .i64 n] w fun e w' => e = .returned (.bool true) ∧ Below w.heap.size w w' := by
  have d0 : decide ((50 : Int) < (l0 : Int)) = false := by simp; omega
  have d1 : decide ((24 : Int) < (n : Int)) = false := by simp; omega
  have Hat := Lib.hid w0.at_
  go_enter Try.func9, Try.ntmps9
  go_wp2_with fail
  refine (wnew_walk _).mono ?_
  rintro e w1 ⟨rfl, hw1, ht1, hs1⟩
  have Hw1 := Lib.hid hw1
  clear hw1 hs1
  go_wp2_with fail
  go_loopw [6] (fun i wr => ∃ k : Nat, ∃ l : List Bool, ∃ vp : Value, k ≤ l0 ∧ i = .int .i64 k ∧ Wr wr 53 w.heap.size vp l ∧ OwnB w.heap.size vp ∧ l.length ≤ 24 * k ∧ Touch (fun k => w.heap.size ≤ k) w wr) (fun i _ => l0 - (intOf i).toNat)
  case atStart => exact ⟨0, [], _, by omega, rfl, Hw1.out, OwnB.nil _, by simp, ht1.none⟩
  case round =>
    obtain ⟨k, l, vp, hk, rfl, hp, ho1, hlen, ht⟩ := hrel
    have Hp := Lib.hid hp
    clear hp Hw1
    by_cases hlt : k < l0
    · obtain rfl := Hat.out (by omega)
      obtain ⟨e0, e1⟩ := rec2 w0 ht hlt
      have hll := putL_len (z0 k 0) (z0 k 1) l
      go_wp2_with fail
      go_region_held3 (fun wx => wx.cell? ⟨b0, o0 + k * 2, none⟩ = some (.int .i64 (z0 k 0)) ∧ wx.cell? ⟨b0, o0 + k * 2 + 1, none⟩ = some (.int .i64 (z0 k 1))) (first | exact ⟨e0, e1⟩ | exact rec2 w0 (foot_own ht.drew (Nat.le_refl _) ho1 ht3) hlt) (first | (go_at_call 15; refine (put_walk _ _ _ _ _ _ Hp.out.drew (by omega)).mono ?_; rintro e w3 ⟨rfl, vp3, hp3, ht3, hf3⟩))
      have Hp3 := Lib.hid hp3
      have ho3 := ho1.fresh hf3 ht.size
      have ht' := foot_own ht.drew (Nat.le_refl _) ho1 ht3
      clear hp3
      go_wp2_with fail
      go_roundw
      case rel => exact ⟨k + 1, _, vp3, by omega, by go_num, Hp3.out, ho3, by omega, ht'⟩
      case measure => simp [intOf]; omega
    · obtain rfl : k = l0 := by omega
      have ht0 : Touch (fun _ => False) w wr := ht.mono (fun i hi h => by omega)
      clear ht d0
      go_wp2_with fail
      refine (bytes_walk _ _ _ _ Hp.out (by omega)).mono ?_
      rintro e w4 ⟨rfl, hb4, ht4⟩
      have hcv4 : (convert 33 9 (.slice (some ⟨wr.heap.size, 0, none⟩) (l.length / 8 + 1) (l.length / 8 + 1))).run Try.prog w4 = .ok (.string (strBits l)) w4 := conv_bytes hb4
      have Hb4 := Lib.hid hb4
      have S4 := Lib.hid (lt_of_block hb4)
      clear hb4
      go_wp2_with fail
      refine (newr_back _ _ l _ Hb4.out (by omega)).mono ?_
      rintro e w5 ⟨rfl, v5, hr5, ht5, hf5⟩
      have HR5 := Lib.hid hr5
      have Hb5 := Lib.hid (ht5.heap Hb4.out id)
      have T5 := Lib.hid (ht4.trans ht5)
      clear hr5 ht4 ht5 hf5 hcv4 Hb4
      go_wp2_with fail
      refine (take_walk _ _ _ n _ HR5.out (by omega)).mono ?_
      rintro e w7 ⟨rfl, v7, hr7, _, ht7⟩
      have Hb7 := Lib.hid (ht7.heap Hb5.out (by have := S4.out; omega))
      have T7 := Lib.hid (T5.out.then ht7 (fun i hi hh => by have := S4.out; omega))
      clear hr7 ht7 HR5 Hb5 T5
      have hcv7 : (convert 33 9 (.slice (some ⟨wr.heap.size, 0, none⟩) (l.length / 8 + 1) (l.length / 8 + 1))).run Try.prog w7 = .ok (.string (strBits l)) w7 := conv_bytes Hb7.out
      go_wp2_with fail
      clear hcv7
      go_loopw [11] (fun i wx => ∃ q : Nat, ∃ G : Nat → Int, q ≤ l.length / 8 + 1 ∧ i = .int .i64 q ∧ wx.heap[wr.heap.size]? = some (.cells (tab (l.length / 8 + 1) (fun p => .int .u8 (G p))) 5 (0, 0)) ∧ Touch (fun _ => False) wr wx) (fun i _ => l.length / 8 + 1 - (intOf i).toNat)
      case atStart => exact ⟨0, _, by omega, rfl, Hb7.out, T7.out⟩
      case round =>
        obtain ⟨q, G, hq, rfl, hg, htt⟩ := hrel
        have Hg := Lib.hid hg
        clear hg
        by_cases hlt : q < l.length / 8 + 1
        · have hc := tab_cell Hg.out hlt
          have hfz := tab_free Hg.out q
          go_wp2_with fail
          go_roundw
          case rel => exact ⟨q + 1, fun p => if p = q then bits BinOp.xor .u8 (G q) 255 else G p, by omega, by go_num, (tab_store Hg.out q (.int .u8 (bits BinOp.xor .u8 (G q) 255))).trans (by congr 2; apply tab_congr; intro i _; dsimp only; split <;> rfl), htt.setCell (fun h => by simp at h) _⟩
          case measure => simp [intOf]; omega
        · obtain rfl : q = l.length / 8 + 1 := by omega
          have HP := Lib.hid (Hp.out.touch htt id (fun _ _ => id))
          go_wp2_with fail
          refine (bytes_walk _ _ _ _ HP.out (by omega)).mono ?_
          rintro e w8 ⟨rfl, hb8, ht8⟩
          have hcv8 : (convert 33 9 (.slice (some ⟨wr.heap.size, 0, none⟩) (l.length / 8 + 1) (l.length / 8 + 1))).run Try.prog w8 = .ok (.string (strBits l)) w8 := conv_bytes hb8
          have T8 := Lib.hid ((ht0.trans htt).trans ht8)
          clear hb8 ht8 Hg htt
          go_wp2_with fail
          refine (known_walk _).mono ?_
          rintro e w9 ⟨rfl, ht9⟩
          go_wp2_with fail
          go_ret
          exact ⟨rfl, (T8.out.trans ht9).owned⟩

theorem BitsOwn_law (w : World) (a0 : Option Addr) (b0 o0 l0 c0 : Nat) (z0 : Nat → Nat → Int) (w0 : RecsIn 2 w a0 b0 o0 l0 c0 z0) (a1 : Int) (w1 : (Lit.int .i64 a1).wf = true) :
    Calls Try.prog 9 #[.slice a0 l0 c0, .int .i64 a1] w fun e w' => e = .returned (.bool true) ∧ Below w.heap.size w w' := by
  clear w1
  have hcase : 50 < l0 ∨ (l0 ≤ 50 ∧ a1 < 0) ∨ (l0 ≤ 50 ∧ 0 ≤ a1 ∧ 24 < a1) ∨ (l0 ≤ 50 ∧ ∃ n : Nat, a1 = n ∧ n ≤ 24) := by
    by_cases h1 : 50 < l0
    · exact .inl h1
    by_cases h2 : a1 < 0
    · exact .inr (.inl ⟨by omega, h2⟩)
    by_cases h3 : 24 < a1
    · exact .inr (.inr (.inl ⟨by omega, by omega, h3⟩))
    · exact .inr (.inr (.inr ⟨by omega, a1.toNat, by omega, by omega⟩))
  rcases hcase with h | ⟨h, h'⟩ | ⟨h, h', h''⟩ | ⟨h, n, rfl, hn⟩
  rotate_left 3
  · exact BitsOwn_in w a0 b0 o0 l0 c0 z0 w0 h n hn
  all_goals
    go_enter Try.func9, Try.ntmps9
    go_wp2_with fail
    go_ret
    exact ⟨rfl, Below.refl _ _⟩
end Go.Proofs.Ytefkeofbhjmahaa
