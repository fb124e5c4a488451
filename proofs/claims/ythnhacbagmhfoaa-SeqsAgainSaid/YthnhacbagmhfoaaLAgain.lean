/- The laws SeqsAgain and SeqsRepeat, walked. -/
import Derived.Test.YthnhacbagmhfoaaLOff
namespace Go.Proofs.Ythnhacbagmhfoaa
open Go.RowKit Go.WideShapes
set_option linter.unusedVariables false
set_option maxRecDepth 100000

theorem idxH_cases (h : H3) (x : Int) : (idxH h x = 0 ∧ h.a = x) ∨ (idxH h x = 1 ∧ h.b = x) ∨ (idxH h x = 2 ∧ h.c = x) ∨ idxH h x = -1 := by
  unfold idxH
  by_cases h1 : h.a = x
  · exact .inl ⟨by rw [if_pos h1], h1⟩
  by_cases h2 : h.b = x
  · exact .inr (.inl ⟨by rw [if_neg h1, if_pos h2], h2⟩)
  by_cases h3 : h.c = x
  · exact .inr (.inr (.inl ⟨by rw [if_neg h1, if_neg h2, if_pos h3], h3⟩))
  · exact .inr (.inr (.inr (by rw [if_neg h1, if_neg h2, if_neg h3])))
/-- An offset out of its value. -/
theorem off_of_val (h : H3) (x : Int) (hx : 1 ≤ x) : max (valH h x) 0 = valH h x ∧ offB h (valH h x) = x ∧ valH h x ≤ x + 2 := by
  unfold valH
  rcases idxH_cases h x with ⟨e, k⟩ | ⟨e, k⟩ | ⟨e, k⟩ | e
  · rw [e]; exact ⟨by simp <;> omega, by simp [offB, k], by simp; omega⟩
  · rw [e]; exact ⟨by simp <;> omega, by simp [offB, k], by simp; omega⟩
  · rw [e]; exact ⟨by simp <;> omega, by simp [offB, k], by simp; omega⟩
  · rw [e]
    simp only [show (-1 : Int) < 0 from by decide, if_true]
    refine ⟨by omega, ?_, by omega⟩
    unfold offB
    rw [if_neg (by omega), if_neg (by omega), if_neg (by omega)]; omega
theorem hist_back (z : Nat → Int) (h : H3) (n : Nat) (hz : ∀ i, i < n → 1 ≤ z i) : ∀ k, k ≤ n → histB (valO z h) h k = histO z h k := by
  intro k
  induction k with
  | zero => intro _; rfl
  | succ k ih =>
    intro hk
    have e := ih (by omega)
    obtain ⟨h1, h2, _⟩ := off_of_val (histO z h k) (z k) (hz k (by omega))
    simp only [histB, histO]
    rw [e]
    unfold valO
    rw [h1, h2]
theorem val_back (z : Nat → Int) (h : H3) (n : Nat) (hz : ∀ i, i < n → 1 ≤ z i) (k : Nat) (hk : k < n) : valB (valO z h) h k = z k := by
  obtain ⟨h1, h2, _⟩ := off_of_val (histO z h k) (z k) (hz k hk)
  unfold valB
  rw [hist_back z h n hz k (by omega)]
  unfold valO
  rw [h1, h2]

set_option maxHeartbeats 4000000 in
theorem SeqsAgain_in (w : World) (a0 : Option Addr) (b0 o0 l0 c0 : Nat) (z0 : Nat → Nat → Int) (w0 : RecsIn 3 w a0 b0 o0 l0 c0 z0) (h : H3) (hl0 : l0 ≤ 300) (g0 : 1 ≤ h.a) (g1 : 1 ≤ h.b) (g2 : 1 ≤ h.c) :
    Calls Try.prog 8 #[.slice a0 l0 c0, h.val] w fun e w' => e = .returned (.bool true) ∧ Below w.heap.size w w' := by
  obtain ⟨i0, hi, hz0, hz1, hz2⟩ := info_parts Try.info3
  have d0 : decide ((300 : Int) < (l0 : Int)) = false := by simp; omega
  have W0 := Lib.hid w0
  clear w0
  unfold H3.val arr3
  go_enter Try.func8, Try.ntmps8
  go_wp2_with fail
  go_loopw [5, 6] (fun q i wr => ∃ k : Nat, k ≤ l0 ∧ i = .int .i64 k ∧ Arr wr w.heap.size h ∧ wr.ownsRow 0 3 1 q k (cellsZ .i64 (fun i => z0 i 1) k) ∧ OwnB (w.heap.size + 1) q ∧ Touch (fun _ => False) w wr ∧ ∀ j, j < k → 1 ≤ z0 j 1 ∧ z0 j 1 ≤ 1048576) (fun _ i _ => l0 - (intOf i).toNat)
  case atStart => exact ⟨0, by omega, rfl, arr_new w h, World.ownsRow_nil _ _ _ _, OwnB.nil _, Touch.new _ _, fun j hj => by omega⟩
  case round =>
    obtain ⟨k, hk, rfl, hA, hrow, hown, ht, hz⟩ := hrel
    have HA := Lib.hid hA
    have Hrow := Lib.hid hrow
    have Hz := Lib.hid hz
    clear hA hrow hz
    by_cases hlt : k < l0
    · obtain rfl := W0.out.at_ (by omega)
      have e1 := (rec3 W0.out ht hlt).2.1
      by_cases h1 : z0 k 1 < 1
      · go_wp2_with fail
        go_ret
        exact ⟨rfl, ht.owned⟩
      by_cases h2 : 1048576 < z0 k 1
      · go_wp2_with fail
        go_ret
        exact ⟨rfl, ht.owned⟩
      go_wp2_with (refine wpList_append_mine rfl (.tmp 49) (.tmp 55) 43 43 rfl 3 i0 (.int .i64 0) 1 8 Try.underlying43 hi hz0 hz1 hz2 rfl u5 _ _ rfl (row_heap Hrow.out rfl) _ 1 [_] rfl (src_at wr.heap.size Try.underlying43 _ rfl _ (heap_alloc_new wr _)) (by unfold maxLen; omega) (by omega) ?_; intro a4 c4 w6 hown6 ht6 hf6 _)
      have t6 : Touch (fun k => u5.ownBlock = some k) wr w6 := ((Touch.refl _ wr).alloc _).trans ht6
      have HA6 := HA.out.touch t6 (fun e => by have := hown _ e; omega)
      have T6 := own_app ht (hown.mono (by omega)) t6
      have own6 := hown.fresh hf6 (Nat.le_trans (lt_of_block HA.out) ((Touch.refl (fun _ => False) _).alloc _).size)
      go_wp2_with fail
      go_roundw
      case rel => exact ⟨k + 1, by omega, by go_num, HA6, by rw [cellsZ_succ]; exact hown6, own6, T6, fun j hj => by
        by_cases e : j = k
        · subst e; omega
        · exact Hz.out j (by omega)⟩
      case measure => simp [intOf]; omega
    · obtain rfl : k = l0 := by omega
      have hzz : ∀ i, i < k → 0 ≤ z0 i 1 ∧ z0 i 1 ≤ 1073741824 := fun i hi => by have := Hz.out i hi; omega
      have hz1' : ∀ i, i < k → 1 ≤ (fun i => z0 i 1) i := fun i hi => (Hz.out i hi).1
      obtain ⟨ya, yb, yc, hq, hy⟩ := ints_row Hrow.out
      subst hq
      obtain ⟨c0', c1', c2'⟩ := HA.out.cells
      have Y := Lib.hid hy
      clear hy Hrow
      go_wp2_with fail
      refine (offsets_walk _ a0 b0 o0 k c0 z0 (recs_touch W0.out ht) h (by omega) hzz).mono ?_
      rintro e w3 ⟨v3, rfl, ho3⟩
      have T3 := Lib.hid (ht.trans ho3.touch)
      have B3 := HA.out.touch ho3.touch id
      have Y3 := Lib.hid (Y.out.touch ho3.touch)
      obtain ⟨xa, xb, xc, rfl, hx3⟩ := ints_row ho3.row
      have X3 := Lib.hid hx3
      obtain ⟨hC, hCe⟩ : ∃ hC, histO (fun i => z0 i 1) h k = hC := ⟨_, rfl⟩
      have hCb : histB (valO (fun i => z0 i 1) h) h k = hC := by rw [hist_back _ h k hz1' k (Nat.le_refl _), hCe]
      rw [hCe]
      have HCb := Lib.hid hCb
      have k3 := fun o => ((B3.touch (Touch.new w3 o) id) : Arr (w3.alloc o) w.heap.size h).cells
      have q30 := fun o => (k3 o).1
      have q31 := fun o => (k3 o).2.1
      have q32 := fun o => (k3 o).2.2
      have A3 := Lib.hid (arr_new w3 hC)
      clear ho3 hx3 hCe hCb k3 HA Y
      unfold H3.val arr3
      go_wp2_with fail
      refine (back_walk _ xa xb 0 k xc (valO (fun i => z0 i 1) h) (X3.out.touch (Touch.new w3 _)) h (by omega) (fun i hi => by
        have h3 := (off_of_val (histO (fun i => z0 i 1) h i) (z0 i 1) (hz1' i hi)).2.2
        have h4 := (Hz.out i hi).2
        show valH (histO (fun i => z0 i 1) h i) (z0 i 1) ≤ 1073741824; omega)).mono ?_
      rintro e w5 ⟨v5, rfl, ho5⟩
      rw [HCb.out]
      have t35 := (Touch.new w3 _).trans ho5.touch
      obtain ⟨ua, ub, uc, rfl, hx5⟩ := ints_row ho5.row
      have T5 := Lib.hid (T3.out.trans t35)
      have U5 := Lib.hid (fun o n => hx5.touch ((Touch.new w5 o).drewN n))
      have Y5 := Lib.hid (fun o n => (Y3.out.touch t35).touch ((Touch.new w5 o).drewN n))
      have kA := fun o n => (((A3.out.touch ho5.touch id).touch ((Touch.new w5 o).drewN n) id) : Arr ((w5.alloc o).drewN n) w3.heap.size hC).cells
      have kG := fun n => (((arr_new w5 hC).touch (Touch.eq_drewN (S := fun _ => False) (w5.alloc _) n) id) : Arr ((w5.alloc (.cells #[.int .i64 hC.a, .int .i64 hC.b, .int .i64 hC.c] 31)).drewN n) w5.heap.size hC).cells
      have hA0 := fun o n => (kA o n).1
      have hA1 := fun o n => (kA o n).2.1
      have hA2 := fun o n => (kA o n).2.2
      have hG0 := fun n => (kG n).1
      have hG1 := fun n => (kG n).2.1
      have hG2 := fun n => (kG n).2.2
      have eqC := fun w => eq31 hC.a hC.b hC.c hC.a hC.b hC.c w
      simp only [beq_self_eq_true, Bool.and_true] at eqC
      clear ho5 hx5 t35 q30 q31 q32 kA kG A3 X3 Y3 T3
      unfold H3.val arr3
      go_wp2_with fail
      refine (same_yes _ _ _ k _ _ _ _ _ _ _ _ (U5.out _ 0) (Y5.out _ 0) (by omega) (fun i hi => val_back _ h k hz1' i hi)).mono ?_
      rintro e w7 ⟨rfl, n, rfl⟩
      go_wp2_with fail
      refine (known_walk _).mono ?_
      rintro e w9 ⟨rfl, ht9⟩
      go_wp2_with fail
      go_ret
      exact ⟨rfl, (((T5.out.trans (Touch.new w5 _)).drewN n).trans ht9).owned⟩

theorem SeqsAgain_law (w : World) (a0 : Option Addr) (b0 o0 l0 c0 : Nat) (z0 : Nat → Nat → Int) (w0 : RecsIn 3 w a0 b0 o0 l0 c0 z0) (x1 y1 z1 : Int) (wx1 : (Lit.int .i64 x1).wf = true) (wy1 : (Lit.int .i64 y1).wf = true) (wz1 : (Lit.int .i64 z1).wf = true) :
    Calls Try.prog 8 #[.slice a0 l0 c0, .agg #[.int .i64 x1, .int .i64 y1, .int .i64 z1]] w fun e w' => e = .returned (.bool true) ∧ Below w.heap.size w w' := by
  clear wx1 wy1 wz1
  have hc : 300 < l0 ∨ (l0 ≤ 300 ∧ x1 < 1) ∨ (l0 ≤ 300 ∧ 1 ≤ x1 ∧ y1 < 1) ∨ (l0 ≤ 300 ∧ 1 ≤ x1 ∧ 1 ≤ y1 ∧ z1 < 1) ∨ (l0 ≤ 300 ∧ 1 ≤ x1 ∧ 1 ≤ y1 ∧ 1 ≤ z1) := by omega
  rcases hc with h | ⟨h, h1⟩ | ⟨h, h1, h2⟩ | ⟨h, h1, h2, h3⟩ | ⟨h, h1, h2, h3⟩
  rotate_left 4
  · exact SeqsAgain_in w a0 b0 o0 l0 c0 z0 w0 ⟨x1, y1, z1⟩ h h1 h2 h3
  all_goals
    go_enter Try.func8, Try.ntmps8
    go_wp2_with fail
    go_ret
    exact ⟨rfl, (Touch.new _ _).owned⟩
end Go.Proofs.Ythnhacbagmhfoaa
