/- The laws SeqsOffsets, SeqsAgain, SeqsRepeat, walked. -/
import Derived.Test.YthnhacbagmhfoaaH
namespace Go.Proofs.Ythnhacbagmhfoaa
open Go.RowKit Go.WideShapes
set_option linter.unusedVariables false
set_option maxRecDepth 100000

theorem recs_touch {w w' : World} {n : Nat} {a : Option Addr} {b o l c : Nat} {z : Nat → Nat → Int} (h : RecsIn n w a b o l c z) (ht : Touch (fun _ => False) w w') : RecsIn n w' a b o l c z :=
  ⟨h.at_, fun hl => Nat.lt_of_lt_of_le (h.lt hl) ht.size, h.le, h.max, fun i hi j hj => ht.cell (h.cell i hi j hj) id, h.wf⟩
theorem Touch.new (w : World) (o : Obj) : Touch (fun _ => False) w (w.alloc o) := (Touch.refl _ w).alloc o
theorem arr_new (w : World) (h : H3) : Arr (w.alloc (.cells #[.int .i64 h.a, .int .i64 h.b, .int .i64 h.c] 31)) w.heap.size h := heap_alloc_new _ _

set_option maxHeartbeats 4000000 in
theorem SeqsOffsets_in (w : World) (a0 : Option Addr) (b0 o0 l0 c0 : Nat) (z0 : Nat → Nat → Int) (w0 : RecsIn 3 w a0 b0 o0 l0 c0 z0) (h : H3) (a2 : Option Addr) (b2 o2 l2 c2 : Nat) (z2 : Nat → Int) (w2 : IntsIn .i64 w a2 b2 o2 l2 c2 z2)
    (hl0 : l0 ≤ 300) (hl2 : l2 ≤ 300) :
    Calls Try.prog 7 #[.slice a0 l0 c0, h.val, .slice a2 l2 c2] w fun e w' => e = .returned (.bool true) ∧ Below w.heap.size w w' := by
  have d0 : decide ((300 : Int) < (l0 : Int)) = false := by simp; omega
  have d2 : decide ((300 : Int) < (l2 : Int)) = false := by simp; omega
  have W0 := Lib.hid w0
  have W2 := Lib.hid w2
  clear w0 w2
  unfold H3.val arr3
  go_enter Try.func7, Try.ntmps7
  go_wp2_with fail
  have t1 : ∀ o, Touch (fun _ => False) w (w.alloc o) := fun o => (Touch.refl _ w).alloc o
  go_loop [7] (fun i => ∃ k : Nat, k ≤ l0 ∧ i = .int .i64 k ∧ ∀ j, j < k → 1 ≤ z0 j 1 ∧ z0 j 1 ≤ 1048576) (fun i => l0 - (intOf i).toNat)
  case atStart => exact ⟨0, by omega, rfl, fun j hj => by omega⟩
  case round =>
    obtain ⟨k, hk, rfl, hz⟩ := hrel
    have Hz := Lib.hid hz
    clear hz
    by_cases hlt : k < l0
    · obtain rfl := W0.out.at_ (by omega)
      have e1 := fun o => (rec3 W0.out (t1 o) hlt).2.1
      by_cases h1 : z0 k 1 < 1
      · go_wp2_with fail
        go_ret
        exact ⟨rfl, (t1 _).owned⟩
      by_cases h2 : 1048576 < z0 k 1
      · go_wp2_with fail
        go_ret
        exact ⟨rfl, (t1 _).owned⟩
      go_wp2_with fail
      go_round
      case rel => exact ⟨k + 1, by omega, by go_num, fun j hj => by
        by_cases e : j = k
        · subst e; omega
        · exact Hz.out j (by omega)⟩
      case measure => simp [intOf]; omega
    · obtain rfl : k = l0 := by omega
      go_wp2_with fail
      go_loop [8] (fun i => ∃ q : Nat, q ≤ l2 ∧ i = .int .i64 q ∧ ∀ j, j < q → z2 j ≤ 1073741824) (fun i => l2 - (intOf i).toNat)
      case atStart => exact ⟨0, by omega, rfl, fun j hj => by omega⟩
      case round =>
        obtain ⟨q, hq, rfl, hy⟩ := hrel
        have Hy := Lib.hid hy
        clear hy
        by_cases hlt2 : q < l2
        · obtain rfl := W2.out.at_ (by omega)
          have e1 := fun o => (t1 o).cell (W2.out.cell q hlt2) id
          by_cases h1 : 1073741824 < z2 q
          · go_wp2_with fail
            go_ret
            exact ⟨rfl, (t1 _).owned⟩
          go_wp2_with fail
          go_round
          case rel => exact ⟨q + 1, by omega, by go_num, fun j hj => by
            by_cases e : j = q
            · subst e; omega
            · exact Hy.out j (by omega)⟩
          case measure => simp [intOf]; omega
        · obtain rfl : q = l2 := by omega
          have hzz : ∀ i, i < k → 0 ≤ z0 i 1 ∧ z0 i 1 ≤ 1073741824 := fun i hi => by have := Hz.out i hi; omega
          go_wp2_with fail
          have hbx := arr_new w h
          refine (offsets_walk _ a0 b0 o0 k c0 z0 (recs_touch W0.out (t1 _)) h (by omega) hzz).mono ?_
          rintro e w3 ⟨v3, rfl, ho3⟩
          have T3 := Lib.hid ((t1 _).trans ho3.touch)
          have B3 := Lib.hid (hbx.touch ho3.touch id)
          obtain ⟨xa, xb, xc, rfl, hx3⟩ := ints_row ho3.row
          have X3 := Lib.hid hx3
          obtain ⟨hA, hAe⟩ : ∃ hA, histO (fun i => z0 i 1) h k = hA := ⟨_, rfl⟩
          rw [hAe]
          have HAe := Lib.hid hAe
          have k3 := fun o => ((B3.out.touch (Touch.new w3 o) id) : Arr (w3.alloc o) w.heap.size h).cells
          have q30 := fun o => (k3 o).1
          have q31 := fun o => (k3 o).2.1
          have q32 := fun o => (k3 o).2.2
          have A3 := Lib.hid (arr_new w3 hA)
          clear hbx ho3 hx3 hAe k3
          unfold H3.val arr3
          go_wp2_with fail
          refine (ref_offsets _ a0 b0 o0 k c0 z0 (recs_touch W0.out (T3.out.trans (Touch.new w3 _))) h (by omega) hzz).mono ?_
          rintro e w4 ⟨v4, rfl, ho4⟩
          rw [HAe.out]
          have t34 := ((Touch.new w3 _).trans ho4.touch)
          have T4 := Lib.hid (T3.out.trans t34)
          have B4 := Lib.hid (B3.out.touch t34 id)
          have A4 := Lib.hid (A3.out.touch ho4.touch id)
          obtain ⟨ya, yb, yc, rfl, hx4⟩ := ints_row ho4.row
          have X4 := Lib.hid hx4
          have Y4 := Lib.hid (X3.out.touch t34)
          have k4 := fun o => ((B4.out.touch (Touch.new w4 o) id) : Arr (w4.alloc o) w.heap.size h).cells
          have q40 := fun o => (k4 o).1
          have q41 := fun o => (k4 o).2.1
          have q42 := fun o => (k4 o).2.2
          have E4 := Lib.hid (arr_new w4 hA)
          clear ho4 hx4 t34 q30 q31 q32 k4 T3 B3 A3 X3 hzz
          unfold H3.val arr3
          go_wp2_with fail
          refine (back_walk _ a2 b2 o2 q c2 z2 ((ints_of W2.out).touch (T4.out.trans (Touch.new w4 _))) h (by omega) (fun i hi => Hy.out i hi)).mono ?_
          rintro e w5 ⟨v5, rfl, ho5⟩
          obtain ⟨hC, hCe⟩ : ∃ hC, histB z2 h q = hC := ⟨_, rfl⟩
          rw [hCe]
          have HCe := Lib.hid hCe
          have t45 := ((Touch.new w4 _).trans ho5.touch)
          have T5 := Lib.hid (T4.out.trans t45)
          have B5 := Lib.hid (B4.out.touch t45 id)
          have A5 := Lib.hid (A4.out.touch t45 id)
          have E5 := Lib.hid (E4.out.touch ho5.touch id)
          have X5 := Lib.hid (X4.out.touch t45)
          have Y5 := Lib.hid (Y4.out.touch t45)
          obtain ⟨ua, ub, uc, rfl, hx5⟩ := ints_row ho5.row
          have U5 := Lib.hid hx5
          have k5 := fun o => ((B5.out.touch (Touch.new w5 o) id) : Arr (w5.alloc o) w.heap.size h).cells
          have q50 := fun o => (k5 o).1
          have q51 := fun o => (k5 o).2.1
          have q52 := fun o => (k5 o).2.2
          have F5 := Lib.hid (arr_new w5 hC)
          clear ho5 hx5 t45 q40 q41 q42 k5 T4 B4 A4 X4 Y4 E4 hCe
          unfold H3.val arr3
          go_wp2_with fail
          refine (ref_back _ a2 b2 o2 q c2 z2 ((ints_of W2.out).touch (T5.out.trans (Touch.new w5 _))) h (by omega) (fun i hi => Hy.out i hi)).mono ?_
          rintro e w6 ⟨v6, rfl, ho6⟩
          rw [HCe.out]
          have t56 := ((Touch.new w5 _).trans ho6.touch)
          obtain ⟨va, vb, vc, rfl, hx6⟩ := ints_row ho6.row
          have T6 := Lib.hid (T5.out.trans t56)
          have kA := fun o n => (((A5.out.touch t56 id).touch ((Touch.new w6 o).drewN n) id) : Arr ((w6.alloc o).drewN n) w3.heap.size hA).cells
          have kE := fun o n => (((E5.out.touch t56 id).touch ((Touch.new w6 o).drewN n) id) : Arr ((w6.alloc o).drewN n) w4.heap.size hA).cells
          have kF := fun o n => (((F5.out.touch ho6.touch id).touch ((Touch.new w6 o).drewN n) id) : Arr ((w6.alloc o).drewN n) w5.heap.size hC).cells
          have kG := fun n => (((arr_new w6 hC).touch (Touch.eq_drewN (S := fun _ => False) (w6.alloc _) n) id) : Arr ((w6.alloc (.cells #[.int .i64 hC.a, .int .i64 hC.b, .int .i64 hC.c] 31)).drewN n) w6.heap.size hC).cells
          have X6 := Lib.hid (fun o n => (X5.out.touch t56).touch ((Touch.new w6 o).drewN n))
          have Y6 := Lib.hid (fun o n => (Y5.out.touch t56).touch ((Touch.new w6 o).drewN n))
          have U6 := Lib.hid (fun o n => (U5.out.touch t56).touch ((Touch.new w6 o).drewN n))
          have V6 := Lib.hid (fun o n => hx6.touch ((Touch.new w6 o).drewN n))
          have hA0 := fun o n => (kA o n).1
          have hA1 := fun o n => (kA o n).2.1
          have hA2 := fun o n => (kA o n).2.2
          have hE0 := fun o n => (kE o n).1
          have hE1 := fun o n => (kE o n).2.1
          have hE2 := fun o n => (kE o n).2.2
          have hF0 := fun o n => (kF o n).1
          have hF1 := fun o n => (kF o n).2.1
          have hF2 := fun o n => (kF o n).2.2
          have hG0 := fun n => (kG n).1
          have hG1 := fun n => (kG n).2.1
          have hG2 := fun n => (kG n).2.2
          have eqA := fun w => eq31 hA.a hA.b hA.c hA.a hA.b hA.c w
          have eqC := fun w => eq31 hC.a hC.b hC.c hC.a hC.b hC.c w
          simp only [beq_self_eq_true, Bool.and_true] at eqA eqC
          clear ho6 hx6 t56 q50 q51 q52 kA kE kF kG T5 B5 A5 X5 Y5 E5 F5
          unfold H3.val arr3
          go_wp2_with fail
          refine (same_yes _ _ _ k _ _ _ _ _ _ _ _ (Y6.out _ 0) (X6.out _ 0) (by omega) (fun i hi => rfl)).mono ?_
          rintro e w7 ⟨rfl, n, rfl⟩
          go_wp2_with fail
          refine (same_yes _ _ _ q _ _ _ _ _ _ _ _ (U6.out _ n) (V6.out _ n) (by omega) (fun i hi => rfl)).mono ?_
          rintro e w8 ⟨rfl, n2, rfl⟩
          go_wp2_with fail
          refine (known_walk _).mono ?_
          rintro e w9 ⟨rfl, ht9⟩
          go_wp2_with fail
          go_ret
          exact ⟨rfl, (((T6.out.trans (Touch.new w6 _)).drewN (n + n2)).trans ht9).owned⟩

theorem SeqsOffsets_law (w : World) (a0 : Option Addr) (b0 o0 l0 c0 : Nat) (z0 : Nat → Nat → Int) (w0 : RecsIn 3 w a0 b0 o0 l0 c0 z0) (x1 y1 z1 : Int) (wx1 : (Lit.int .i64 x1).wf = true) (wy1 : (Lit.int .i64 y1).wf = true) (wz1 : (Lit.int .i64 z1).wf = true)
    (a2 : Option Addr) (b2 o2 l2 c2 : Nat) (z2 : Nat → Int) (w2 : IntsIn .i64 w a2 b2 o2 l2 c2 z2) :
    Calls Try.prog 7 #[.slice a0 l0 c0, .agg #[.int .i64 x1, .int .i64 y1, .int .i64 z1], .slice a2 l2 c2] w fun e w' => e = .returned (.bool true) ∧ Below w.heap.size w w' := by
  clear wx1 wy1 wz1
  by_cases h1 : 300 < l0
  · go_enter Try.func7, Try.ntmps7
    go_wp2_with fail
    go_ret
    exact ⟨rfl, (Touch.new _ _).owned⟩
  by_cases h2 : 300 < l2
  · go_enter Try.func7, Try.ntmps7
    go_wp2_with fail
    go_ret
    exact ⟨rfl, (Touch.new _ _).owned⟩
  exact SeqsOffsets_in w a0 b0 o0 l0 c0 z0 w0 ⟨x1, y1, z1⟩ a2 b2 o2 l2 c2 z2 w2 (by omega) (by omega)
end Go.Proofs.Ythnhacbagmhfoaa
