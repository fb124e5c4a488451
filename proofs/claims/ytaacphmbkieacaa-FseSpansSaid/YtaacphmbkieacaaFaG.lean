/- fse: what is known; the laws FseNorms, FseSums. -/
import Derived.Test.YtaacphmbkieacaaFaF
namespace Go.Proofs.Ytaacphmbkieacaa
open Go.RowKit Go.WideShapes Fs
set_option linter.unusedVariables false
set_option linter.unusedSimpArgs false
set_option maxRecDepth 100000

def z31 (i : Nat) : Int := if i = 0 then 3 else 1
def z248 (i : Nat) : Int := if i = 0 then 24 else 8
theorem known_ok : normOk z31 2 ((5 : Nat) : Int) = true := by decide +kernel
theorem known_norm : ∀ i, i < 2 → normZ z31 2 5 i = z248 i := by decide +kernel
theorem known_is : isOk (normZ z31 2 5) 2 5 = true ∧ isOk (normZ z31 2 5) 2 6 = false := by decide +kernel
theorem tab_ints {w : World} {g n : Nat} {z : Nat → Int} (h : w.heap[g]? = some (.cells (tabI n z) 3 (0, 0))) : Ints .i64 w (some ⟨g, 0, none⟩) g 0 n z :=
  ⟨fun _ => rfl, fun i hi => by rw [Nat.zero_add]; exact tab_cell h hi⟩
theorem Ints.congr {k : IntKind} {w : World} {a : Option Addr} {b off n : Nat} {z y : Nat → Int} (h : Ints k w a b off n z) (e : ∀ i, i < n → z i = y i) : Ints k w a b off n y :=
  ⟨h.at_, fun i hi => by rw [h.cell i hi, e i hi]⟩
theorem two_ints {w : World} {g : Nat} {e : TypeId} {x y : Int} {z : Nat → Int} (h : w.heap[g]? = some (.cells #[.int .i64 x, .int .i64 y] e (0, 0))) (h0 : x = z 0) (h1 : y = z 1) : Ints .i64 w (some ⟨g, 0, none⟩) g 0 2 z :=
  ⟨fun _ => rfl, fun i hi => by
    rw [cell_of_row _ _ _ _ _ _ h]
    have : i = 0 ∨ i = 1 := by omega
    rcases this with rfl | rfl
    · rw [← h0]; rfl
    · rw [← h1]; rfl⟩

set_option maxHeartbeats 1000000 in
theorem known_walk (w : World) : Calls Try.prog 20 #[] w fun e w' => e = .returned (.bool true) ∧ Touch (fun _ => False) w w' := by
  go_enter Try.func20, Try.ntmps20
  go_wp2_with fail
  refine (norm_yes (some ⟨w.heap.size, 0, none⟩) w.heap.size 0 2 2 5 z31 _ (two_ints (heap_alloc_new w _) rfl rfl) known_ok).mono ?_
  rintro e w2 ⟨rfl, hh, t2⟩
  rw [World.size_alloc] at hh ⊢
  have HI := Lib.hid (tab_ints hh)
  have T2 := Lib.hid ((Touch.new w _).trans t2)
  clear hh t2
  go_wp2_with fail
  refine (same_ints _ _ 0 2 (some ⟨w2.heap.size, 0, none⟩) w2.heap.size 0 2 2 (normZ z31 2 5) _ (HI.out.touch (Touch.new w2 _)) (two_ints (heap_alloc_new w2 _) (by rw [known_norm 0 (by omega)]; rfl) (by rw [known_norm 1 (by omega)]; rfl)) (by omega)).mono ?_
  rintro e w3 ⟨rfl, m, rfl⟩
  have T3 := Lib.hid ((T2.out.alloc (.cells #[.int .i64 24, .int .i64 8] 3)).drewN m)
  have HI3 := Lib.hid ((HI.out.touch (Touch.new w2 (.cells #[.int .i64 24, .int .i64 8] 3))).touch (Touch.eq_drewN _ m))
  have hk1 := known_is.1
  have hk2 := known_is.2
  have H1 := Lib.hid hk1
  have H2 := Lib.hid hk2
  clear hk1 hk2
  go_wp2_with fail
  refine (is_walk _ _ 0 2 2 _ 5 _ HI3.out (by omega)).mono ?_
  rintro e w4 ⟨rfl, t4⟩
  rw [H1.out]
  go_wp2_with fail
  refine (is_walk _ _ 0 2 2 _ 6 _ (HI3.out.touch t4) (by omega)).mono ?_
  rintro e w5 ⟨rfl, t5⟩
  rw [H2.out]
  go_wp2_with fail
  go_ret
  exact ⟨rfl, (T3.out.trans t4).trans t5⟩

set_option maxHeartbeats 1000000 in
theorem FseNorms_in (w : World) (a0 : Option Addr) (b0 o0 l0 c0 : Nat) (z0 : Nat → Int) (w0 : IntsIn .i64 w a0 b0 o0 l0 c0 z0) (hl : l0 ≤ 100) (a1 : Int) :
    Calls Try.prog 3 #[.slice a0 l0 c0, .int .i64 a1] w fun e w' => e = .returned (.bool true) ∧ Below w.heap.size w w' := by
  obtain ⟨i0, hi, hz0, hz1, hz2⟩ := info_parts Try.info3
  have q0 : decide ((100 : Int) < (l0 : Int)) = false := by simp; omega
  have W0 := Lib.hid (ints_of w0)
  obtain ⟨B, hB⟩ : ∃ B, isOk z0 l0 a1 = B := ⟨_, rfl⟩
  have HB := Lib.hid hB
  clear w0 hB
  cases hok : normOk z0 l0 a1 with
  | false =>
    have HOK := Lib.hid hok
    clear hok
    go_enter Try.func3, Try.ntmps3
    go_wp2_with (refine wpList_append_mine rfl (.tmp 13) (.tmp 14) 22 22 rfl 3 i0 (.int .i64 0) 1 8 Try.underlying22 hi hz0 hz1 hz2 rfl (.slice (some ⟨w.heap.size, 0, none⟩) 0 0) 0 [] rfl (row_of_tab (m := 0) (F := fun _ => .int .i64 0) (heap_alloc_new _ _) (by unfold maxLen; omega)) _ l0 _ rfl (src_ints c0 Try.underlying22 (W0.out.touch (Touch.new w _))) (by unfold maxLen; omega) (by omega) ?_; intro a5 c5 w2 hown ht hf _; simp only [Nat.zero_add, List.nil_append] at hown hf ⊢)
    have T2 := Lib.hid (own_app (Touch.new w _) (OwnB.here w 0) ht)
    obtain ⟨xa, xb, xc, hxv, hx⟩ := ints_row hown
    simp at hxv
    obtain ⟨rfl, rfl⟩ := hxv
    have HX := Lib.hid hx
    clear hown ht hf hx
    go_wp2_with fail
    refine (norm_no a5 xb 0 l0 c5 z0 a1 _ HX.out (by omega) HOK.out).mono ?_
    rintro e w3 ⟨rfl, rfl⟩
    go_wp2_with fail
    refine (rnorm_no a0 b0 o0 l0 c0 z0 a1 _ (W0.out.touch T2.out) (by omega) HOK.out).mono ?_
    rintro e w3 ⟨rfl, rfl⟩
    go_wp2_with fail
    refine (same_ints none 0 0 0 none 0 0 0 0 (fun _ => 0) _ ⟨fun h => by omega, fun i hi => by omega⟩ ⟨fun h => by omega, fun i hi => by omega⟩ (by omega)).mono ?_
    rintro e w3 ⟨rfl, m, rfl⟩
    go_wp2_with fail
    refine (is_walk a0 b0 o0 l0 c0 z0 a1 _ ((W0.out.touch T2.out).touch (Touch.eq_drewN _ m)) (by omega)).mono ?_
    rintro e w4 ⟨rfl, t4⟩
    rw [HB.out]
    have T4 := Lib.hid ((T2.out.drewN m).trans t4)
    clear t4
    go_wp2_with fail
    refine (ris_walk a0 b0 o0 l0 c0 z0 a1 _ (W0.out.touch T4.out) (by omega)).mono ?_
    rintro e w5 ⟨rfl, rfl⟩
    rw [HB.out]
    go_wp2_with fail
    refine (known_walk _).mono ?_
    rintro e w6 ⟨rfl, t6⟩
    go_wp2_with fail
    go_ret
    exact ⟨rfl, (T4.out.trans t6).owned⟩
  | true =>
    have hl5 : 5 ≤ a1 := by
      simp only [normOk, logOk, Bool.and_eq_true, decide_eq_true_eq] at hok
      omega
    obtain ⟨L, rfl⟩ := Int.eq_ofNat_of_zero_le (show 0 ≤ a1 by omega)
    have HOK := Lib.hid hok
    clear hok
    go_enter Try.func3, Try.ntmps3
    go_wp2_with (refine wpList_append_mine rfl (.tmp 13) (.tmp 14) 22 22 rfl 3 i0 (.int .i64 0) 1 8 Try.underlying22 hi hz0 hz1 hz2 rfl (.slice (some ⟨w.heap.size, 0, none⟩) 0 0) 0 [] rfl (row_of_tab (m := 0) (F := fun _ => .int .i64 0) (heap_alloc_new _ _) (by unfold maxLen; omega)) _ l0 _ rfl (src_ints c0 Try.underlying22 (W0.out.touch (Touch.new w _))) (by unfold maxLen; omega) (by omega) ?_; intro a5 c5 w2 hown ht hf _; simp only [Nat.zero_add, List.nil_append] at hown hf ⊢)
    have T2 := Lib.hid (own_app (Touch.new w _) (OwnB.here w 0) ht)
    obtain ⟨xa, xb, xc, hxv, hx⟩ := ints_row hown
    simp at hxv
    obtain ⟨rfl, rfl⟩ := hxv
    have HX := Lib.hid hx
    clear hown ht hf hx
    go_wp2_with fail
    refine (norm_yes a5 xb 0 l0 c5 L z0 _ HX.out HOK.out).mono ?_
    rintro e w3 ⟨rfl, hh3, t3⟩
    have T3 := Lib.hid (T2.out.trans t3)
    have HI3 := Lib.hid (tab_ints hh3)
    clear t3 hh3
    go_wp2_with fail
    refine (rnorm_yes a0 b0 o0 l0 c0 L z0 _ (W0.out.touch T3.out) HOK.out).mono ?_
    rintro e w4 ⟨rfl, hh4, t4⟩
    have T4 := Lib.hid (T3.out.trans t4)
    have HI4 := Lib.hid (tab_ints hh4)
    have HI34 := Lib.hid (HI3.out.touch t4)
    clear t4 hh4
    go_wp2_with fail
    refine (same_ints _ _ 0 _ _ _ 0 _ l0 (normZ z0 l0 L) _ HI34.out HI4.out (by omega)).mono ?_
    rintro e w5 ⟨rfl, m, rfl⟩
    go_wp2_with fail
    refine (is_walk a0 b0 o0 l0 c0 z0 L _ ((W0.out.touch T4.out).touch (Touch.eq_drewN _ m)) (by omega)).mono ?_
    rintro e w6 ⟨rfl, t6⟩
    rw [HB.out]
    have T6 := Lib.hid ((T4.out.drewN m).trans t6)
    clear t6
    go_wp2_with fail
    refine (ris_walk a0 b0 o0 l0 c0 z0 L _ (W0.out.touch T6.out) (by omega)).mono ?_
    rintro e w7 ⟨rfl, rfl⟩
    rw [HB.out]
    go_wp2_with fail
    refine (known_walk _).mono ?_
    rintro e w8 ⟨rfl, t8⟩
    go_wp2_with fail
    go_ret
    exact ⟨rfl, (T6.out.trans t8).owned⟩
theorem FseNorms_law (w : World) (a0 : Option Addr) (b0 o0 l0 c0 : Nat) (z0 : Nat → Int) (w0 : IntsIn .i64 w a0 b0 o0 l0 c0 z0) (a1 : Int) (w1 : (Lit.int .i64 a1).wf = true) :
    Calls Try.prog 3 #[.slice a0 l0 c0, .int .i64 a1] w fun e w' => e = .returned (.bool true) ∧ Below w.heap.size w w' := by
  by_cases hl : 100 < l0
  · clear w0 w1
    go_enter Try.func3, Try.ntmps3
    go_wp2_with fail
    go_ret
    exact ⟨rfl, Below.refl _ _⟩
  · exact FseNorms_in w a0 b0 o0 l0 c0 z0 w0 (by omega) a1
end Go.Proofs.Ytaacphmbkieacaa
