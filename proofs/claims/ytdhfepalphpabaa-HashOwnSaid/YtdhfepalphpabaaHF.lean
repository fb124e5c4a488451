/- hash: the laws of two seeds, of own bytes, of rows. -/
import Derived.Test.YtdhfepalphpabaaHE
namespace Go.Proofs.Ytdhfepalphpabaa
open Go.RowKit Go.WideShapes
set_option linter.unusedVariables false
set_option linter.unusedSimpArgs false
set_option maxRecDepth 100000

set_option maxHeartbeats 2000000 in
theorem HashSeeds_in (w : World) (a0 a1 : Int) (a2 : Option Addr) (b2 o2 l2 c2 : Nat) (z2 : Nat → Int) (w2 : IntsIn .u8 w a2 b2 o2 l2 c2 z2) (hl : l2 ≤ 300) :
    Calls Try.prog 8 #[.int .u64 a0, .int .u64 a1, .slice a2 l2 c2] w fun e w' => e = .returned (.bool true) ∧ Below w.heap.size w w' := by
  obtain ⟨hI, hy⟩ := nat_in w2
  have hlc := w2.le
  obtain ⟨y, hyy⟩ : ∃ y, (fun i => (z2 i).toNat) = y := ⟨_, rfl⟩
  have hy' : ∀ i, y i < 256 := fun i => by rw [← hyy]; exact hy i
  rw [hyy] at hI
  have HY := Lib.hid hy'
  have HI := Lib.hid hI
  have q0 : decide ((300 : Int) < (l2 : Int)) = false := by simp; omega
  clear hy hy' hyy hI w2
  by_cases hab : a0 = a1
  · subst hab
    obtain ⟨S, hS⟩ : ∃ S, sumV y l2 a0 = S := ⟨_, rfl⟩
    have HS := Lib.hid hS
    clear hS
    go_enter Try.func8, Try.ntmps8
    go_wp2_with fail
    refine (sum_one a0 w _ a2 b2 o2 l2 c2 w.heap.size _ y HY.out HI.out (Touch.new w _) (heap_alloc_new w _) (by omega)).mono ?_
    rintro e w2 ⟨rfl, t2⟩
    have T2 := Lib.hid ((Touch.new w _).trans t2)
    rw [HS.out]
    clear t2
    go_wp2_with fail
    refine (rsum_walk a0 w2 a2 b2 o2 l2 c2 y HY.out (HI.out.touch T2.out) (by omega) hlc).mono ?_
    rintro e w3 ⟨rfl, t3⟩
    have T3 := Lib.hid (T2.out.trans t3)
    rw [HS.out]
    clear t3
    go_wp2_with fail
    refine (sum_one a0 w _ a2 b2 o2 l2 c2 w3.heap.size _ y HY.out HI.out (T3.out.alloc _) (heap_alloc_new w3 _) (by omega)).mono ?_
    rintro e w4 ⟨rfl, t4⟩
    have T4 := Lib.hid ((T3.out.alloc _).trans t4)
    rw [HS.out]
    clear t4
    go_wp2_with fail
    refine (rsum_walk a0 w4 a2 b2 o2 l2 c2 y HY.out (HI.out.touch T4.out) (by omega) hlc).mono ?_
    rintro e w5 ⟨rfl, t5⟩
    have T5 := Lib.hid (T4.out.trans t5)
    rw [HS.out]
    clear t5
    go_wp2_with fail
    refine (sum_one a0 w _ a2 b2 o2 l2 c2 w5.heap.size _ y HY.out HI.out (T5.out.alloc _) (heap_alloc_new w5 _) (by omega)).mono ?_
    rintro e w6 ⟨rfl, t6⟩
    have T6 := Lib.hid ((T5.out.alloc _).trans t6)
    rw [HS.out]
    clear t6
    go_wp2_with fail
    refine (sum_one a0 w _ a2 b2 o2 l2 c2 w6.heap.size _ y HY.out HI.out (T6.out.alloc _) (heap_alloc_new w6 _) (by omega)).mono ?_
    rintro e w7 ⟨rfl, t7⟩
    have T7 := Lib.hid ((T6.out.alloc _).trans t7)
    rw [HS.out]
    clear t7
    go_wp2_with fail
    refine (known_walk _).mono ?_
    rintro e w8 ⟨rfl, t8⟩
    go_wp2_with fail
    go_ret
    exact ⟨rfl, (T7.out.trans t8).owned⟩
  · have hne : (a0 != a1) = true := by simpa using hab
    have hne' : (a0 == a1) = false := by simpa using hab
    obtain ⟨S, hS⟩ : ∃ S, sumV y l2 a0 = S := ⟨_, rfl⟩
    obtain ⟨R, hR⟩ : ∃ S, sumV y l2 a1 = S := ⟨_, rfl⟩
    have HS := Lib.hid hS
    have HR := Lib.hid hR
    clear hS hR hab
    go_enter Try.func8, Try.ntmps8
    go_wp2_with fail
    refine (sum_one a0 w _ a2 b2 o2 l2 c2 w.heap.size _ y HY.out HI.out (Touch.new w _) (heap_alloc_new w _) (by omega)).mono ?_
    rintro e w2 ⟨rfl, t2⟩
    have T2 := Lib.hid ((Touch.new w _).trans t2)
    rw [HS.out]
    clear t2
    go_wp2_with fail
    refine (rsum_walk a0 w2 a2 b2 o2 l2 c2 y HY.out (HI.out.touch T2.out) (by omega) hlc).mono ?_
    rintro e w3 ⟨rfl, t3⟩
    have T3 := Lib.hid (T2.out.trans t3)
    rw [HS.out]
    clear t3
    go_wp2_with fail
    refine (sum_one a1 w _ a2 b2 o2 l2 c2 w3.heap.size _ y HY.out HI.out (T3.out.alloc _) (heap_alloc_new w3 _) (by omega)).mono ?_
    rintro e w4 ⟨rfl, t4⟩
    have T4 := Lib.hid ((T3.out.alloc _).trans t4)
    rw [HR.out]
    clear t4
    go_wp2_with fail
    refine (rsum_walk a1 w4 a2 b2 o2 l2 c2 y HY.out (HI.out.touch T4.out) (by omega) hlc).mono ?_
    rintro e w5 ⟨rfl, t5⟩
    have T5 := Lib.hid (T4.out.trans t5)
    rw [HR.out]
    clear t5
    go_wp2_with fail
    refine (known_walk _).mono ?_
    rintro e w8 ⟨rfl, t8⟩
    go_wp2_with fail
    go_ret
    exact ⟨rfl, (T5.out.trans t8).owned⟩
theorem HashSeeds_law (w : World) (a0 : Int) (w0 : (Lit.int .u64 a0).wf = true) (a1 : Int) (w1 : (Lit.int .u64 a1).wf = true) (a2 : Option Addr) (b2 o2 l2 c2 : Nat) (z2 : Nat → Int) (w2 : IntsIn .u8 w a2 b2 o2 l2 c2 z2) :
    Calls Try.prog 8 #[.int .u64 a0, .int .u64 a1, .slice a2 l2 c2] w fun e w' => e = .returned (.bool true) ∧ Below w.heap.size w w' := by
  by_cases hl : 300 < l2
  · clear w0 w1 w2
    go_enter Try.func8, Try.ntmps8
    go_wp2_with fail
    go_ret
    exact ⟨rfl, Below.refl _ _⟩
  · exact HashSeeds_in w a0 a1 a2 b2 o2 l2 c2 z2 w2 (by omega)

/-- Bytes as a string. -/
def strY (y : Nat → Nat) (n : Nat) : ByteArray := strOfNums ((List.range n).map (nat8 y))
theorem conv_ints {w : World} {a : Option Addr} {b off n : Nat} {y : Nat → Nat} (h : Ints .u8 w a b off n (nat8 y)) (c : Nat) : (convert 23 9 (.slice a n c)).run Try.prog w = .ok (.string (strY y n)) w := by
  by_cases h0 : n = 0
  · subst h0
    rw [run_convert_bytes_string w 23 9 5 _ 0 c Try.underlying23 Try.underlying5 Try.underlying9]
    cases a <;> simp [Conv.bytesToString, loadCells]
    all_goals rfl
  · obtain rfl := h.at_ (by omega)
    exact run_convert_bytes_arg w 23 5 Try.underlying23 Try.underlying5 b off n c _ (by simp) (fun i hi => by
      rw [h.cell i hi]
      simp [hi]) 9 Try.underlying9

set_option maxHeartbeats 1000000 in
theorem HashOwn_in (w : World) (a0 : Int) (a1 : Option Addr) (b1 o1 l1 c1 : Nat) (z1 : Nat → Int) (w1 : IntsIn .u8 w a1 b1 o1 l1 c1 z1) (hl : l1 ≤ 500) :
    Calls Try.prog 7 #[.int .u64 a0, .slice a1 l1 c1] w fun e w' => e = .returned (.bool true) ∧ Below w.heap.size w w' := by
  obtain ⟨j0, hj, hj0, hj1, hj2⟩ := info_parts Try.info5
  obtain ⟨hI, hy⟩ := nat_in w1
  obtain ⟨y, hyy⟩ : ∃ y, (fun i => (z1 i).toNat) = y := ⟨_, rfl⟩
  have hy' : ∀ i, y i < 256 := fun i => by rw [← hyy]; exact hy i
  rw [hyy] at hI
  obtain ⟨S, hS⟩ : ∃ S, sumV y l1 a0 = S := ⟨_, rfl⟩
  have HY := Lib.hid hy'
  have HI := Lib.hid hI
  have HS := Lib.hid hS
  have q0 : decide ((500 : Int) < (l1 : Int)) = false := by simp; omega
  clear hy hy' hyy hI hS w1
  go_enter Try.func7, Try.ntmps7
  go_wp2_with (refine wpList_append_mine rfl (.tmp 10) (.tmp 11) 23 23 rfl 5 j0 (.int .u8 0) 1 1 Try.underlying23 hj hj0 hj1 hj2 rfl (.slice (some ⟨w.heap.size, 0, none⟩) 0 0) 0 [] rfl (row_of_tab (m := 0) (F := fun _ => .int .u8 0) (heap_alloc_new _ _) (by unfold maxLen; omega)) _ l1 _ rfl (src_ints c1 Try.underlying23 (HI.out.touch (Touch.new w _))) (by unfold maxLen; omega) (by omega) ?_; intro a5 c5 w2 hown ht hf _; simp only [Nat.zero_add, List.nil_append] at hown hf ⊢)
  have T2 := Lib.hid (own_app (Touch.new w _) (OwnB.here w 0) ht)
  obtain ⟨xa, xb, xc, hxv, hx⟩ := ints_row hown
  simp at hxv
  obtain ⟨rfl, rfl⟩ := hxv
  have HX := Lib.hid hx
  clear hown ht hf hx
  go_wp2_with fail
  refine (sum_one a0 w2 _ a5 xb 0 l1 c5 w2.heap.size _ y HY.out HX.out (Touch.new w2 _) (heap_alloc_new w2 _) (by omega)).mono ?_
  rintro e w3 ⟨rfl, t3⟩
  have T3 := Lib.hid ((Touch.new w2 _).trans t3)
  rw [HS.out]
  clear t3
  go_wp2_with fail
  have hg := heap_alloc_new w3 (.cells #[.slice none 0 0, .slice a5 l1 c5, .slice none 0 0] 23)
  have hXI := (HX.out.touch T3.out).touch (Touch.new w3 (.cells #[.slice none 0 0, .slice a5 l1 c5, .slice none 0 0] 23))
  have HG := Lib.hid hg
  have HXI := Lib.hid hXI
  clear hg hXI
  refine (sum_walk a0 _ (some ⟨w3.heap.size, 0, none⟩) w3.heap.size 0 3 3 (fun i => if i = 1 then a5 else none) (fun i => if i = 1 then xb else 0) (fun i => 0) (fun i => if i = 1 then l1 else 0) (fun i => if i = 1 then c5 else 0) (fun _ => nat8 y) ⟨fun _ => rfl, fun i hi => ?_, fun i hi => ?_⟩ (by omega) l1 (by simp [sumL]) (by omega) y HY.out (by simp [catV, cellsZ])).mono ?_
  · rw [cell_of_row _ _ _ _ _ _ HG.out]
    have : i = 0 ∨ i = 1 ∨ i = 2 := by omega
    rcases this with rfl | rfl | rfl <;> rfl
  · have : i = 0 ∨ i = 1 ∨ i = 2 := by omega
    rcases this with rfl | rfl | rfl
    · exact ⟨fun h => by simp at h, fun i hi => by simp at hi⟩
    · exact HXI.out
    · exact ⟨fun h => by simp at h, fun i hi => by simp at hi⟩
  rintro e w4 ⟨rfl, t4⟩
  have T4 := Lib.hid ((T3.out.trans (Touch.new w3 _)).trans t4)
  rw [HS.out]
  have cv1 := fun c => conv_ints (HX.out.touch T4.out) c
  have cv2 := fun c => conv_ints (HI.out.touch (T2.out.trans T4.out)) c
  clear t4
  go_wp2_with fail
  clear cv1 cv2
  refine (known_walk _).mono ?_
  rintro e w6 ⟨rfl, t6⟩
  go_wp2_with fail
  go_ret
  exact ⟨rfl, ((T2.out.trans T4.out).trans t6).owned⟩
theorem HashOwn_law (w : World) (a0 : Int) (w0 : (Lit.int .u64 a0).wf = true) (a1 : Option Addr) (b1 o1 l1 c1 : Nat) (z1 : Nat → Int) (w1 : IntsIn .u8 w a1 b1 o1 l1 c1 z1) :
    Calls Try.prog 7 #[.int .u64 a0, .slice a1 l1 c1] w fun e w' => e = .returned (.bool true) ∧ Below w.heap.size w w' := by
  by_cases hl : 500 < l1
  · clear w0 w1
    go_enter Try.func7, Try.ntmps7
    go_wp2_with fail
    go_ret
    exact ⟨rfl, Below.refl _ _⟩
  · exact HashOwn_in w a0 a1 b1 o1 l1 c1 z1 w1 (by omega)
end Go.Proofs.Ytdhfepalphpabaa
