/- fse: the law FseOdd. (Printed by wip/gen/odd.py.) -/
import Derived.Test.YtaacphmbkieacaaGaC
namespace Go.Proofs.Ytaacphmbkieacaa
open Go.RowKit Go.WideShapes Fs
set_option linter.unusedVariables false
set_option linter.unusedSimpArgs false
set_option maxRecDepth 100000

theorem make33 (w : World) : (Instr.makeSlice 22 (.int .i64 33) (.int .i64 33)).run Try.prog w = .ok (.slice (some ⟨w.heap.size, 0, none⟩) 33 33) (w.alloc (.cells (tabI 33 (fun _ => 0)) 3)) := by
  have := make_ints 33 (by omega) w
  simpa using this
theorem isOk_ten (z : Nat → Int) (n : Nat) : isOk z n 10 = false := by simp [isOk, logOk]
def o0 (w : World) : World := w
def o1 (w : World) : World := (o0 w).alloc (.cells #[.int .i64 32] 3)
def o2 (w : World) : World := (o1 w).alloc (.cells #[.int .i64 31] 3)
def o3 (w : World) : World := (o2 w).alloc (.cells #[.int .i64 33] 3)
def o4 (w : World) : World := (o3 w).alloc (.cells #[.int .i64 16, .int .i64 16] 3)
def o5 (w : World) : World := (o4 w).alloc (.cells #[.int .i64 (-1), .int .i64 33] 3)
def o6 (w : World) : World := (o5 w).alloc (.cells #[.int .i64 40, .int .i64 (-8)] 3)
def o7 (w : World) : World := (o6 w).alloc (.cells (tabI 33 (fun _ => 0)) 3)
def o8 (w : World) : World := (o7 w).alloc (.cells #[Value.slice (some ⟨w.heap.size, 0, none⟩) 1 1, Value.slice (some ⟨w.heap.size + 1, 0, none⟩) 1 1, Value.slice (some ⟨w.heap.size + 1 + 1, 0, none⟩) 1 1, Value.slice (some ⟨w.heap.size + 1 + 1 + 1, 0, none⟩) 2 2, Value.slice (some ⟨w.heap.size + 1 + 1 + 1 + 1, 0, none⟩) 2 2, Value.slice none 0 0, Value.slice (some ⟨w.heap.size + 1 + 1 + 1 + 1 + 1, 0, none⟩) 2 2, Value.slice (some ⟨w.heap.size + 1 + 1 + 1 + 1 + 1 + 1, 0, none⟩) 33 33] 22)
theorem os0 (w : World) : (o0 w).heap.size = w.heap.size := rfl
theorem os1 (w : World) : (o1 w).heap.size = w.heap.size + 1 := by rw [show o1 w = (o0 w).alloc _ from rfl, World.size_alloc, os0]
theorem os2 (w : World) : (o2 w).heap.size = w.heap.size + 1 + 1 := by rw [show o2 w = (o1 w).alloc _ from rfl, World.size_alloc, os1]
theorem os3 (w : World) : (o3 w).heap.size = w.heap.size + 1 + 1 + 1 := by rw [show o3 w = (o2 w).alloc _ from rfl, World.size_alloc, os2]
theorem os4 (w : World) : (o4 w).heap.size = w.heap.size + 1 + 1 + 1 + 1 := by rw [show o4 w = (o3 w).alloc _ from rfl, World.size_alloc, os3]
theorem os5 (w : World) : (o5 w).heap.size = w.heap.size + 1 + 1 + 1 + 1 + 1 := by rw [show o5 w = (o4 w).alloc _ from rfl, World.size_alloc, os4]
theorem os6 (w : World) : (o6 w).heap.size = w.heap.size + 1 + 1 + 1 + 1 + 1 + 1 := by rw [show o6 w = (o5 w).alloc _ from rfl, World.size_alloc, os5]
theorem os7 (w : World) : (o7 w).heap.size = w.heap.size + 1 + 1 + 1 + 1 + 1 + 1 + 1 := by rw [show o7 w = (o6 w).alloc _ from rfl, World.size_alloc, os6]
theorem os8 (w : World) : (o8 w).heap.size = w.heap.size + 1 + 1 + 1 + 1 + 1 + 1 + 1 + 1 := by rw [show o8 w = (o7 w).alloc _ from rfl, World.size_alloc, os7]
theorem odd_touch (w : World) : Touch (fun _ => False) w (o8 w) := (((((((Touch.new w _).alloc _).alloc _).alloc _).alloc _).alloc _).alloc _).alloc _
theorem odd_0 (w : World) : (o8 w).heap[w.heap.size]? = some (.cells #[.int .i64 32] 3 (0, 0)) := by
  have h : (o8 w).heap[(o0 w).heap.size]? = _ := ((((((((Touch.refl (fun _ => False) (o1 w)).alloc _).alloc _).alloc _).alloc _).alloc _).alloc _).alloc _).heap (heap_alloc_new (o0 w) (.cells #[.int .i64 32] 3)) id
  rw [os0] at h
  exact h
theorem odd_1 (w : World) : (o8 w).heap[w.heap.size + 1]? = some (.cells #[.int .i64 31] 3 (0, 0)) := by
  have h : (o8 w).heap[(o1 w).heap.size]? = _ := (((((((Touch.refl (fun _ => False) (o2 w)).alloc _).alloc _).alloc _).alloc _).alloc _).alloc _).heap (heap_alloc_new (o1 w) (.cells #[.int .i64 31] 3)) id
  rw [os1] at h
  exact h
theorem odd_2 (w : World) : (o8 w).heap[w.heap.size + 1 + 1]? = some (.cells #[.int .i64 33] 3 (0, 0)) := by
  have h : (o8 w).heap[(o2 w).heap.size]? = _ := ((((((Touch.refl (fun _ => False) (o3 w)).alloc _).alloc _).alloc _).alloc _).alloc _).heap (heap_alloc_new (o2 w) (.cells #[.int .i64 33] 3)) id
  rw [os2] at h
  exact h
theorem odd_3 (w : World) : (o8 w).heap[w.heap.size + 1 + 1 + 1]? = some (.cells #[.int .i64 16, .int .i64 16] 3 (0, 0)) := by
  have h : (o8 w).heap[(o3 w).heap.size]? = _ := (((((Touch.refl (fun _ => False) (o4 w)).alloc _).alloc _).alloc _).alloc _).heap (heap_alloc_new (o3 w) (.cells #[.int .i64 16, .int .i64 16] 3)) id
  rw [os3] at h
  exact h
theorem odd_4 (w : World) : (o8 w).heap[w.heap.size + 1 + 1 + 1 + 1]? = some (.cells #[.int .i64 (-1), .int .i64 33] 3 (0, 0)) := by
  have h : (o8 w).heap[(o4 w).heap.size]? = _ := ((((Touch.refl (fun _ => False) (o5 w)).alloc _).alloc _).alloc _).heap (heap_alloc_new (o4 w) (.cells #[.int .i64 (-1), .int .i64 33] 3)) id
  rw [os4] at h
  exact h
theorem odd_5 (w : World) : (o8 w).heap[w.heap.size + 1 + 1 + 1 + 1 + 1]? = some (.cells #[.int .i64 40, .int .i64 (-8)] 3 (0, 0)) := by
  have h : (o8 w).heap[(o5 w).heap.size]? = _ := (((Touch.refl (fun _ => False) (o6 w)).alloc _).alloc _).heap (heap_alloc_new (o5 w) (.cells #[.int .i64 40, .int .i64 (-8)] 3)) id
  rw [os5] at h
  exact h
theorem odd_6 (w : World) : (o8 w).heap[w.heap.size + 1 + 1 + 1 + 1 + 1 + 1]? = some (.cells (tabI 33 (fun _ => 0)) 3 (0, 0)) := by
  have h : (o8 w).heap[(o6 w).heap.size]? = _ := ((Touch.refl (fun _ => False) (o7 w)).alloc _).heap (heap_alloc_new (o6 w) (.cells (tabI 33 (fun _ => 0)) 3)) id
  rw [os6] at h
  exact h
theorem odd_7 (w : World) : (o8 w).heap[w.heap.size + 1 + 1 + 1 + 1 + 1 + 1 + 1]? = some (.cells #[Value.slice (some ⟨w.heap.size, 0, none⟩) 1 1, Value.slice (some ⟨w.heap.size + 1, 0, none⟩) 1 1, Value.slice (some ⟨w.heap.size + 1 + 1, 0, none⟩) 1 1, Value.slice (some ⟨w.heap.size + 1 + 1 + 1, 0, none⟩) 2 2, Value.slice (some ⟨w.heap.size + 1 + 1 + 1 + 1, 0, none⟩) 2 2, Value.slice none 0 0, Value.slice (some ⟨w.heap.size + 1 + 1 + 1 + 1 + 1, 0, none⟩) 2 2, Value.slice (some ⟨w.heap.size + 1 + 1 + 1 + 1 + 1 + 1, 0, none⟩) 33 33] 22 (0, 0)) := by
  have h : (o8 w).heap[(o7 w).heap.size]? = _ := (Touch.refl (fun _ => False) (o8 w)).heap (heap_alloc_new (o7 w) (.cells #[Value.slice (some ⟨w.heap.size, 0, none⟩) 1 1, Value.slice (some ⟨w.heap.size + 1, 0, none⟩) 1 1, Value.slice (some ⟨w.heap.size + 1 + 1, 0, none⟩) 1 1, Value.slice (some ⟨w.heap.size + 1 + 1 + 1, 0, none⟩) 2 2, Value.slice (some ⟨w.heap.size + 1 + 1 + 1 + 1, 0, none⟩) 2 2, Value.slice none 0 0, Value.slice (some ⟨w.heap.size + 1 + 1 + 1 + 1 + 1, 0, none⟩) 2 2, Value.slice (some ⟨w.heap.size + 1 + 1 + 1 + 1 + 1 + 1, 0, none⟩) 33 33] 22)) id
  rw [os7] at h
  exact h
def zl (l : List Int) (i : Nat) : Int := l.getD i 0

set_option maxHeartbeats 2000000 in
theorem odd_way0 (w : World) : Calls Try.prog 7 #[.int .i64 0] w fun e w' => e = .returned (.bool true) ∧ Below w.heap.size w w' := by
  have hmk := fun w => make33 w
  have hiso : isOk (zl [32]) 1 ((5 : Nat) : Int) = true := by decide +kernel
  have HI := Lib.hid (show Ints .i64 (o8 w) (some ⟨w.heap.size, 0, none⟩) (w.heap.size) 0 1 (zl [32]) from one_ints (odd_0 w) rfl)
  have HR := Lib.hid (odd_7 w)
  have TW := Lib.hid (odd_touch w)
  have HISO := Lib.hid hiso
  clear hiso
  go_enter Try.func7, Try.ntmps7
  go_wp2_with fail
  refine (table_yes (some ⟨w.heap.size, 0, none⟩) (w.heap.size) 0 1 1 5 (zl [32]) _ HI.out HISO.out).mono ?_
  rintro e w1 ⟨g1, rfl, _, _, t1⟩
  have T1 := Lib.hid (TW.out.trans t1)
  have HI1 := Lib.hid (HI.out.touch t1)
  have HR1 := Lib.hid (t1.heap HR.out id)
  have tn := Touch.new w1 (.cells #[.int .i64 16] 3)
  have HA := Lib.hid (one_ints (z := zl [16]) (heap_alloc_new w1 (.cells #[.int .i64 16] 3)) rfl)
  have T2 := Lib.hid (T1.out.trans tn)
  have HI2 := Lib.hid (HI1.out.touch tn)
  have HR2 := Lib.hid (tn.heap HR1.out id)
  clear t1 hmk tn
  go_wp2_with fail
  refine (table_no _ _ 0 1 1 (zl [16]) 4 _ HA.out (by omega) (isOk_four _ _)).mono ?_
  rintro e w3 ⟨rfl, t3⟩
  have tn := Touch.new w3 (.cells #[.int .i64 1024] 3)
  have HA3 := Lib.hid (one_ints (z := zl [1024]) (heap_alloc_new w3 (.cells #[.int .i64 1024] 3)) rfl)
  have T3 := Lib.hid ((T2.out.trans t3).trans tn)
  have HI3 := Lib.hid ((HI2.out.touch t3).touch tn)
  have HR3 := Lib.hid (tn.heap (t3.heap HR2.out id) id)
  clear t3 tn
  go_wp2_with fail
  refine (table_no _ _ 0 1 1 (zl [1024]) 10 _ HA3.out (by omega) (isOk_ten _ _)).mono ?_
  rintro e w4 ⟨rfl, t4⟩
  have T4 := Lib.hid (T3.out.trans t4)
  have HI4 := Lib.hid (HI3.out.touch t4)
  have hr4 : w4.cell? ⟨w.heap.size + 1 + 1 + 1 + 1 + 1 + 1 + 1, 0, none⟩ = some (.slice (some ⟨w.heap.size, 0, none⟩) 1 1) := by rw [cell_of_row _ _ _ _ _ _ (t4.heap HR3.out id)]; rfl
  clear t4
  go_wp2_with fail
  refine (is_walk (some ⟨w.heap.size, 0, none⟩) (w.heap.size) 0 1 1 (zl [32]) ((5 : Nat) : Int) _ HI4.out (by omega)).mono ?_
  rintro e w5 ⟨rfl, t5⟩
  rw [HISO.out]
  have T5 := Lib.hid (T4.out.trans t5)
  clear t5
  go_wp2_with fail
  refine (known_walk _).mono ?_
  rintro e w6 ⟨rfl, t6⟩
  go_wp2_with fail
  go_ret
  exact ⟨rfl, (T5.out.trans t6).owned⟩

set_option maxHeartbeats 2000000 in
theorem odd_way1 (w : World) : Calls Try.prog 7 #[.int .i64 1] w fun e w' => e = .returned (.bool true) ∧ Below w.heap.size w w' := by
  have hmk := fun w => make33 w
  have hiso : isOk (zl [31]) 1 ((5 : Nat) : Int) = false := by decide +kernel
  have HI := Lib.hid (show Ints .i64 (o8 w) (some ⟨w.heap.size + 1, 0, none⟩) (w.heap.size + 1) 0 1 (zl [31]) from one_ints (odd_1 w) rfl)
  have HR := Lib.hid (odd_7 w)
  have TW := Lib.hid (odd_touch w)
  have HISO := Lib.hid hiso
  clear hiso
  go_enter Try.func7, Try.ntmps7
  go_wp2_with fail
  refine (table_no (some ⟨w.heap.size + 1, 0, none⟩) (w.heap.size + 1) 0 1 1 (zl [31]) ((5 : Nat) : Int) _ HI.out (by omega) HISO.out).mono ?_
  rintro e w1 ⟨rfl, t1⟩
  have T1 := Lib.hid (TW.out.trans t1)
  have HI1 := Lib.hid (HI.out.touch t1)
  have HR1 := Lib.hid (t1.heap HR.out id)
  have tn := Touch.new w1 (.cells #[.int .i64 16] 3)
  have HA := Lib.hid (one_ints (z := zl [16]) (heap_alloc_new w1 (.cells #[.int .i64 16] 3)) rfl)
  have T2 := Lib.hid (T1.out.trans tn)
  have HI2 := Lib.hid (HI1.out.touch tn)
  have HR2 := Lib.hid (tn.heap HR1.out id)
  clear t1 hmk tn
  go_wp2_with fail
  refine (table_no _ _ 0 1 1 (zl [16]) 4 _ HA.out (by omega) (isOk_four _ _)).mono ?_
  rintro e w3 ⟨rfl, t3⟩
  have tn := Touch.new w3 (.cells #[.int .i64 1024] 3)
  have HA3 := Lib.hid (one_ints (z := zl [1024]) (heap_alloc_new w3 (.cells #[.int .i64 1024] 3)) rfl)
  have T3 := Lib.hid ((T2.out.trans t3).trans tn)
  have HI3 := Lib.hid ((HI2.out.touch t3).touch tn)
  have HR3 := Lib.hid (tn.heap (t3.heap HR2.out id) id)
  clear t3 tn
  go_wp2_with fail
  refine (table_no _ _ 0 1 1 (zl [1024]) 10 _ HA3.out (by omega) (isOk_ten _ _)).mono ?_
  rintro e w4 ⟨rfl, t4⟩
  have T4 := Lib.hid (T3.out.trans t4)
  have HI4 := Lib.hid (HI3.out.touch t4)
  have hr4 : w4.cell? ⟨w.heap.size + 1 + 1 + 1 + 1 + 1 + 1 + 1, 1, none⟩ = some (.slice (some ⟨w.heap.size + 1, 0, none⟩) 1 1) := by rw [cell_of_row _ _ _ _ _ _ (t4.heap HR3.out id)]; rfl
  clear t4
  go_wp2_with fail
  refine (is_walk (some ⟨w.heap.size + 1, 0, none⟩) (w.heap.size + 1) 0 1 1 (zl [31]) ((5 : Nat) : Int) _ HI4.out (by omega)).mono ?_
  rintro e w5 ⟨rfl, t5⟩
  rw [HISO.out]
  have T5 := Lib.hid (T4.out.trans t5)
  clear t5
  go_wp2_with fail
  refine (known_walk _).mono ?_
  rintro e w6 ⟨rfl, t6⟩
  go_wp2_with fail
  go_ret
  exact ⟨rfl, (T5.out.trans t6).owned⟩

set_option maxHeartbeats 2000000 in
theorem odd_way2 (w : World) : Calls Try.prog 7 #[.int .i64 2] w fun e w' => e = .returned (.bool true) ∧ Below w.heap.size w w' := by
  have hmk := fun w => make33 w
  have hiso : isOk (zl [33]) 1 ((5 : Nat) : Int) = false := by decide +kernel
  have HI := Lib.hid (show Ints .i64 (o8 w) (some ⟨w.heap.size + 1 + 1, 0, none⟩) (w.heap.size + 1 + 1) 0 1 (zl [33]) from one_ints (odd_2 w) rfl)
  have HR := Lib.hid (odd_7 w)
  have TW := Lib.hid (odd_touch w)
  have HISO := Lib.hid hiso
  clear hiso
  go_enter Try.func7, Try.ntmps7
  go_wp2_with fail
  refine (table_no (some ⟨w.heap.size + 1 + 1, 0, none⟩) (w.heap.size + 1 + 1) 0 1 1 (zl [33]) ((5 : Nat) : Int) _ HI.out (by omega) HISO.out).mono ?_
  rintro e w1 ⟨rfl, t1⟩
  have T1 := Lib.hid (TW.out.trans t1)
  have HI1 := Lib.hid (HI.out.touch t1)
  have HR1 := Lib.hid (t1.heap HR.out id)
  have tn := Touch.new w1 (.cells #[.int .i64 16] 3)
  have HA := Lib.hid (one_ints (z := zl [16]) (heap_alloc_new w1 (.cells #[.int .i64 16] 3)) rfl)
  have T2 := Lib.hid (T1.out.trans tn)
  have HI2 := Lib.hid (HI1.out.touch tn)
  have HR2 := Lib.hid (tn.heap HR1.out id)
  clear t1 hmk tn
  go_wp2_with fail
  refine (table_no _ _ 0 1 1 (zl [16]) 4 _ HA.out (by omega) (isOk_four _ _)).mono ?_
  rintro e w3 ⟨rfl, t3⟩
  have tn := Touch.new w3 (.cells #[.int .i64 1024] 3)
  have HA3 := Lib.hid (one_ints (z := zl [1024]) (heap_alloc_new w3 (.cells #[.int .i64 1024] 3)) rfl)
  have T3 := Lib.hid ((T2.out.trans t3).trans tn)
  have HI3 := Lib.hid ((HI2.out.touch t3).touch tn)
  have HR3 := Lib.hid (tn.heap (t3.heap HR2.out id) id)
  clear t3 tn
  go_wp2_with fail
  refine (table_no _ _ 0 1 1 (zl [1024]) 10 _ HA3.out (by omega) (isOk_ten _ _)).mono ?_
  rintro e w4 ⟨rfl, t4⟩
  have T4 := Lib.hid (T3.out.trans t4)
  have HI4 := Lib.hid (HI3.out.touch t4)
  have hr4 : w4.cell? ⟨w.heap.size + 1 + 1 + 1 + 1 + 1 + 1 + 1, 2, none⟩ = some (.slice (some ⟨w.heap.size + 1 + 1, 0, none⟩) 1 1) := by rw [cell_of_row _ _ _ _ _ _ (t4.heap HR3.out id)]; rfl
  clear t4
  go_wp2_with fail
  refine (is_walk (some ⟨w.heap.size + 1 + 1, 0, none⟩) (w.heap.size + 1 + 1) 0 1 1 (zl [33]) ((5 : Nat) : Int) _ HI4.out (by omega)).mono ?_
  rintro e w5 ⟨rfl, t5⟩
  rw [HISO.out]
  have T5 := Lib.hid (T4.out.trans t5)
  clear t5
  go_wp2_with fail
  refine (known_walk _).mono ?_
  rintro e w6 ⟨rfl, t6⟩
  go_wp2_with fail
  go_ret
  exact ⟨rfl, (T5.out.trans t6).owned⟩

set_option maxHeartbeats 2000000 in
theorem odd_way3 (w : World) : Calls Try.prog 7 #[.int .i64 3] w fun e w' => e = .returned (.bool true) ∧ Below w.heap.size w w' := by
  have hmk := fun w => make33 w
  have hiso : isOk (zl [16, 16]) 2 ((5 : Nat) : Int) = true := by decide +kernel
  have HI := Lib.hid (show Ints .i64 (o8 w) (some ⟨w.heap.size + 1 + 1 + 1, 0, none⟩) (w.heap.size + 1 + 1 + 1) 0 2 (zl [16, 16]) from two_ints (odd_3 w) rfl rfl)
  have HR := Lib.hid (odd_7 w)
  have TW := Lib.hid (odd_touch w)
  have HISO := Lib.hid hiso
  clear hiso
  go_enter Try.func7, Try.ntmps7
  go_wp2_with fail
  refine (table_yes (some ⟨w.heap.size + 1 + 1 + 1, 0, none⟩) (w.heap.size + 1 + 1 + 1) 0 2 2 5 (zl [16, 16]) _ HI.out HISO.out).mono ?_
  rintro e w1 ⟨g1, rfl, _, _, t1⟩
  have T1 := Lib.hid (TW.out.trans t1)
  have HI1 := Lib.hid (HI.out.touch t1)
  have HR1 := Lib.hid (t1.heap HR.out id)
  have tn := Touch.new w1 (.cells #[.int .i64 16] 3)
  have HA := Lib.hid (one_ints (z := zl [16]) (heap_alloc_new w1 (.cells #[.int .i64 16] 3)) rfl)
  have T2 := Lib.hid (T1.out.trans tn)
  have HI2 := Lib.hid (HI1.out.touch tn)
  have HR2 := Lib.hid (tn.heap HR1.out id)
  clear t1 hmk tn
  go_wp2_with fail
  refine (table_no _ _ 0 1 1 (zl [16]) 4 _ HA.out (by omega) (isOk_four _ _)).mono ?_
  rintro e w3 ⟨rfl, t3⟩
  have tn := Touch.new w3 (.cells #[.int .i64 1024] 3)
  have HA3 := Lib.hid (one_ints (z := zl [1024]) (heap_alloc_new w3 (.cells #[.int .i64 1024] 3)) rfl)
  have T3 := Lib.hid ((T2.out.trans t3).trans tn)
  have HI3 := Lib.hid ((HI2.out.touch t3).touch tn)
  have HR3 := Lib.hid (tn.heap (t3.heap HR2.out id) id)
  clear t3 tn
  go_wp2_with fail
  refine (table_no _ _ 0 1 1 (zl [1024]) 10 _ HA3.out (by omega) (isOk_ten _ _)).mono ?_
  rintro e w4 ⟨rfl, t4⟩
  have T4 := Lib.hid (T3.out.trans t4)
  have HI4 := Lib.hid (HI3.out.touch t4)
  have hr4 : w4.cell? ⟨w.heap.size + 1 + 1 + 1 + 1 + 1 + 1 + 1, 3, none⟩ = some (.slice (some ⟨w.heap.size + 1 + 1 + 1, 0, none⟩) 2 2) := by rw [cell_of_row _ _ _ _ _ _ (t4.heap HR3.out id)]; rfl
  clear t4
  go_wp2_with fail
  refine (is_walk (some ⟨w.heap.size + 1 + 1 + 1, 0, none⟩) (w.heap.size + 1 + 1 + 1) 0 2 2 (zl [16, 16]) ((5 : Nat) : Int) _ HI4.out (by omega)).mono ?_
  rintro e w5 ⟨rfl, t5⟩
  rw [HISO.out]
  have T5 := Lib.hid (T4.out.trans t5)
  clear t5
  go_wp2_with fail
  refine (known_walk _).mono ?_
  rintro e w6 ⟨rfl, t6⟩
  go_wp2_with fail
  go_ret
  exact ⟨rfl, (T5.out.trans t6).owned⟩

set_option maxHeartbeats 2000000 in
theorem odd_way4 (w : World) : Calls Try.prog 7 #[.int .i64 4] w fun e w' => e = .returned (.bool true) ∧ Below w.heap.size w w' := by
  have hmk := fun w => make33 w
  have hiso : isOk (zl [-1, 33]) 2 ((5 : Nat) : Int) = false := by decide +kernel
  have HI := Lib.hid (show Ints .i64 (o8 w) (some ⟨w.heap.size + 1 + 1 + 1 + 1, 0, none⟩) (w.heap.size + 1 + 1 + 1 + 1) 0 2 (zl [-1, 33]) from two_ints (odd_4 w) rfl rfl)
  have HR := Lib.hid (odd_7 w)
  have TW := Lib.hid (odd_touch w)
  have HISO := Lib.hid hiso
  clear hiso
  go_enter Try.func7, Try.ntmps7
  go_wp2_with fail
  refine (table_no (some ⟨w.heap.size + 1 + 1 + 1 + 1, 0, none⟩) (w.heap.size + 1 + 1 + 1 + 1) 0 2 2 (zl [-1, 33]) ((5 : Nat) : Int) _ HI.out (by omega) HISO.out).mono ?_
  rintro e w1 ⟨rfl, t1⟩
  have T1 := Lib.hid (TW.out.trans t1)
  have HI1 := Lib.hid (HI.out.touch t1)
  have HR1 := Lib.hid (t1.heap HR.out id)
  have tn := Touch.new w1 (.cells #[.int .i64 16] 3)
  have HA := Lib.hid (one_ints (z := zl [16]) (heap_alloc_new w1 (.cells #[.int .i64 16] 3)) rfl)
  have T2 := Lib.hid (T1.out.trans tn)
  have HI2 := Lib.hid (HI1.out.touch tn)
  have HR2 := Lib.hid (tn.heap HR1.out id)
  clear t1 hmk tn
  go_wp2_with fail
  refine (table_no _ _ 0 1 1 (zl [16]) 4 _ HA.out (by omega) (isOk_four _ _)).mono ?_
  rintro e w3 ⟨rfl, t3⟩
  have tn := Touch.new w3 (.cells #[.int .i64 1024] 3)
  have HA3 := Lib.hid (one_ints (z := zl [1024]) (heap_alloc_new w3 (.cells #[.int .i64 1024] 3)) rfl)
  have T3 := Lib.hid ((T2.out.trans t3).trans tn)
  have HI3 := Lib.hid ((HI2.out.touch t3).touch tn)
  have HR3 := Lib.hid (tn.heap (t3.heap HR2.out id) id)
  clear t3 tn
  go_wp2_with fail
  refine (table_no _ _ 0 1 1 (zl [1024]) 10 _ HA3.out (by omega) (isOk_ten _ _)).mono ?_
  rintro e w4 ⟨rfl, t4⟩
  have T4 := Lib.hid (T3.out.trans t4)
  have HI4 := Lib.hid (HI3.out.touch t4)
  have hr4 : w4.cell? ⟨w.heap.size + 1 + 1 + 1 + 1 + 1 + 1 + 1, 4, none⟩ = some (.slice (some ⟨w.heap.size + 1 + 1 + 1 + 1, 0, none⟩) 2 2) := by rw [cell_of_row _ _ _ _ _ _ (t4.heap HR3.out id)]; rfl
  clear t4
  go_wp2_with fail
  refine (is_walk (some ⟨w.heap.size + 1 + 1 + 1 + 1, 0, none⟩) (w.heap.size + 1 + 1 + 1 + 1) 0 2 2 (zl [-1, 33]) ((5 : Nat) : Int) _ HI4.out (by omega)).mono ?_
  rintro e w5 ⟨rfl, t5⟩
  rw [HISO.out]
  have T5 := Lib.hid (T4.out.trans t5)
  clear t5
  go_wp2_with fail
  refine (known_walk _).mono ?_
  rintro e w6 ⟨rfl, t6⟩
  go_wp2_with fail
  go_ret
  exact ⟨rfl, (T5.out.trans t6).owned⟩

set_option maxHeartbeats 2000000 in
theorem odd_way5 (w : World) : Calls Try.prog 7 #[.int .i64 5] w fun e w' => e = .returned (.bool true) ∧ Below w.heap.size w w' := by
  have hmk := fun w => make33 w
  have hiso : isOk (fun _ => 0) 0 ((5 : Nat) : Int) = false := by decide +kernel
  have HI := Lib.hid (show Ints .i64 (o8 w) none 0 0 0 (fun _ => 0) from ⟨fun h => by omega, fun i hi => by omega⟩)
  have HR := Lib.hid (odd_7 w)
  have TW := Lib.hid (odd_touch w)
  have HISO := Lib.hid hiso
  clear hiso
  go_enter Try.func7, Try.ntmps7
  go_wp2_with fail
  refine (table_no none 0 0 0 0 (fun _ => 0) ((5 : Nat) : Int) _ HI.out (by omega) HISO.out).mono ?_
  rintro e w1 ⟨rfl, t1⟩
  have T1 := Lib.hid (TW.out.trans t1)
  have HI1 := Lib.hid (HI.out.touch t1)
  have HR1 := Lib.hid (t1.heap HR.out id)
  have tn := Touch.new w1 (.cells #[.int .i64 16] 3)
  have HA := Lib.hid (one_ints (z := zl [16]) (heap_alloc_new w1 (.cells #[.int .i64 16] 3)) rfl)
  have T2 := Lib.hid (T1.out.trans tn)
  have HI2 := Lib.hid (HI1.out.touch tn)
  have HR2 := Lib.hid (tn.heap HR1.out id)
  clear t1 hmk tn
  go_wp2_with fail
  refine (table_no _ _ 0 1 1 (zl [16]) 4 _ HA.out (by omega) (isOk_four _ _)).mono ?_
  rintro e w3 ⟨rfl, t3⟩
  have tn := Touch.new w3 (.cells #[.int .i64 1024] 3)
  have HA3 := Lib.hid (one_ints (z := zl [1024]) (heap_alloc_new w3 (.cells #[.int .i64 1024] 3)) rfl)
  have T3 := Lib.hid ((T2.out.trans t3).trans tn)
  have HI3 := Lib.hid ((HI2.out.touch t3).touch tn)
  have HR3 := Lib.hid (tn.heap (t3.heap HR2.out id) id)
  clear t3 tn
  go_wp2_with fail
  refine (table_no _ _ 0 1 1 (zl [1024]) 10 _ HA3.out (by omega) (isOk_ten _ _)).mono ?_
  rintro e w4 ⟨rfl, t4⟩
  have T4 := Lib.hid (T3.out.trans t4)
  have HI4 := Lib.hid (HI3.out.touch t4)
  have hr4 : w4.cell? ⟨w.heap.size + 1 + 1 + 1 + 1 + 1 + 1 + 1, 5, none⟩ = some (.slice none 0 0) := by rw [cell_of_row _ _ _ _ _ _ (t4.heap HR3.out id)]; rfl
  clear t4
  go_wp2_with fail
  refine (is_walk none 0 0 0 0 (fun _ => 0) ((5 : Nat) : Int) _ HI4.out (by omega)).mono ?_
  rintro e w5 ⟨rfl, t5⟩
  rw [HISO.out]
  have T5 := Lib.hid (T4.out.trans t5)
  clear t5
  go_wp2_with fail
  refine (known_walk _).mono ?_
  rintro e w6 ⟨rfl, t6⟩
  go_wp2_with fail
  go_ret
  exact ⟨rfl, (T5.out.trans t6).owned⟩

set_option maxHeartbeats 2000000 in
theorem odd_way6 (w : World) : Calls Try.prog 7 #[.int .i64 6] w fun e w' => e = .returned (.bool true) ∧ Below w.heap.size w w' := by
  have hmk := fun w => make33 w
  have hiso : isOk (zl [40, -8]) 2 ((5 : Nat) : Int) = false := by decide +kernel
  have HI := Lib.hid (show Ints .i64 (o8 w) (some ⟨w.heap.size + 1 + 1 + 1 + 1 + 1, 0, none⟩) (w.heap.size + 1 + 1 + 1 + 1 + 1) 0 2 (zl [40, -8]) from two_ints (odd_5 w) rfl rfl)
  have HR := Lib.hid (odd_7 w)
  have TW := Lib.hid (odd_touch w)
  have HISO := Lib.hid hiso
  clear hiso
  go_enter Try.func7, Try.ntmps7
  go_wp2_with fail
  refine (table_no (some ⟨w.heap.size + 1 + 1 + 1 + 1 + 1, 0, none⟩) (w.heap.size + 1 + 1 + 1 + 1 + 1) 0 2 2 (zl [40, -8]) ((5 : Nat) : Int) _ HI.out (by omega) HISO.out).mono ?_
  rintro e w1 ⟨rfl, t1⟩
  have T1 := Lib.hid (TW.out.trans t1)
  have HI1 := Lib.hid (HI.out.touch t1)
  have HR1 := Lib.hid (t1.heap HR.out id)
  have tn := Touch.new w1 (.cells #[.int .i64 16] 3)
  have HA := Lib.hid (one_ints (z := zl [16]) (heap_alloc_new w1 (.cells #[.int .i64 16] 3)) rfl)
  have T2 := Lib.hid (T1.out.trans tn)
  have HI2 := Lib.hid (HI1.out.touch tn)
  have HR2 := Lib.hid (tn.heap HR1.out id)
  clear t1 hmk tn
  go_wp2_with fail
  refine (table_no _ _ 0 1 1 (zl [16]) 4 _ HA.out (by omega) (isOk_four _ _)).mono ?_
  rintro e w3 ⟨rfl, t3⟩
  have tn := Touch.new w3 (.cells #[.int .i64 1024] 3)
  have HA3 := Lib.hid (one_ints (z := zl [1024]) (heap_alloc_new w3 (.cells #[.int .i64 1024] 3)) rfl)
  have T3 := Lib.hid ((T2.out.trans t3).trans tn)
  have HI3 := Lib.hid ((HI2.out.touch t3).touch tn)
  have HR3 := Lib.hid (tn.heap (t3.heap HR2.out id) id)
  clear t3 tn
  go_wp2_with fail
  refine (table_no _ _ 0 1 1 (zl [1024]) 10 _ HA3.out (by omega) (isOk_ten _ _)).mono ?_
  rintro e w4 ⟨rfl, t4⟩
  have T4 := Lib.hid (T3.out.trans t4)
  have HI4 := Lib.hid (HI3.out.touch t4)
  have hr4 : w4.cell? ⟨w.heap.size + 1 + 1 + 1 + 1 + 1 + 1 + 1, 6, none⟩ = some (.slice (some ⟨w.heap.size + 1 + 1 + 1 + 1 + 1, 0, none⟩) 2 2) := by rw [cell_of_row _ _ _ _ _ _ (t4.heap HR3.out id)]; rfl
  clear t4
  go_wp2_with fail
  refine (is_walk (some ⟨w.heap.size + 1 + 1 + 1 + 1 + 1, 0, none⟩) (w.heap.size + 1 + 1 + 1 + 1 + 1) 0 2 2 (zl [40, -8]) ((5 : Nat) : Int) _ HI4.out (by omega)).mono ?_
  rintro e w5 ⟨rfl, t5⟩
  rw [HISO.out]
  have T5 := Lib.hid (T4.out.trans t5)
  clear t5
  go_wp2_with fail
  refine (known_walk _).mono ?_
  rintro e w6 ⟨rfl, t6⟩
  go_wp2_with fail
  go_ret
  exact ⟨rfl, (T5.out.trans t6).owned⟩

set_option maxHeartbeats 2000000 in
theorem odd_way7 (w : World) : Calls Try.prog 7 #[.int .i64 7] w fun e w' => e = .returned (.bool true) ∧ Below w.heap.size w w' := by
  have hmk := fun w => make33 w
  have hiso : isOk (fun _ => 0) 33 ((5 : Nat) : Int) = false := by decide +kernel
  have HI := Lib.hid (show Ints .i64 (o8 w) (some ⟨w.heap.size + 1 + 1 + 1 + 1 + 1 + 1, 0, none⟩) (w.heap.size + 1 + 1 + 1 + 1 + 1 + 1) 0 33 (fun _ => 0) from tab_ints (odd_6 w))
  have HR := Lib.hid (odd_7 w)
  have TW := Lib.hid (odd_touch w)
  have HISO := Lib.hid hiso
  clear hiso
  go_enter Try.func7, Try.ntmps7
  go_wp2_with fail
  refine (table_no (some ⟨w.heap.size + 1 + 1 + 1 + 1 + 1 + 1, 0, none⟩) (w.heap.size + 1 + 1 + 1 + 1 + 1 + 1) 0 33 33 (fun _ => 0) ((5 : Nat) : Int) _ HI.out (by omega) HISO.out).mono ?_
  rintro e w1 ⟨rfl, t1⟩
  have T1 := Lib.hid (TW.out.trans t1)
  have HI1 := Lib.hid (HI.out.touch t1)
  have HR1 := Lib.hid (t1.heap HR.out id)
  have tn := Touch.new w1 (.cells #[.int .i64 16] 3)
  have HA := Lib.hid (one_ints (z := zl [16]) (heap_alloc_new w1 (.cells #[.int .i64 16] 3)) rfl)
  have T2 := Lib.hid (T1.out.trans tn)
  have HI2 := Lib.hid (HI1.out.touch tn)
  have HR2 := Lib.hid (tn.heap HR1.out id)
  clear t1 hmk tn
  go_wp2_with fail
  refine (table_no _ _ 0 1 1 (zl [16]) 4 _ HA.out (by omega) (isOk_four _ _)).mono ?_
  rintro e w3 ⟨rfl, t3⟩
  have tn := Touch.new w3 (.cells #[.int .i64 1024] 3)
  have HA3 := Lib.hid (one_ints (z := zl [1024]) (heap_alloc_new w3 (.cells #[.int .i64 1024] 3)) rfl)
  have T3 := Lib.hid ((T2.out.trans t3).trans tn)
  have HI3 := Lib.hid ((HI2.out.touch t3).touch tn)
  have HR3 := Lib.hid (tn.heap (t3.heap HR2.out id) id)
  clear t3 tn
  go_wp2_with fail
  refine (table_no _ _ 0 1 1 (zl [1024]) 10 _ HA3.out (by omega) (isOk_ten _ _)).mono ?_
  rintro e w4 ⟨rfl, t4⟩
  have T4 := Lib.hid (T3.out.trans t4)
  have HI4 := Lib.hid (HI3.out.touch t4)
  have hr4 : w4.cell? ⟨w.heap.size + 1 + 1 + 1 + 1 + 1 + 1 + 1, 7, none⟩ = some (.slice (some ⟨w.heap.size + 1 + 1 + 1 + 1 + 1 + 1, 0, none⟩) 33 33) := by rw [cell_of_row _ _ _ _ _ _ (t4.heap HR3.out id)]; rfl
  clear t4
  go_wp2_with fail
  refine (is_walk (some ⟨w.heap.size + 1 + 1 + 1 + 1 + 1 + 1, 0, none⟩) (w.heap.size + 1 + 1 + 1 + 1 + 1 + 1) 0 33 33 (fun _ => 0) ((5 : Nat) : Int) _ HI4.out (by omega)).mono ?_
  rintro e w5 ⟨rfl, t5⟩
  rw [HISO.out]
  have T5 := Lib.hid (T4.out.trans t5)
  clear t5
  go_wp2_with fail
  refine (known_walk _).mono ?_
  rintro e w6 ⟨rfl, t6⟩
  go_wp2_with fail
  go_ret
  exact ⟨rfl, (T5.out.trans t6).owned⟩

theorem FseOdd_law (w : World) (a0 : Int) (w0 : (Lit.int .i64 a0).wf = true) :
    Calls Try.prog 7 #[.int .i64 a0] w fun e w' => e = .returned (.bool true) ∧ Below w.heap.size w w' := by
  clear w0
  by_cases h0 : a0 < 0
  · have q0 : decide (a0 < 0) = true := by simpa using h0
    have hmk := fun w => make33 w
    have TW := Lib.hid (odd_touch w)
    clear h0
    go_enter Try.func7, Try.ntmps7
    go_wp2_with fail
    go_ret
    exact ⟨rfl, TW.out.owned⟩
  · by_cases h1 : 8 ≤ a0
    · have q0 : decide (a0 < 0) = false := by simpa using h0
      have q1 : decide (8 ≤ a0) = true := by simpa using h1
      have hmk := fun w => make33 w
      have TW := Lib.hid (odd_touch w)
      clear h0 h1
      go_enter Try.func7, Try.ntmps7
      go_wp2_with fail
      go_ret
      exact ⟨rfl, TW.out.owned⟩
    · have : a0 = 0 ∨ a0 = 1 ∨ a0 = 2 ∨ a0 = 3 ∨ a0 = 4 ∨ a0 = 5 ∨ a0 = 6 ∨ a0 = 7 := by omega
      rcases this with rfl | rfl | rfl | rfl | rfl | rfl | rfl | rfl
      · exact odd_way0 w
      · exact odd_way1 w
      · exact odd_way2 w
      · exact odd_way3 w
      · exact odd_way4 w
      · exact odd_way5 w
      · exact odd_way6 w
      · exact odd_way7 w
end Go.Proofs.Ytaacphmbkieacaa
