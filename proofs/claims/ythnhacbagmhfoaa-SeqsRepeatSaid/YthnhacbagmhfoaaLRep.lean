/- The law SeqsRepeat, walked. -/
import Derived.Test.YthnhacbagmhfoaaLOff
namespace Go.Proofs.Ythnhacbagmhfoaa
open Go.RowKit Go.WideShapes
set_option linter.unusedVariables false
set_option maxRecDepth 100000

/-- The offsets of the law's six steps. -/
def sixZ (a b : Int) (i j : Nat) : Int := if j = 1 then (if i = 0 then a else if i = 1 then a else if i = 2 then b else if i = 3 then a else if i = 4 then b else if i = 5 then 1 else 0) else 0
def sixV (a b : Int) (i : Nat) : Int := if i = 0 then a + 2 else if i = 1 then 0 else if i = 2 then b + 2 else if i = 3 then 1 else if i = 4 then 1 else 2

theorem six_hist (a b : Int) (ha : 9 ≤ a) (hb : 9 ≤ b) (hab : a ≠ b) :
    histO (fun i => sixZ a b i 1) ⟨1, 4, 8⟩ 6 = ⟨1, b, a⟩ ∧ ∀ i, i < 6 → valO (fun i => sixZ a b i 1) ⟨1, 4, 8⟩ i = sixV a b i := by
  have n1 : (1 : Int) ≠ a := by omega
  have n2 : (4 : Int) ≠ a := by omega
  have n3 : (8 : Int) ≠ a := by omega
  have m1 : (1 : Int) ≠ b := by omega
  have m2 : (4 : Int) ≠ b := by omega
  have n4 : a ≠ 1 := by omega
  have m4 : b ≠ 1 := by omega
  have p1 : ¬ (a + 2 = 0) := by omega
  have p2 : ¬ (a + 2 = 1) := by omega
  have p3 : ¬ (b + 2 = 0) := by omega
  have p4 : ¬ (b + 2 = 1) := by omega
  have hba : b ≠ a := fun e => hab e.symm
  have v0 : valH ⟨1, 4, 8⟩ a = a + 2 := by simp [valH, idxH, n1, n2, n3]
  have v1 : valH ⟨a, 1, 4⟩ a = 0 := by simp [valH, idxH]
  have v2 : valH ⟨a, 1, 4⟩ b = b + 2 := by simp [valH, idxH, hab, m1, m2]
  have v3 : valH ⟨b, a, 1⟩ a = 1 := by simp [valH, idxH, hba]
  have v4 : valH ⟨a, b, 1⟩ b = 1 := by simp [valH, idxH, hab]
  have v5 : valH ⟨b, a, 1⟩ 1 = 2 := by simp [valH, idxH, n4, m4]
  have h1 : histO (fun i => sixZ a b i 1) ⟨1, 4, 8⟩ 1 = ⟨a, 1, 4⟩ := by
    show frontH ⟨1, 4, 8⟩ (valH ⟨1, 4, 8⟩ a) a = _
    rw [v0]; simp [frontH, p1, p2]
  have h2 : histO (fun i => sixZ a b i 1) ⟨1, 4, 8⟩ 2 = ⟨a, 1, 4⟩ := by
    show frontH (histO (fun i => sixZ a b i 1) ⟨1, 4, 8⟩ 1) (valH (histO (fun i => sixZ a b i 1) ⟨1, 4, 8⟩ 1) a) a = _
    rw [h1, v1]; simp [frontH]
  have h3 : histO (fun i => sixZ a b i 1) ⟨1, 4, 8⟩ 3 = ⟨b, a, 1⟩ := by
    show frontH (histO (fun i => sixZ a b i 1) ⟨1, 4, 8⟩ 2) (valH (histO (fun i => sixZ a b i 1) ⟨1, 4, 8⟩ 2) b) b = _
    rw [h2, v2]; simp [frontH, p3, p4]
  have h4 : histO (fun i => sixZ a b i 1) ⟨1, 4, 8⟩ 4 = ⟨a, b, 1⟩ := by
    show frontH (histO (fun i => sixZ a b i 1) ⟨1, 4, 8⟩ 3) (valH (histO (fun i => sixZ a b i 1) ⟨1, 4, 8⟩ 3) a) a = _
    rw [h3, v3]; simp [frontH]
  have h5 : histO (fun i => sixZ a b i 1) ⟨1, 4, 8⟩ 5 = ⟨b, a, 1⟩ := by
    show frontH (histO (fun i => sixZ a b i 1) ⟨1, 4, 8⟩ 4) (valH (histO (fun i => sixZ a b i 1) ⟨1, 4, 8⟩ 4) b) b = _
    rw [h4, v4]; simp [frontH]
  have h6 : histO (fun i => sixZ a b i 1) ⟨1, 4, 8⟩ 6 = ⟨1, b, a⟩ := by
    show frontH (histO (fun i => sixZ a b i 1) ⟨1, 4, 8⟩ 5) (valH (histO (fun i => sixZ a b i 1) ⟨1, 4, 8⟩ 5) 1) 1 = _
    rw [h5, v5]; simp [frontH]
  refine ⟨h6, fun i hi => ?_⟩
  have hc : i = 0 ∨ i = 1 ∨ i = 2 ∨ i = 3 ∨ i = 4 ∨ i = 5 := by omega
  rcases hc with rfl | rfl | rfl | rfl | rfl | rfl
  · exact v0
  · show valH (histO (fun i => sixZ a b i 1) ⟨1, 4, 8⟩ 1) a = 0; rw [h1, v1]
  · show valH (histO (fun i => sixZ a b i 1) ⟨1, 4, 8⟩ 2) b = b + 2; rw [h2, v2]
  · show valH (histO (fun i => sixZ a b i 1) ⟨1, 4, 8⟩ 3) a = 1; rw [h3, v3]
  · show valH (histO (fun i => sixZ a b i 1) ⟨1, 4, 8⟩ 4) b = 1; rw [h4, v4]
  · show valH (histO (fun i => sixZ a b i 1) ⟨1, 4, 8⟩ 5) 1 = 2; rw [h5, v5]

/-- The law's six steps in memory. -/
def sixC (a b : Int) : Array Value := #[.int .i64 0, .int .i64 a, .int .i64 0, .int .i64 0, .int .i64 a, .int .i64 0, .int .i64 0, .int .i64 b, .int .i64 0, .int .i64 0, .int .i64 a, .int .i64 0, .int .i64 0, .int .i64 b, .int .i64 0, .int .i64 0, .int .i64 1, .int .i64 0]
theorem wf_small (x : Int) (h0 : 0 ≤ x) (h1 : x ≤ 5000) : (Lit.int .i64 x).wf = true := by
  simp [Lit.wf]
  have e1 : IntKind.i64.min = -9223372036854775808 := by decide
  have e2 : IntKind.i64.max = 9223372036854775807 := by decide
  omega
theorem six_recs (w : World) (a b : Int) (ha : 9 ≤ a) (hb : 9 ≤ b) (ha2 : a ≤ 2000) (hb2 : b ≤ 2000) : RecsIn 3 (w.alloc (.cells (sixC a b) 42)) (some ⟨w.heap.size, 0, none⟩) w.heap.size 0 6 6 (sixZ a b) := by
  have hh : (w.alloc (.cells (sixC a b) 42)).heap[w.heap.size]? = some (.cells (sixC a b) 42 (0, 0)) := heap_alloc_new _ _
  have hc : ∀ k, (w.alloc (.cells (sixC a b) 42)).cell? ⟨w.heap.size, k, none⟩ = (sixC a b)[k]? := fun k => cell_of_row _ _ k _ _ _ hh
  refine ⟨fun _ => rfl, fun _ => lt_of_block hh, Nat.le_refl _, by unfold maxLen; omega, fun i hi j hj => ?_, fun i j => ?_⟩
  · rw [hc]
    have h1 : i = 0 ∨ i = 1 ∨ i = 2 ∨ i = 3 ∨ i = 4 ∨ i = 5 := by omega
    have h2 : j = 0 ∨ j = 1 ∨ j = 2 := by omega
    rcases h1 with rfl | rfl | rfl | rfl | rfl | rfl <;> rcases h2 with rfl | rfl | rfl <;> rfl
  · apply wf_small
    · unfold sixZ; repeat' split <;> omega
    · unfold sixZ; repeat' split <;> omega

theorem six_want (w : World) (a b : Int) (o : Obj) : Ints ((w.alloc o).alloc (.cells #[.int .i64 (a + 2), .int .i64 0, .int .i64 (b + 2), .int .i64 1, .int .i64 1, .int .i64 2] 3)) (some ⟨w.heap.size + 1, 0, none⟩) (w.heap.size + 1) 0 6 (sixV a b) := by
  refine ⟨fun _ => rfl, fun i hi => ?_⟩
  have hh := heap_alloc_2 w o (.cells #[.int .i64 (a + 2), .int .i64 0, .int .i64 (b + 2), .int .i64 1, .int .i64 1, .int .i64 2] 3)
  have h1 : i = 0 ∨ i = 1 ∨ i = 2 ∨ i = 3 ∨ i = 4 ∨ i = 5 := by omega
  rcases h1 with rfl | rfl | rfl | rfl | rfl | rfl <;> (rw [cell_of_row _ _ _ _ _ _ hh]; rfl)

set_option maxHeartbeats 4000000 in
theorem SeqsRepeat_in (w : World) (a b : Int) (ha : 9 ≤ a) (hb : 9 ≤ b) (hab : a ≠ b) (ha2 : a ≤ 2000) (hb2 : b ≤ 2000) :
    Calls Try.prog 6 #[.int .i64 a, .int .i64 b] w fun e w' => e = .returned (.bool true) ∧ Below w.heap.size w w' := by
  have hne : (a == b) = false := by simpa using hab
  have n1 : decide (a < 9) = false := by simp; omega
  have n2 : decide (2000 < a) = false := by simp; omega
  have n3 : decide (b < 9) = false := by simp; omega
  have n4 : decide (2000 < b) = false := by simp; omega
  obtain ⟨hh, hv⟩ := six_hist a b ha hb hab
  have Hh := Lib.hid hh
  have Hv := Lib.hid hv
  have R := Lib.hid (six_recs w a b ha hb ha2 hb2)
  have hz : ∀ i, i < 6 → 0 ≤ sixZ a b i 1 ∧ sixZ a b i 1 ≤ 1073741824 := fun i hi => by
    unfold sixZ
    constructor <;> (repeat' split <;> omega)
  have Hz := Lib.hid hz
  clear hh hv hz
  go_enter Try.func6, Try.ntmps6
  go_wp2_with fail
  refine (begin_walk _).mono ?_
  rintro e w2 ⟨rfl, ht2⟩
  have T2 := Lib.hid ((Touch.new w _).trans ht2)
  have R2 := Lib.hid (recs_touch R.out ht2)
  clear ht2
  go_wp2_with fail
  refine (offsets_walk _ _ _ _ 6 _ (sixZ a b) R2.out ⟨1, 4, 8⟩ (by omega) Hz.out).mono ?_
  rintro e w3 ⟨v3, rfl, ho3⟩
  rw [Hh.out]
  have T3 := Lib.hid (T2.out.trans ho3.touch)
  obtain ⟨xa, xb, xc, rfl, hx3⟩ := ints_row ho3.row
  have X3 := Lib.hid hx3
  clear ho3 hx3 R2
  unfold H3.val arr3
  go_wp2_with fail
  refine (same_yes _ _ _ 6 _ _ _ _ _ _ (sixV a b) _ (X3.out.touch ((Touch.new w3 _).trans (Touch.new _ _))) (six_want w3 a b _) (by omega) Hv.out).mono ?_
  rintro e w7 ⟨rfl, n, rfl⟩
  have kA := fun o n => (((arr_new w3 ⟨1, b, a⟩).touch ((Touch.new _ o).drewN n) id) : Arr (((w3.alloc (.cells #[.int .i64 1, .int .i64 b, .int .i64 a] 31)).alloc o).drewN n) w3.heap.size ⟨1, b, a⟩).cells
  have hA0 := fun o n => (kA o n).1
  have hA1 := fun o n => (kA o n).2.1
  have hA2 := fun o n => (kA o n).2.2
  have eqC := fun w => eq31 1 b a 1 b a w
  simp only [beq_self_eq_true, Bool.and_true] at eqC hA0 hA1 hA2
  clear kA
  go_wp2_with fail
  refine (known_walk _).mono ?_
  rintro e w9 ⟨rfl, ht9⟩
  go_wp2_with fail
  go_ret
  exact ⟨rfl, ((((T3.out.trans (Touch.new w3 _)).trans (Touch.new _ _)).drewN n).trans ht9).owned⟩

theorem SeqsRepeat_law (w : World) (a0 : Int) (w0 : (Lit.int .i64 a0).wf = true) (a1 : Int) (w1 : (Lit.int .i64 a1).wf = true) :
    Calls Try.prog 6 #[.int .i64 a0, .int .i64 a1] w fun e w' => e = .returned (.bool true) ∧ Below w.heap.size w w' := by
  clear w0 w1
  have hc : a0 < 9 ∨ (9 ≤ a0 ∧ 2000 < a0) ∨ (9 ≤ a0 ∧ a0 ≤ 2000 ∧ a1 < 9) ∨ (9 ≤ a0 ∧ a0 ≤ 2000 ∧ 9 ≤ a1 ∧ 2000 < a1) ∨ (9 ≤ a0 ∧ a0 ≤ 2000 ∧ 9 ≤ a1 ∧ a1 ≤ 2000) := by omega
  rcases hc with h | ⟨h, h'⟩ | ⟨h, h', h1⟩ | ⟨h, h', h1, h2⟩ | ⟨h, h', h1, h2⟩
  rotate_left 4
  · by_cases e : a0 = a1
    · subst e
      have hq : (a0 == a0) = true := by simp
      go_enter Try.func6, Try.ntmps6
      go_wp2_with fail
      go_ret
      exact ⟨rfl, Below.refl _ _⟩
    · exact SeqsRepeat_in w a0 a1 h h1 e h' h2
  all_goals
    go_enter Try.func6, Try.ntmps6
    go_wp2_with fail
    go_ret
    exact ⟨rfl, Below.refl _ _⟩
end Go.Proofs.Ythnhacbagmhfoaa
