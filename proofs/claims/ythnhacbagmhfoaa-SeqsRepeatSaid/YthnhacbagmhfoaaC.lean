/- seqs: the last three offsets. -/
import Derived.Test.YthnhacbagmhfoaaB
import Derived.Test.YthnhacbagmhfoaaOpen
namespace Go.Proofs.Ythnhacbagmhfoaa
open Go.RowKit Go.WideShapes
set_option linter.unusedVariables false
set_option maxRecDepth 100000

/-- The last three offsets. -/
structure H3 where
  a : Int
  b : Int
  c : Int
def H3.val (h : H3) : Value := arr3 h.a h.b h.c
def frontH (h : H3) (v off : Int) : H3 := if v = 0 then h else if v = 1 then ⟨off, h.a, h.c⟩ else ⟨off, h.a, h.b⟩

theorem heap_alloc_2 (w : World) (o o' : Obj) : ((w.alloc o).alloc o').heap[w.heap.size + 1]? = some o' := by
  have := heap_alloc_new (w.alloc o) o'
  rwa [show (w.alloc o).heap.size = w.heap.size + 1 from by simp] at this

theorem moved_walk (h : H3) (v off : Int) (w : World) : Calls Try.prog 58 #[h.val, .int .i64 v, .int .i64 off] w fun e w' => e = .returned (frontH h v off).val ∧ Touch (fun _ => False) w w' := by
  obtain ⟨a, b, c⟩ := h
  unfold H3.val arr3
  by_cases h0 : v = 0
  · subst h0
    go_enter Try.func58, Try.ntmps58
    go_wp2
    refine bodyPost_ret (results_cell rfl _ _ _ _ _ rfl (load31 (heap_alloc_2 _ _ _))) rfl ?_
    exact ⟨rfl, ((Touch.refl _ _).alloc _).alloc _⟩
  have hv0 : (v == 0) = false := by simpa using h0
  by_cases h1 : v = 1
  · subst h1
    go_enter Try.func58, Try.ntmps58
    go_wp2
    refine bodyPost_ret (results_cell rfl _ _ _ _ _ rfl (load31 (heap_alloc_2 _ _ _))) rfl ?_
    exact ⟨rfl, ((Touch.refl _ _).alloc _).alloc _⟩
  have hv1 : (v == 1) = false := by simpa using h1
  have hf : frontH ⟨a, b, c⟩ v off = ⟨off, a, b⟩ := by unfold frontH; rw [if_neg h0, if_neg h1]
  rw [hf]
  clear hf
  go_enter Try.func58, Try.ntmps58
  go_wp2
  refine bodyPost_ret (results_cell rfl _ _ _ _ _ rfl (load31 (heap_alloc_2 _ _ _))) rfl ?_
  exact ⟨rfl, ((Touch.refl _ _).alloc _).alloc _⟩
theorem front_walk (h : H3) (v off : Int) (w : World) : Calls Try.prog 59 #[h.val, .int .i64 v, .int .i64 off] w fun e w' => e = .returned (frontH h v off).val ∧ Touch (fun _ => False) w w' := by
  obtain ⟨a, b, c⟩ := h
  unfold H3.val arr3
  by_cases h0 : v = 0
  · subst h0
    go_enter Try.func59, Try.ntmps59
    go_wp2
    refine bodyPost_ret (results_cell rfl _ _ _ _ _ rfl (load31 (heap_alloc_2 _ _ _))) rfl ?_
    exact ⟨rfl, ((Touch.refl _ _).alloc _).alloc _⟩
  have hv0 : (v == 0) = false := by simpa using h0
  by_cases h1 : v = 1
  · subst h1
    go_enter Try.func59, Try.ntmps59
    go_wp2
    refine bodyPost_ret (results_cell rfl _ _ _ _ _ rfl (load31 (heap_alloc_2 _ _ _))) rfl ?_
    exact ⟨rfl, ((Touch.refl _ _).alloc _).alloc _⟩
  have hv1 : (v == 1) = false := by simpa using h1
  have hf : frontH ⟨a, b, c⟩ v off = ⟨off, a, b⟩ := by unfold frontH; rw [if_neg h0, if_neg h1]
  rw [hf]
  clear hf
  go_enter Try.func59, Try.ntmps59
  go_wp2
  refine bodyPost_ret (results_cell rfl _ _ _ _ _ rfl (load31 (heap_alloc_2 _ _ _))) rfl ?_
  exact ⟨rfl, ((Touch.refl _ _).alloc _).alloc _⟩

/-- The first of three that is x. -/
def idxH (h : H3) (x : Int) : Int := if h.a = x then 0 else if h.b = x then 1 else if h.c = x then 2 else -1
theorem index_walk (h : H3) (g : Nat) (x : Int) (w : World) (h0 : w.cell? ⟨g, 0, none⟩ = some (.int .i64 h.a)) (h1 : w.cell? ⟨g, 1, none⟩ = some (.int .i64 h.b)) (h2 : w.cell? ⟨g, 2, none⟩ = some (.int .i64 h.c)) :
    Calls Try.prog 57 #[.slice (some ⟨g, 0, none⟩) 3 3, .int .i64 x] w fun e w' => e = .returned (.int .i64 (idxH h x)) ∧ w = w' := by
  obtain ⟨a, b, c⟩ := h
  unfold idxH
  simp only at h0 h1 h2 ⊢
  go_enter Try.func57, Try.ntmps57
  go_wp2
  go_loop [5, 8] (fun _ i => ∃ k : Nat, k ≤ 3 ∧ i = .int .i64 k ∧ (0 < k → a ≠ x) ∧ (1 < k → b ≠ x) ∧ (2 < k → c ≠ x)) (fun _ i => 3 - (intOf i).toNat)
  case atStart => exact ⟨0, by omega, rfl, fun h => by omega, fun h => by omega, fun h => by omega⟩
  case round =>
    obtain ⟨k, hk, rfl, ha, hb, hc⟩ := hrel
    have hkc : k = 0 ∨ k = 1 ∨ k = 2 ∨ k = 3 := by omega
    rcases hkc with rfl | rfl | rfl | rfl
    · by_cases e : a = x
      · have e' : (x == a) = true := by simp [e]
        go_wp2
        go_ret
        exact ⟨rfl, rfl⟩
      · have e' : (x == a) = false := beq_eq_false_iff_ne.2 (fun h => e h.symm)
        go_wp2
        go_round
        case rel => exact ⟨1, by omega, rfl, fun _ => e, fun h => by omega, fun h => by omega⟩
        case measure => simp [intOf]
    · have na := ha (by omega)
      by_cases e : b = x
      · have e' : (x == b) = true := by simp [e]
        go_wp2
        go_ret
        exact ⟨rfl, rfl⟩
      · have e' : (x == b) = false := beq_eq_false_iff_ne.2 (fun h => e h.symm)
        go_wp2
        go_round
        case rel => exact ⟨2, by omega, rfl, fun _ => na, fun _ => e, fun h => by omega⟩
        case measure => simp [intOf]
    · have na := ha (by omega)
      have nb := hb (by omega)
      by_cases e : c = x
      · have e' : (x == c) = true := by simp [e]
        go_wp2
        go_ret
        exact ⟨rfl, rfl⟩
      · have e' : (x == c) = false := beq_eq_false_iff_ne.2 (fun h => e h.symm)
        go_wp2
        go_round
        case rel => exact ⟨3, by omega, rfl, fun _ => na, fun _ => nb, fun _ => e⟩
        case measure => simp [intOf]
    · have na := ha (by omega)
      have nb := hb (by omega)
      have nc := hc (by omega)
      go_wp2
      go_ret
      exact ⟨rfl, rfl⟩
end Go.Proofs.Ythnhacbagmhfoaa
