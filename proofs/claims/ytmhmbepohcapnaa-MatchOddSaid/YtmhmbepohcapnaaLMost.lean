/- The laws MatchMost and MatchOdd, walked. -/
import Derived.Test.YtmhmbepohcapnaaLBack
namespace Go.Proofs.Ytmhmbepohcapnaa
open Go.RowKit Go.WideShapes
set_option linter.unusedVariables false
set_option linter.unusedSimpArgs false
set_option maxRecDepth 100000

def abZ (i : Nat) : Int := if i = 0 then 97 else 98
/-- One byte, then the same many times, then the other. -/
def mostL (n : Nat) : List Int := List.replicate (n + 1) 97 ++ [98]
theorem copy_one (n : Nat) : ∀ k, copyN [97] 1 k = List.replicate (k + 1) (97 : Int)
  | 0 => rfl
  | k + 1 => by
    rw [copyN, copy_one n k, List.length_replicate, List.replicate_succ' (n := k + 1)]
    congr 2
    simp [List.getD_eq_getElem?_getD]
theorem exp_most (n : Nat) (m : Nat) : expF 0 2 abZ (m : Int) [] 0 [((1 : Int), (1 : Int), (n : Int))] = if n + 2 ≤ m then some (mostL n) else none := by
  have h1 : expF 0 2 abZ (m : Int) (copyN ([] ++ seg abZ 0 1) 1 n) (0 + 1) [] = if n + 2 ≤ m then some (mostL n) else none := by
    have e : copyN ([] ++ seg abZ 0 1) 1 n = List.replicate (n + 1) (97 : Int) := copy_one 0 n
    rw [e, expF, List.length_replicate]
    by_cases h : n + 2 ≤ m
    · rw [if_neg (by omega), if_pos h]; rfl
    · rw [if_pos (by omega), if_neg h]
  rw [expF]
  simp only [List.length_nil]
  by_cases hc : (1 : Int) < 0 ∨ (n : Int) < 0 ∨ ((2 - 0 : Nat) : Int) < 1 ∨ (m : Int) - (((0 : Nat) : Int) - ((0 : Nat) : Int)) < 1 ∨ (m : Int) - (((0 : Nat) : Int) - ((0 : Nat) : Int)) - 1 < n
  · rw [if_pos hc, if_neg (by omega)]
  · rw [if_neg hc, if_neg (by omega)]
    exact h1

theorem recs_one {w : World} {g : Nat} {e : TypeId} {x y z : Int} (h : w.heap[g]? = some (.cells #[.int .i64 x, .int .i64 y, .int .i64 z] e (0, 0))) : Recs w (some ⟨g, 0, none⟩) g 0 [(x, y, z)] := by
  refine ⟨fun _ => rfl, fun j p hj => ?_⟩
  have : j = 0 := by
    have := (List.getElem?_eq_some_iff.1 hj).1
    simp at this; omega
  subst this
  simp only [List.getElem?_cons_zero, Option.some.injEq] at hj
  subst hj
  refine ⟨?_, ?_, ?_⟩ <;> (rw [cell_of_row _ _ _ _ _ _ h]; rfl)

set_option maxHeartbeats 1000000 in
theorem MatchMost_in (w : World) (n m : Nat) (h4 : 4 ≤ n) (hn : n ≤ 500) (hm : m ≤ 600) :
    Calls Try.prog 11 #[.int .i64 n, .int .i64 m] w fun e w' => e = .returned (.bool true) ∧ Below w.heap.size w w' := by
  have q0 : decide ((n : Int) < 4) = false := by simp; omega
  have q1 : decide ((500 : Int) < (n : Int)) = false := by simp; omega
  have q2 : decide ((m : Int) < 0) = false := by simp
  have q3 : decide ((600 : Int) < (m : Int)) = false := by simp; omega
  have hcv := Go.Lib.run_convert_bytes_const (P := Try.prog) w 22 5 #[.int .u8 97, .int .u8 98] 2 2 Try.underlying22 Try.underlying5
  go_enter Try.func11, Try.ntmps11
  go_wp2_with fail
  clear hcv
  have hI : Ints .u8 (w.alloc (.cells #[.int .u8 97, .int .u8 98] 5 (2, 3))) (some ⟨w.heap.size, 0, none⟩) w.heap.size 0 2 abZ := ⟨fun _ => rfl, fun i hi => by
    rw [cell_of_row _ _ _ _ _ _ (heap_alloc_new w _)]
    have : i = 0 ∨ i = 1 := by omega
    rcases this with rfl | rfl <;> rfl⟩
  have he := exp_walk ((w.alloc (.cells #[.int .u8 97, .int .u8 98] 5 (2, 3))).alloc (.cells #[.int .i64 1, .int .i64 1, .int .i64 n] 29)) none 0 0 0 0 (fun _ => 0) ⟨fun h => by omega, fun i hi => by omega⟩ (by omega)
    (some ⟨w.heap.size, 0, none⟩) w.heap.size 0 2 2 abZ (hI.touch (Touch.new _ _)) (by omega) (by omega) (some ⟨w.heap.size + 1, 0, none⟩) (w.heap.size + 1) 0 1 [((1 : Int), (1 : Int), (n : Int))] (recs_one (heap_alloc_2 w _ _)) (by simp) m (by omega) (by omega)
  rw [show seg (fun _ => (0 : Int)) 0 0 = [] from rfl, exp_most n m] at he
  have HE := Lib.hid he
  clear he hI
  by_cases hb : n + 2 ≤ m
  · have hb1 : decide ((n : Int) + 2 ≤ (m : Int)) = true := by simp; omega
    have HE2 := HE.out
    rw [if_pos hb] at HE2
    clear HE
    refine HE2.mono ?_
    rintro e w3 ⟨x, rfl, hx, t3⟩
    clear HE2
    have T3 := Lib.hid (((Touch.new w _).trans (Touch.new _ _)).trans t3)
    obtain ⟨qa, qb, qc, rfl, hq⟩ := exp_ints hx
    have hl : (mostL n).length = n + 2 := by simp [mostL]
    rw [hl, Nat.sub_zero] at hq ⊢
    obtain rfl := hq.at_ (by omega)
    have g0 : w3.cell? ⟨qb, 0, none⟩ = some (.int .u8 97) := by
      rw [show (0 : Nat) = 0 + 0 from rfl, hq.cell 0 (by omega)]; rfl
    have g1 : w3.cell? ⟨qb, n, none⟩ = some (.int .u8 97) := by
      have h := hq.cell n (by omega)
      rw [Nat.zero_add] at h
      rw [h]
      simp [mostL, List.getD_eq_getElem?_getD, List.getElem?_append_left, List.getElem?_replicate]
    have g2 : w3.cell? ⟨qb, n + 1, none⟩ = some (.int .u8 98) := by
      have h := hq.cell (n + 1) (by omega)
      rw [Nat.zero_add] at h
      rw [h]
      simp [mostL, List.getD_eq_getElem?_getD]
    clear hx hq t3 hl
    go_wp2_with fail
    refine (known_walk _).mono ?_
    rintro e w6 ⟨rfl, t6⟩
    go_wp2_with fail
    go_ret
    exact ⟨rfl, (T3.out.trans t6).owned⟩
  · have hb1 : decide ((n : Int) + 2 ≤ (m : Int)) = false := by simp; omega
    have HE2 := HE.out
    rw [if_neg hb] at HE2
    clear HE
    refine HE2.mono ?_
    rintro e w3 ⟨rfl, t3⟩
    clear HE2
    have T3 := Lib.hid (((Touch.new w _).trans (Touch.new _ _)).trans t3)
    clear t3
    go_wp2_with fail
    refine (known_walk _).mono ?_
    rintro e w6 ⟨rfl, t6⟩
    go_wp2_with fail
    go_ret
    exact ⟨rfl, (T3.out.trans t6).owned⟩
theorem MatchMost_law (w : World) (a0 : Int) (w0 : (Lit.int .i64 a0).wf = true) (a1 : Int) (w1 : (Lit.int .i64 a1).wf = true) :
    Calls Try.prog 11 #[.int .i64 a0, .int .i64 a1] w fun e w' => e = .returned (.bool true) ∧ Below w.heap.size w w' := by
  clear w0 w1
  have hc : a0 < 4 ∨ (4 ≤ a0 ∧ 500 < a0) ∨ (4 ≤ a0 ∧ a0 ≤ 500 ∧ a1 < 0) ∨ (4 ≤ a0 ∧ a0 ≤ 500 ∧ 0 ≤ a1 ∧ 600 < a1) ∨ (∃ n d : Nat, a0 = n ∧ a1 = d ∧ 4 ≤ n ∧ n ≤ 500 ∧ d ≤ 600) := by
    by_cases h1 : a0 < 4
    · exact .inl h1
    by_cases h2 : 500 < a0
    · exact .inr (.inl ⟨by omega, h2⟩)
    by_cases h3 : a1 < 0
    · exact .inr (.inr (.inl ⟨by omega, by omega, h3⟩))
    by_cases h4 : 600 < a1
    · exact .inr (.inr (.inr (.inl ⟨by omega, by omega, by omega, h4⟩)))
    · exact .inr (.inr (.inr (.inr ⟨a0.toNat, a1.toNat, by omega, by omega, by omega, by omega, by omega⟩)))
  rcases hc with h | ⟨h, h'⟩ | ⟨h, h', h1⟩ | ⟨h, h', h1, h2⟩ | ⟨n, d, rfl, rfl, h, h1, h2⟩
  rotate_left 4
  · exact MatchMost_in w n d h h1 h2
  all_goals
    go_enter Try.func11, Try.ntmps11
    go_wp2_with fail
    go_ret
    exact ⟨rfl, Below.refl _ _⟩

/-- MatchOdd's steps. -/
def oddL : List (Int × Int × Int) := [(1, 1, 2), (-1, 1, 2), (1, 0, 2), (1, 4, 2), (3, 1, 2), (1, 1, -1), (1, 1, 8)]
def cdZ (i : Nat) : Int := if i = 0 then 99 else 100
theorem exp_odd (k : Nat) (q : Int × Int × Int) (h : oddL[k]? = some q) : expF 2 2 cdZ 9 (seg abZ 0 2) 0 [q] = if k = 0 then some [97, 98, 99, 99, 99, 100] else none := by
  have hk : k < 7 := by
    have := (List.getElem?_eq_some_iff.1 h).1
    simpa [oddL] using this
  have : k = 0 ∨ k = 1 ∨ k = 2 ∨ k = 3 ∨ k = 4 ∨ k = 5 ∨ k = 6 := by omega
  rcases this with rfl | rfl | rfl | rfl | rfl | rfl | rfl <;> (simp only [oddL, List.getElem?_cons_zero, List.getElem?_cons_succ, Option.some.injEq] at h; subst h; decide +kernel)

theorem conv_const_at (w : World) (C : Array Value) (n c g : Nat) (hg : g = w.heap.size) :
    (convert 22 22 (.slice (some ⟨g, 0, none⟩) n c)).run Try.prog (w.alloc (.cells C 5)) = .ok (.slice (some ⟨g, 0, none⟩) n c) (w.alloc (.cells C 5 (C.size, C.size + 1))) := by
  subst hg; exact Go.Lib.run_convert_bytes_const w 22 5 C n c Try.underlying22 Try.underlying5
def oddC : Array Value := #[.int .i64 1, .int .i64 1, .int .i64 2, .int .i64 (-1), .int .i64 1, .int .i64 2, .int .i64 1, .int .i64 0, .int .i64 2, .int .i64 1, .int .i64 4, .int .i64 2, .int .i64 3, .int .i64 1, .int .i64 2, .int .i64 1, .int .i64 1, .int .i64 (-1), .int .i64 1, .int .i64 1, .int .i64 8]
theorem recs_odd {w : World} {g k : Nat} (hk : k < 7) (h : w.heap[g]? = some (.cells oddC 29 (0, 0))) : ∃ q, oddL[k]? = some q ∧ Recs w (some ⟨g, k * 3, none⟩) g (k * 3) [q] := by
  have hq : ∃ q : Int × Int × Int, oddL[k]? = some q ∧ oddC[k * 3]? = some (.int .i64 q.1) ∧ oddC[k * 3 + 1]? = some (.int .i64 q.2.1) ∧ oddC[k * 3 + 2]? = some (.int .i64 q.2.2) := by
    have : k = 0 ∨ k = 1 ∨ k = 2 ∨ k = 3 ∨ k = 4 ∨ k = 5 ∨ k = 6 := by omega
    rcases this with rfl | rfl | rfl | rfl | rfl | rfl | rfl <;> exact ⟨_, rfl, rfl, rfl, rfl⟩
  obtain ⟨q, h0, h1, h2, h3⟩ := hq
  refine ⟨q, h0, fun _ => rfl, fun j p hj => ?_⟩
  have : j = 0 := by
    have := (List.getElem?_eq_some_iff.1 hj).1
    simp at this; omega
  subst this
  simp only [List.getElem?_cons_zero, Option.some.injEq] at hj
  subst hj
  refine ⟨?_, ?_, ?_⟩ <;> (rw [cell_of_row _ _ _ _ _ _ h]; assumption)

set_option maxHeartbeats 1000000 in
theorem MatchOdd_in (w : World) (k : Nat) (hk : k < 7) :
    Calls Try.prog 10 #[.int .i64 k] w fun e w' => e = .returned (.bool true) ∧ Below w.heap.size w w' := by
  have hcv1 := conv_const_at (w.alloc (.cells oddC 29)) #[.int .u8 97, .int .u8 98] 2 2 (w.heap.size + 1) (by simp)
  have hcv2 := conv_const_at ((w.alloc (.cells oddC 29)).alloc (.cells #[.int .u8 97, .int .u8 98] 5 (2, 3))) #[.int .u8 99, .int .u8 100] 2 2 (w.heap.size + 2) (by simp)
  obtain ⟨q, hq, hqr⟩ := recs_odd (k := k) hk (heap_alloc_new w (.cells oddC 29))
  unfold oddC at hcv1 hcv2
  have HQ := Lib.hid hq
  have HQR := Lib.hid hqr
  have q00 : decide ((k : Int) < 0) = false := by simp
  have q0 : decide ((7 : Int) ≤ (k : Int)) = false := by simp; omega
  have f1 : (k : Int) + 1 ≤ 7 := by omega
  have f2 : ((k : Int) + 1).toNat = k + 1 := by omega
  have f3 : ¬ 7 = k := by omega
  clear hq hqr
  go_enter Try.func10, Try.ntmps10
  go_wp2_with fail
  clear hcv1 hcv2
  have t1 : Touch (fun _ => False) (w.alloc (.cells oddC 29)) ((w.alloc (.cells oddC 29)).alloc (.cells #[.int .u8 97, .int .u8 98] 5 (2, 3))) := Touch.new _ _
  have t2 : Touch (fun _ => False) ((w.alloc (.cells oddC 29)).alloc (.cells #[.int .u8 97, .int .u8 98] 5 (2, 3))) (((w.alloc (.cells oddC 29)).alloc (.cells #[.int .u8 97, .int .u8 98] 5 (2, 3))).alloc (.cells #[.int .u8 99, .int .u8 100] 5 (2, 3))) := Touch.new _ _
  have hI : Ints .u8 ((w.alloc (.cells oddC 29)).alloc (.cells #[.int .u8 97, .int .u8 98] 5 (2, 3))) (some ⟨w.heap.size + 1, 0, none⟩) (w.heap.size + 1) 0 2 abZ := ⟨fun _ => rfl, fun i hi => by
    rw [cell_of_row _ _ _ _ _ _ (heap_alloc_2 w _ _)]
    have : i = 0 ∨ i = 1 := by omega
    rcases this with rfl | rfl <;> rfl⟩
  have hJ : Ints .u8 (((w.alloc (.cells oddC 29)).alloc (.cells #[.int .u8 97, .int .u8 98] 5 (2, 3))).alloc (.cells #[.int .u8 99, .int .u8 100] 5 (2, 3))) (some ⟨w.heap.size + 2, 0, none⟩) (w.heap.size + 2) 0 2 cdZ := ⟨fun _ => rfl, fun i hi => by
    have hh := heap_alloc_2 (w.alloc (.cells oddC 29)) (.cells #[.int .u8 97, .int .u8 98] 5 (2, 3)) (.cells #[.int .u8 99, .int .u8 100] 5 (2, 3))
    rw [World.size_alloc] at hh
    rw [cell_of_row _ _ _ _ _ _ hh]
    have : i = 0 ∨ i = 1 := by omega
    rcases this with rfl | rfl <;> rfl⟩
  have he := exp_walk _ (some ⟨w.heap.size + 1, 0, none⟩) (w.heap.size + 1) 0 2 2 abZ (hI.touch t2) (by omega) (some ⟨w.heap.size + 2, 0, none⟩) (w.heap.size + 2) 0 2 2 cdZ hJ (by omega) (by omega)
    (some ⟨w.heap.size, k * 3, none⟩) w.heap.size (k * 3) (7 - k) [q] ((HQR.out.touch t1).touch t2) (by simp) 9 (by omega) (by omega)
  rw [exp_odd k q HQ.out] at he
  have TT := Lib.hid (((Touch.new w (.cells oddC 29)).trans t1).trans t2)
  have HE := Lib.hid he
  clear he hI hJ t1 t2
  by_cases h0 : k = 0
  · have g0 : ((k : Int) == 0) = true := by simp; omega
    have HE2 := HE.out
    rw [if_pos h0] at HE2
    clear HE
    refine HE2.mono ?_
    rintro e w3 ⟨x, rfl, hx, t3⟩
    clear HE2 h0
    have T3 := Lib.hid (TT.out.trans t3)
    obtain ⟨qa, qb, qc, rfl, hqi⟩ := exp_ints hx
    have cv := fun c => conv_ints hqi c
    have hs : strOfNums (seg (fun i => ([97, 98, 99, 99, 99, 100] : List Int).getD (2 + i) 0) 0 (([97, 98, 99, 99, 99, 100] : List Int).length - 2)) = ⟨#[99, 99, 99, 100]⟩ := by
      rw [show seg (fun i => ([97, 98, 99, 99, 99, 100] : List Int).getD (2 + i) 0) 0 (([97, 98, 99, 99, 99, 100] : List Int).length - 2) = [99, 99, 99, 100] by decide +kernel]
      rfl
    rw [hs] at cv
    have hl : ([97, 98, 99, 99, 99, 100] : List Int).length - 2 = 4 := rfl
    rw [hl] at cv ⊢
    clear hx hqi t3 hs hl
    go_wp2_with fail
    clear cv
    refine (known_walk _).mono ?_
    rintro e w6 ⟨rfl, t6⟩
    go_wp2_with fail
    go_ret
    exact ⟨rfl, (T3.out.trans t6).owned⟩
  · have g0 : ((k : Int) == 0) = false := by simp; omega
    have HE2 := HE.out
    rw [if_neg h0] at HE2
    clear HE
    refine HE2.mono ?_
    rintro e w3 ⟨rfl, t3⟩
    clear HE2 h0
    have T3 := Lib.hid (TT.out.trans t3)
    clear t3
    go_wp2_with fail
    refine (known_walk _).mono ?_
    rintro e w6 ⟨rfl, t6⟩
    go_wp2_with fail
    go_ret
    exact ⟨rfl, (T3.out.trans t6).owned⟩
theorem MatchOdd_law (w : World) (a0 : Int) (w0 : (Lit.int .i64 a0).wf = true) :
    Calls Try.prog 10 #[.int .i64 a0] w fun e w' => e = .returned (.bool true) ∧ Below w.heap.size w w' := by
  clear w0
  have hc : a0 < 0 ∨ (0 ≤ a0 ∧ 7 ≤ a0) ∨ (∃ k : Nat, a0 = k ∧ k < 7) := by
    by_cases h1 : a0 < 0
    · exact .inl h1
    by_cases h2 : 7 ≤ a0
    · exact .inr (.inl ⟨by omega, h2⟩)
    · exact .inr (.inr ⟨a0.toNat, by omega, by omega⟩)
  rcases hc with h | ⟨h, h'⟩ | ⟨k, rfl, h⟩
  rotate_left 2
  · exact MatchOdd_in w k h
  all_goals
    go_enter Try.func10, Try.ntmps10
    go_wp2_with fail
    go_ret
    exact ⟨rfl, (Touch.new w _).owned⟩
end Go.Proofs.Ytmhmbepohcapnaa
