/- hash: the law of lengths. -/
import Derived.Test.YtdhfepalphpabaaHE
namespace Go.Proofs.Ytdhfepalphpabaa
open Go.RowKit Go.WideShapes
set_option linter.unusedVariables false
set_option linter.unusedSimpArgs false
set_option maxRecDepth 100000

theorem make_bytes (n : Nat) (hn : n ≤ 1000000) (w : World) : (Instr.makeSlice 23 (.int .i64 n) (.int .i64 n)).run Try.prog w = .ok (.slice (some ⟨w.heap.size, 0, none⟩) n n) (w.alloc (.cells (tab n (fun _ => .int .u8 0)) 5)) := by
  obtain ⟨i0, hi, hz0, hz1, hz2⟩ := info_parts Try.info5
  have := run_make (P := Try.prog) w 23 5 i0 (.int .u8 0) Try.underlying23 hi hz0 .i64 .i64 n n (by omega) (by omega) (by rw [hz2]; omega) (by omega)
  rw [this, hz1, ← tab_made]
  simp [Value.cells]
/-- The i-th byte. -/
def longY (c i : Nat) : Nat := (c + i * 7) % 256

set_option maxHeartbeats 1000000 in
theorem HashLong_in (w : World) (n : Nat) (hn : n ≤ 20) (c : Nat) (hc : c < 256) (seed : Int) :
    Calls Try.prog 5 #[.int .i64 n, .int .u8 c, .int .u64 seed] w fun e w' => e = .returned (.bool true) ∧ Below w.heap.size w w' := by
  have q0 : decide ((n : Int) < 0) = false := by simp
  have q1 : decide ((20 : Int) < (n : Int)) = false := by simp; omega
  go_enter Try.func5, Try.ntmps5
  go_wp2_with fail
  go_loopw [7, 8, 9] (fun v _ _ wr => ∃ k : Nat, ∃ kk : Int, k ≤ 32 ∧ kk = 32 * (n : Int) + k ∧ v = .int .i64 kk ∧ Touch (fun _ => False) w wr) (fun v _ _ _ => (32 * (n : Int) + 32 - intOf v).toNat)
  case atStart => exact ⟨0, _, by omega, by omega, rfl, Touch.refl _ _⟩
  case round =>
    obtain ⟨k, kk, hk, hkk, rfl, ht⟩ := hrel
    by_cases hlt : k < 32
    · obtain ⟨m, rfl⟩ : ∃ m : Nat, kk = m := ⟨32 * n + k, by omega⟩
      have hm : m ≤ 700 := by omega
      have hmm : (m : Int) < 32 * (n : Int) + 32 := by omega
      have hmk := fun w => make_bytes m (by omega) w
      obtain ⟨S, hS⟩ : ∃ S, sumV (longY c) m seed = S := ⟨_, rfl⟩
      have HS := Lib.hid hS
      have HK := Lib.hid hkk
      clear hS hkk
      go_wp2_with fail
      clear hmk
      obtain ⟨g, hg⟩ : ∃ g, wr.heap.size = g := ⟨_, rfl⟩
      have hsz := ht.size
      have HH0 := Lib.hid (show (wr.alloc (.cells (tab m (fun _ => .int .u8 0)) 5)).heap[g]? = some (.cells (tab m (fun _ => .int .u8 0)) 5 (0, 0)) from by rw [← hg]; exact heap_alloc_new wr _)
      have HT0 := Lib.hid (ht.alloc (.cells (tab m (fun _ => .int .u8 0)) 5))
      have hgw : w.heap.size ≤ g := by omega
      rw [hg]
      clear hg
      go_loopw [9] (fun i w2 => ∃ j : Nat, j ≤ m ∧ i = .int .i64 j ∧ w2.heap[g]? = some (.cells (tab m (fun p => .int .u8 (if p < j then (longY c p : Nat) else 0))) 5 (0, 0)) ∧ Touch (fun _ => False) w w2) (fun i _ => m - (intOf i).toNat)
      case atStart => exact ⟨0, by omega, rfl, HH0.out, HT0.out⟩
      case round =>
        obtain ⟨j, hj, rfl, hh, ht2⟩ := hrel
        have Hh := Lib.hid hh
        by_cases hjm : j < m
        · have hcur := tab_cell Hh.out hjm
          have hfree := tab_free Hh.out j
          have hv : IntKind.u8.wrap ((c : Int) + (j : Int) * 7 % 256) = (longY c j : Nat) := by rw [IntKind.wrap_u8]; unfold longY; omega
          clear hh
          go_wp2_with fail
          go_roundw
          case rel =>
            refine ⟨j + 1, by omega, by go_num, ?_, ht2.setCell (fun h => by have h' : g < w.heap.size := h; omega) _⟩
            refine Eq.trans (tab_store Hh.out j _) ?_
            congr 2
            apply tab_congr
            intro p _
            by_cases e : p = j
            · subst e; simp
            · by_cases h1 : p < j
              · simp [e, h1, Nat.lt_succ_of_lt h1]
              · simp [e, h1]; omega
          case measure => simp [intOf]; omega
        · obtain rfl : j = m := by omega
          have hI : Ints .u8 wr (some ⟨g, 0, none⟩) g 0 j (nat8 (longY c)) := ⟨fun _ => rfl, fun i hi => by
            rw [Nat.zero_add, tab_cell hh hi]
            simp [hi, nat8]⟩
          have HI := Lib.hid hI
          have hy : ∀ i, longY c i < 256 := fun i => Nat.mod_lt _ (by omega)
          have HY := Lib.hid hy
          clear hh hI Hh hy
          go_wp2_with fail
          refine (sum_one seed wr _ _ g 0 j j wr.heap.size _ (longY c) HY.out HI.out (Touch.new wr _) (heap_alloc_new wr _) (by omega)).mono ?_
          rintro e w3 ⟨rfl, t3⟩
          have T3 := Lib.hid ((Touch.new wr _).trans t3)
          rw [HS.out]
          clear t3
          go_wp2_with fail
          refine (rsum_walk seed w3 _ g 0 j j (longY c) HY.out (HI.out.touch T3.out) (by omega) (Nat.le_refl _)).mono ?_
          rintro e w4 ⟨rfl, t4⟩
          have T4 := Lib.hid (T3.out.trans t4)
          rw [HS.out]
          clear t4
          go_wp2_with fail
          go_roundw
          case rel => exact ⟨k + 1, _, by omega, by have := HK.out; omega, rfl, ht2.trans T4.out⟩
          case measure => simp [intOf]; omega
    · have hmm : ¬ kk < 32 * (n : Int) + 32 := by omega
      clear hkk
      go_wp2_with fail
      refine (known_walk _).mono ?_
      rintro e w6 ⟨rfl, t6⟩
      go_wp2_with fail
      go_ret
      exact ⟨rfl, (ht.trans t6).owned⟩
theorem HashLong_law (w : World) (a0 : Int) (w0 : (Lit.int .i64 a0).wf = true) (a1 : Int) (w1 : (Lit.int .u8 a1).wf = true) (a2 : Int) (w2 : (Lit.int .u64 a2).wf = true) :
    Calls Try.prog 5 #[.int .i64 a0, .int .u8 a1, .int .u64 a2] w fun e w' => e = .returned (.bool true) ∧ Below w.heap.size w w' := by
  have hb := u8_wf w1
  have hc : a0 < 0 ∨ (0 ≤ a0 ∧ 20 < a0) ∨ (∃ n : Nat, a0 = n ∧ n ≤ 20) := by
    by_cases h1 : a0 < 0
    · exact .inl h1
    by_cases h2 : 20 < a0
    · exact .inr (.inl ⟨by omega, h2⟩)
    · exact .inr (.inr ⟨a0.toNat, by omega, by omega⟩)
  obtain ⟨c, rfl⟩ : ∃ c : Nat, a1 = c := ⟨a1.toNat, by omega⟩
  rcases hc with h | ⟨h, h'⟩ | ⟨n, rfl, h⟩
  rotate_left 2
  · exact HashLong_in w n h c (by omega) a2
  all_goals
    clear w0 w1 w2
    go_enter Try.func5, Try.ntmps5
    go_wp2_with fail
    go_ret
    exact ⟨rfl, Below.refl _ _⟩
end Go.Proofs.Ytdhfepalphpabaa
