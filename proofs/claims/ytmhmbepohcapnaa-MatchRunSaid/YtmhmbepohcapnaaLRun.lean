/- The law MatchRun, walked. -/
import Derived.Test.YtmhmbepohcapnaaKB
namespace Go.Proofs.Ytmhmbepohcapnaa
open Go.RowKit Go.WideShapes
set_option linter.unusedVariables false
set_option maxRecDepth 100000

theorem make_bytes (n : Nat) (x : Int) (hx : x = n) (hn : n ≤ 1000000) (w : World) : (Instr.makeSlice 22 (.int .i64 x) (.int .i64 x)).run Try.prog w = .ok (.slice (some ⟨w.heap.size, 0, none⟩) n n) (w.alloc (.cells (tab n (fun _ => .int .u8 0)) 5)) := by
  obtain ⟨i0, hi, hz0, hz1, hz2⟩ := info_parts Try.info5
  subst hx
  have := run_make (P := Try.prog) w 22 5 i0 (.int .u8 0) Try.underlying22 hi hz0 .i64 .i64 n n (by omega) (by omega) (by rw [hz2]; omega) (by omega)
  rw [this, hz1, ← tab_made]
  simp [Value.cells]

theorem MatchRun_in (w : World) (c : Int) (n depth : Nat) (hn : n ≤ 400) (hd0 : 1 ≤ depth) (hd1 : depth ≤ 32) :
    Calls Try.prog 5 #[.int .u8 c, .int .i64 n, .int .i64 depth] w fun e w' => e = .returned (.bool true) ∧ Below w.heap.size w w' := by
  have q0 : decide ((n : Int) < 0) = false := by simp
  have q1 : decide ((400 : Int) < (n : Int)) = false := by simp; omega
  have q2 : decide ((depth : Int) < 1) = false := by simp; omega
  have q3 : decide ((32 : Int) < (depth : Int)) = false := by simp; omega
  have hmk := fun w => make_bytes n n rfl (by omega) w
  go_enter Try.func5, Try.ntmps5
  go_wp2_with fail
  clear hmk
  go_loopw [8] (fun i wr => ∃ k : Nat, k ≤ n ∧ i = .int .i64 k ∧ wr.heap[w.heap.size]? = some (.cells (tab n (fun p => .int .u8 (if p < k then c else 0))) 5 (0, 0)) ∧ Touch (fun _ => False) w wr) (fun i _ => n - (intOf i).toNat)
  case atStart => exact ⟨0, by omega, rfl, heap_alloc_new w _, Touch.new w _⟩
  case round =>
    obtain ⟨k, hk, rfl, hh, ht⟩ := hrel
    have Hh := Lib.hid hh
    by_cases hlt : k < n
    · have hcur := tab_cell Hh.out hlt
      have hfree := tab_free Hh.out k
      clear hh
      go_wp2_with fail
      go_roundw
      case rel =>
        refine ⟨k + 1, by omega, by go_num, ?_, ht.setCell (fun h => by simp at h) _⟩
        refine Eq.trans (tab_store Hh.out k (.int .u8 c)) ?_
        congr 2
        apply tab_congr
        intro p _
        by_cases e : p = k
        · subst e; simp
        · by_cases h1 : p < k
          · simp [e, h1, Nat.lt_succ_of_lt h1]
          · simp [e, h1]; omega
      case measure => simp [intOf]; omega
    · obtain rfl : k = n := by omega
      have hI : Ints .u8 wr (some ⟨w.heap.size, 0, none⟩) w.heap.size 0 k (fun p => if p < k then c else 0) := ⟨fun _ => rfl, fun i hi => by rw [Nat.zero_add]; exact tab_cell hh hi⟩
      have hp := parse_walk wr none 0 0 0 0 (fun _ => 0) _ _ 0 k k _ ⟨fun h => by omega, fun i hi => by omega⟩ hI depth (by omega) (by omega) (by omega) (by omega)
      have hz : ∀ i, i < k → two 0 (fun _ => 0) (fun p => if p < k then c else 0) i = c := fun i hi => by
        unfold two; rw [if_neg (by omega)]; simp [hi]
      rw [Nat.zero_add] at hp
      clear hh hI Hh
      by_cases h5 : k < 5
      · rw [run_short _ k depth h5] at hp
        have HP := Lib.hid hp
        clear hp hz
        go_wp2_with fail
        refine HP.out.mono ?_
        rintro e w2 ⟨v, rfl, hs⟩
        have T2 := Lib.hid (ht.trans hs.touch)
        obtain ⟨a, b, q, rfl, hr⟩ := recs_row hs.row
        clear hs hr HP
        go_wp2_with fail
        refine (known_walk _).mono ?_
        rintro e w5 ⟨rfl, ht5⟩
        go_wp2_with fail
        go_ret
        exact ⟨rfl, (T2.out.trans ht5).owned⟩
      · rw [run_long _ k depth c hz (by omega) hd0] at hp
        have f1 : IntKind.i64.wrap ((k : Int) - 1) = ((k - 1 : Nat) : Int) := by rw [IntWalk.i64_in _ (by omega)]; omega
        have f1' : (k : Int) - 1 = ((k - 1 : Nat) : Int) := by omega
        have F1 := Lib.hid f1'
        have HP := Lib.hid hp
        clear hp hz f1 f1'
        go_wp2_with fail
        refine HP.out.mono ?_
        rintro e w2 ⟨v, rfl, hs⟩
        have T2 := Lib.hid (ht.trans hs.touch)
        obtain ⟨a, b, q, rfl, hr⟩ := recs_row hs.row
        have R := Lib.hid hr
        clear hs hr HP
        go_wp2_with fail
        refine (same_yes a b 0 q (some ⟨w2.heap.size, 0, none⟩) w2.heap.size 0 1 [(1, 1, ((k - 1 : Nat) : Int))] _ (R.out.touch (Touch.new w2 _)) ⟨fun _ => rfl, fun j p hj => ?_⟩ (by simp)).mono ?_
        · have : j = 0 := by
            have := (List.getElem?_eq_some_iff.1 hj).1
            simp at this; omega
          subst this
          simp only [List.getElem?_cons_zero, Option.some.injEq] at hj
          subst hj
          have hh := heap_alloc_new w2 (.cells #[.int .i64 1, .int .i64 1, .int .i64 ((k : Int) - 1)] 29)
          refine ⟨?_, ?_, ?_⟩ <;> (rw [cell_of_row _ _ _ _ _ _ hh]; first | rfl | (simp; exact F1.out))
        rintro e w3 ⟨rfl, m, rfl⟩
        go_wp2_with fail
        refine (known_walk _).mono ?_
        rintro e w5 ⟨rfl, ht5⟩
        go_wp2_with fail
        go_ret
        exact ⟨rfl, (((T2.out.trans (Touch.new w2 _)).drewN m).trans ht5).owned⟩

theorem MatchRun_law (w : World) (a0 : Int) (w0 : (Lit.int .u8 a0).wf = true) (a1 : Int) (w1 : (Lit.int .i64 a1).wf = true) (a2 : Int) (w2 : (Lit.int .i64 a2).wf = true) :
    Calls Try.prog 5 #[.int .u8 a0, .int .i64 a1, .int .i64 a2] w fun e w' => e = .returned (.bool true) ∧ Below w.heap.size w w' := by
  clear w0 w1 w2
  have hc : a1 < 0 ∨ (0 ≤ a1 ∧ 400 < a1) ∨ (0 ≤ a1 ∧ a1 ≤ 400 ∧ a2 < 1) ∨ (0 ≤ a1 ∧ a1 ≤ 400 ∧ 1 ≤ a2 ∧ 32 < a2) ∨ (∃ n d : Nat, a1 = n ∧ a2 = d ∧ n ≤ 400 ∧ 1 ≤ d ∧ d ≤ 32) := by
    by_cases h1 : a1 < 0
    · exact .inl h1
    by_cases h2 : 400 < a1
    · exact .inr (.inl ⟨by omega, h2⟩)
    by_cases h3 : a2 < 1
    · exact .inr (.inr (.inl ⟨by omega, by omega, h3⟩))
    by_cases h4 : 32 < a2
    · exact .inr (.inr (.inr (.inl ⟨by omega, by omega, by omega, h4⟩)))
    · exact .inr (.inr (.inr (.inr ⟨a1.toNat, a2.toNat, by omega, by omega, by omega, by omega, by omega⟩)))
  rcases hc with h | ⟨h, h'⟩ | ⟨h, h', h1⟩ | ⟨h, h', h1, h2⟩ | ⟨n, d, rfl, rfl, h, h1, h2⟩
  rotate_left 4
  · exact MatchRun_in w a0 n d h h1 h2
  all_goals
    go_enter Try.func5, Try.ntmps5
    go_wp2_with fail
    go_ret
    exact ⟨rfl, Below.refl _ _⟩
end Go.Proofs.Ytmhmbepohcapnaa
