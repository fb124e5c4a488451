/- match: Same; known. -/
import Derived.Test.YtmhmbepohcapnaaG
import Derived.Lib.SlBytesConst
namespace Go.Proofs.Ytmhmbepohcapnaa
open Go.RowKit Go.WideShapes
set_option linter.unusedVariables false
set_option maxRecDepth 100000

theorem eq29 (a b c a' b' c' : Int) (w : World) : (Op.equalIn 10000 29 (.agg #[.int .i64 a, .int .i64 b, .int .i64 c]) (.agg #[.int .i64 a', .int .i64 b', .int .i64 c'])).run Try.prog w = .ok (a == a' && (b == b' && c == c')) w := by
  have u3 := Try.underlying3
  have a3 := Try.isAgg3
  have z3 := Try.sizeOf3
  have hS : Try.prog.underlying 29 = some (.struct (Try.prog.fieldsOf 29)) := by kernel_rfl
  have hp : Try.prog.stoodInHeld 29 = false := by kernel_rfl
  rw [show (10000 : Nat) = 9999 + 1 from rfl, run_equalIn_agg w 9999 29 _ _ hS hp]
  simp only [Program.fieldsOf, Try.underlying29]
  go_simp
  by_cases h1 : a = a' <;> by_cases h2 : b = b' <;> by_cases h3 : c = c' <;> simp [h1, h2, h3]

theorem same_yes (a1 : Option Addr) (b1 o1 c1 : Nat) (a2 : Option Addr) (b2 o2 c2 : Nat) (ps : List (Int × Int × Int)) (w : World) (h1 : Recs w a1 b1 o1 ps) (h2 : Recs w a2 b2 o2 ps) (hn : ps.length ≤ 1000000) :
    Calls Try.prog 14 #[.slice a1 ps.length c1, .slice a2 ps.length c2] w fun e w' => e = .returned (.bool true) ∧ ∃ m, w' = w.drewN m := by
  obtain ⟨n, hl⟩ : ∃ n, ps.length = n := ⟨_, rfl⟩
  have H1 := Lib.hid h1
  have H2 := Lib.hid h2
  rw [hl] at hn ⊢
  have Hl := Lib.hid hl
  clear h1 h2 hl
  go_enter Try.func14, Try.ntmps14
  go_wp2_with fail
  go_loopw [5] (fun i wr => ∃ k m : Nat, k ≤ n ∧ i = .int .i64 k ∧ wr = w.drewN m) (fun i _ => n - (intOf i).toNat)
  case atStart => exact ⟨0, 0, by omega, rfl, rfl⟩
  case round =>
    obtain ⟨k, m, hk, rfl, rfl⟩ := hrel
    by_cases hlt : k < n
    · obtain rfl := H1.out.at_ (by rw [Hl.out]; omega)
      obtain rfl := H2.out.at_ (by rw [Hl.out]; omega)
      obtain ⟨p, hp⟩ : ∃ p, ps[k]? = some p := ⟨ps[k]'(by rw [Hl.out]; exact hlt), by simp⟩
      obtain ⟨x, y, q⟩ := p
      obtain ⟨k1, k2, k3⟩ := H1.out.cell k _ hp
      obtain ⟨q1, q2, q3⟩ := H2.out.cell k _ hp
      have e1 : ∀ m, (w.drewN m).cell? ⟨b1, o1 + k * 3, none⟩ = some (.int .i64 x) := fun m => (Touch.eq_drewN (S := fun _ => False) w m).cell k1 id
      have e2 : ∀ m, (w.drewN m).cell? ⟨b1, o1 + k * 3 + 1, none⟩ = some (.int .i64 y) := fun m => (Touch.eq_drewN (S := fun _ => False) w m).cell k2 id
      have e3 : ∀ m, (w.drewN m).cell? ⟨b1, o1 + k * 3 + 2, none⟩ = some (.int .i64 q) := fun m => (Touch.eq_drewN (S := fun _ => False) w m).cell k3 id
      have g1 : ∀ m, (w.drewN m).cell? ⟨b2, o2 + k * 3, none⟩ = some (.int .i64 x) := fun m => (Touch.eq_drewN (S := fun _ => False) w m).cell q1 id
      have g2 : ∀ m, (w.drewN m).cell? ⟨b2, o2 + k * 3 + 1, none⟩ = some (.int .i64 y) := fun m => (Touch.eq_drewN (S := fun _ => False) w m).cell q2 id
      have g3 : ∀ m, (w.drewN m).cell? ⟨b2, o2 + k * 3 + 2, none⟩ = some (.int .i64 q) := fun m => (Touch.eq_drewN (S := fun _ => False) w m).cell q3 id
      have eqS := fun w => eq29 x y q x y q w
      simp only [beq_self_eq_true, Bool.and_true] at eqS
      clear k1 k2 k3 q1 q2 q3 hp
      go_wp2_with fail
      go_quiet (fail)
      go_wp2_with fail
      go_roundw
      case rel => exact ⟨k + 1, _, by omega, by go_num, rfl⟩
      case measure => simp [intOf]; omega
    · obtain rfl : k = n := by omega
      go_wp2_with fail
      go_ret
      exact ⟨rfl, m, rfl⟩

def abcZ (i : Nat) : Int := [97, 98, 99, 97, 98, 99, 97, 98, 99].getD i 0
theorem abc_parse : parse (two 0 (fun _ => 0) abcZ) (0 + 9) 0 8 = [(3, 3, 6)] := by decide +kernel

theorem known_walk (w : World) : Calls Try.prog 17 #[] w fun e w' => e = .returned (.bool true) ∧ Touch (fun _ => False) w w' := by
  have hcv := Go.Lib.run_convert_bytes_const (P := Try.prog) w 22 5 #[.int .u8 97, .int .u8 98, .int .u8 99, .int .u8 97, .int .u8 98, .int .u8 99, .int .u8 97, .int .u8 98, .int .u8 99] 9 9 Try.underlying22 Try.underlying5
  go_enter Try.func17, Try.ntmps17
  go_wp2_with fail
  clear hcv
  have hI : Ints .u8 (w.alloc (.cells #[.int .u8 97, .int .u8 98, .int .u8 99, .int .u8 97, .int .u8 98, .int .u8 99, .int .u8 97, .int .u8 98, .int .u8 99] 5 (9, 10))) (some ⟨w.heap.size, 0, none⟩) w.heap.size 0 9 abcZ := by
    refine ⟨fun _ => rfl, fun i hi => ?_⟩
    rw [Nat.zero_add, cell_of_row _ _ _ _ _ _ (heap_alloc_new w _)]
    have : i = 0 ∨ i = 1 ∨ i = 2 ∨ i = 3 ∨ i = 4 ∨ i = 5 ∨ i = 6 ∨ i = 7 ∨ i = 8 := by omega
    rcases this with rfl | rfl | rfl | rfl | rfl | rfl | rfl | rfl | rfl <;> rfl
  have hp := parse_walk _ none 0 0 0 0 (fun _ => 0) _ _ 0 9 9 abcZ ⟨fun h => by omega, fun i hi => by omega⟩ hI 8 (by omega) (by omega) (by omega) (by omega)
  rw [abc_parse] at hp
  refine hp.mono ?_
  rintro e w2 ⟨v, rfl, hs⟩
  clear hp hI
  have T2 := Lib.hid ((Touch.new w _).trans hs.touch)
  obtain ⟨a, b, c, rfl, hr⟩ := recs_row hs.row
  have R := Lib.hid hr
  clear hs hr
  go_wp2_with fail
  refine (same_yes a b 0 c (some ⟨w2.heap.size, 0, none⟩) w2.heap.size 0 1 [(3, 3, 6)] _ (R.out.touch (Touch.new w2 (.cells #[.int .i64 3, .int .i64 3, .int .i64 6] 29))) ⟨fun _ => rfl, fun j p hj => ?_⟩ (by simp)).mono ?_
  · have : j = 0 := by
      have := (List.getElem?_eq_some_iff.1 hj).1
      simp at this; omega
    subst this
    simp at hj
    subst hj
    have hh := heap_alloc_new w2 (.cells #[.int .i64 3, .int .i64 3, .int .i64 6] 29)
    refine ⟨?_, ?_, ?_⟩ <;> (rw [cell_of_row _ _ _ _ _ _ hh]; rfl)
  rintro e w3 ⟨rfl, m, rfl⟩
  go_wp2_with fail
  go_ret
  exact ⟨rfl, (T2.out.trans (Touch.new w2 _)).drewN m⟩
end Go.Proofs.Ytmhmbepohcapnaa
