/- hash: the laws of one byte, of four bytes. -/
import Derived.Test.YtdhfepalphpabaaHE
namespace Go.Proofs.Ytdhfepalphpabaa
open Go.RowKit Go.WideShapes
set_option linter.unusedVariables false
set_option linter.unusedSimpArgs false
set_option maxRecDepth 100000

theorem sum_of_one (c : Nat) (seed : Int) : sumV (fun _ => c) 1 seed = aval3 (aval2 (aval1 (step1 (IntKind.u64.wrap (IntKind.u64.wrap (seed + 2870177450012600261) + 1)) c))) := by
  unfold sumV startH
  rw [if_pos (by omega), tailW_end _ _ _ _ _ (by decide), tail4, if_neg (by decide)]
  show tailB (fun _ => c) (32 * (1 / 32)) (0 + 1) _ = _
  rw [tailB, tailB]
  have e : (((1 : Nat) : Int)) = 1 := rfl
  rw [e]
theorem sum_of_four (y : Nat → Nat) (seed : Int) : sumV y 4 seed = aval3 (aval2 (aval1 (step4 (IntKind.u64.wrap (IntKind.u64.wrap (seed + 2870177450012600261) + 4)) (leN y 4 : Nat)))) := by
  unfold sumV startH
  rw [if_pos (by omega), tailW_end _ _ _ _ _ (by decide), tail4, if_pos (by decide)]
  show tailB y (32 * (4 / 32) + 4) 0 _ = _
  rw [tailB]
  have e : (((4 : Nat) : Int)) = 4 := rfl
  rw [e, show leN (fun t => y (32 * (4 / 32) + t)) (4 % 32) = leN y 4 from leN_congr fun i _ => by show y (0 + i) = y i; rw [Nat.zero_add]]
theorem rotl11 (x : Int) : rotl x 11 = bits BinOp.or IntKind.u64 (IntKind.u64.wrap (x * 2048)) (x / 9007199254740992) := by
  unfold rotl
  rw [show (2 : Int) ^ 11 = 2048 by decide, show (64 - 11 : Nat) = 53 from rfl, show (2 : Int) ^ 53 = 9007199254740992 by decide]
theorem rotl23 (x : Int) : rotl x 23 = bits BinOp.or IntKind.u64 (IntKind.u64.wrap (x * 8388608)) (x / 2199023255552) := by
  unfold rotl
  rw [show (2 : Int) ^ 23 = 8388608 by decide, show (64 - 23 : Nat) = 41 from rfl, show (2 : Int) ^ 41 = 2199023255552 by decide]

set_option maxHeartbeats 1000000 in
theorem HashShort_law (w : World) (a0 : Int) (w0 : (Lit.int .u8 a0).wf = true) (a1 : Int) (w1 : (Lit.int .u64 a1).wf = true) :
    Calls Try.prog 6 #[.int .u8 a0, .int .u64 a1] w fun e w' => e = .returned (.bool true) ∧ Below w.heap.size w w' := by
  have hb := u8_wf w0
  obtain ⟨c, rfl⟩ : ∃ c : Nat, a0 = c := ⟨a0.toNat, by omega⟩
  have hc : c < 256 := by omega
  have fc : IntKind.u64.wrap (c : Int) = c := wraps_u64 _ (by omega) (by omega)
  have hs := sum_of_one c a1
  simp only [aval3, aval2, aval1, step1, rotl11] at hs
  have HS := Lib.hid hs
  clear w0 w1 hs hb
  go_enter Try.func6, Try.ntmps6
  go_wp2_with fail
  have hI : Ints .u8 (w.alloc (.cells #[.int .u8 c] 5)) (some ⟨w.heap.size, 0, none⟩) w.heap.size 0 1 (nat8 fun _ => c) := ⟨fun _ => rfl, fun i hi => by
    obtain rfl : i = 0 := by omega
    rw [cell_of_row _ _ _ _ _ _ (heap_alloc_new w _)]; rfl⟩
  refine (sum_one a1 _ _ _ w.heap.size 0 1 1 (w.heap.size + 1) _ (fun _ => c) (fun _ => hc) hI (Touch.new _ _) (heap_alloc_2 w _ _) (by omega)).mono ?_
  rintro e w3 ⟨rfl, t3⟩
  have T3 := Lib.hid ((((Touch.new w _).trans (Touch.new _ _))).trans t3)
  rw [HS.out]
  clear t3 hI
  go_wp2_with fail
  refine (known_walk _).mono ?_
  rintro e w6 ⟨rfl, t6⟩
  go_wp2_with fail
  go_ret
  exact ⟨rfl, (T3.out.trans t6).owned⟩

theorem u32_wf {a : Int} (h : (Lit.int .u32 a).wf = true) : 0 ≤ a ∧ a < 4294967296 := by
  simp [Lit.wf] at h
  have h1 : IntKind.u32.min = 0 := by decide
  have h2 : IntKind.u32.max = 4294967295 := by decide
  omega
def fourY (x : Nat) (i : Nat) : Nat := x / 2 ^ (8 * i) % 256
theorem fourY_le (x : Nat) (h : x < 4294967296) : leN (fourY x) 4 = x := by
  simp only [leN, fourY]
  omega

set_option maxHeartbeats 1000000 in
theorem HashFour_law (w : World) (a0 : Int) (w0 : (Lit.int .u32 a0).wf = true) (a1 : Int) (w1 : (Lit.int .u64 a1).wf = true) :
    Calls Try.prog 10 #[.int .u32 a0, .int .u64 a1] w fun e w' => e = .returned (.bool true) ∧ Below w.heap.size w w' := by
  have hb := u32_wf w0
  obtain ⟨c, rfl⟩ : ∃ c : Nat, a0 = c := ⟨a0.toNat, by omega⟩
  have hc : c < 4294967296 := by omega
  have fc : IntKind.u64.wrap (c : Int) = c := wraps_u64 _ (by omega) (by omega)
  have hs := sum_of_four (fourY c) a1
  rw [fourY_le c hc] at hs
  simp only [aval3, aval2, aval1, step4, rotl23] at hs
  have HS := Lib.hid hs
  clear w0 w1 hs hb
  go_enter Try.func10, Try.ntmps10
  go_wp2_with fail
  have hI : Ints .u8 (w.alloc (.cells #[.int .u8 ((c : Int) % 256), .int .u8 ((c : Int) / 256 % 256), .int .u8 ((c : Int) / 65536 % 256), .int .u8 ((c : Int) / 16777216)] 5)) (some ⟨w.heap.size, 0, none⟩) w.heap.size 0 4 (nat8 (fourY c)) := ⟨fun _ => rfl, fun i hi => by
    rw [cell_of_row _ _ _ _ _ _ (heap_alloc_new w _)]
    have h : i = 0 ∨ i = 1 ∨ i = 2 ∨ i = 3 := by omega
    have e : ∀ a b : Int, a = b → some (Value.int .u8 a) = some (Value.int .u8 b) := fun a b h => by rw [h]
    rcases h with rfl | rfl | rfl | rfl
    · exact e _ _ (by simp [nat8, fourY])
    · exact e _ _ (by simp [nat8, fourY])
    · exact e _ _ (by simp [nat8, fourY])
    · exact e _ _ (by simp only [nat8, fourY]; omega)⟩
  refine (sum_one a1 _ _ _ w.heap.size 0 4 4 (w.heap.size + 1) _ (fourY c) (fun _ => Nat.mod_lt _ (by omega)) hI (Touch.new _ _) (heap_alloc_2 w _ _) (by omega)).mono ?_
  rintro e w3 ⟨rfl, t3⟩
  have T3 := Lib.hid ((((Touch.new w _).trans (Touch.new _ _))).trans t3)
  rw [HS.out]
  clear t3 hI
  go_wp2_with fail
  refine (known_walk _).mono ?_
  rintro e w6 ⟨rfl, t6⟩
  go_wp2_with fail
  go_ret
  exact ⟨rfl, (T3.out.trans t6).owned⟩
end Go.Proofs.Ytdhfepalphpabaa
