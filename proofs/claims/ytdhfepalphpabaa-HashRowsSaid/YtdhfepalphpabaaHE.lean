/- hash: sums of one row, of none, of three; known. -/
import Derived.Test.YtdhfepalphpabaaHD
namespace Go.Proofs.Ytdhfepalphpabaa
open Go.RowKit Go.WideShapes
set_option linter.unusedVariables false
set_option linter.unusedSimpArgs false
set_option maxRecDepth 100000

theorem sum_one (seed : Int) (w w' : World) (a : Option Addr) (b off l c g : Nat) (e : TypeId) (y : Nat → Nat) (hy : ∀ i, y i < 256) (h : Ints .u8 w a b off l (nat8 y)) (ht : Touch (fun _ => False) w w') (hg : w'.heap[g]? = some (.cells #[.slice a l c] e (0, 0))) (hl : l ≤ 100000) :
    Calls Try.prog 11 #[.int .u64 seed, .slice (some ⟨g, 0, none⟩) 1 1] w' fun e w'' => e = .returned (.int .u64 (sumV y l seed)) ∧ Touch (fun _ => False) w' w'' := by
  refine sum_walk seed w' (some ⟨g, 0, none⟩) g 0 1 1 (fun _ => a) (fun _ => b) (fun _ => off) (fun _ => l) (fun _ => c) (fun _ => nat8 y) ⟨fun _ => rfl, fun i hi => ?_, fun i hi => h.touch ht⟩ (by omega) l (by simp [sumL]) hl y hy (by simp [catV])
  obtain rfl : i = 0 := by omega
  rw [cell_of_row _ _ _ _ _ _ hg]; rfl
theorem sum_none (seed : Int) (w : World) (y : Nat → Nat) (hy : ∀ i, y i < 256) : Calls Try.prog 11 #[.int .u64 seed, .slice none 0 0] w fun e w' => e = .returned (.int .u64 (sumV y 0 seed)) ∧ Touch (fun _ => False) w w' :=
  sum_walk seed w none 0 0 0 0 (fun _ => none) (fun _ => 0) (fun _ => 0) (fun _ => 0) (fun _ => 0) (fun _ _ => 0) ⟨fun h => by omega, fun i hi => by omega, fun i hi => by omega⟩ (by omega) 0 rfl (by omega) y hy rfl
theorem known_sum : sumV (fun _ => 0) 0 0 = 17241709254077376921 := by decide +kernel
theorem known_walk (w : World) : Calls Try.prog 13 #[] w fun e w' => e = .returned (.bool true) ∧ Touch (fun _ => False) w w' := by
  have hs := sum_none 0 w (fun _ => 0) (fun _ => by omega)
  rw [known_sum] at hs
  have HS := Lib.hid hs
  clear hs
  go_enter Try.func13, Try.ntmps13
  go_wp2_with fail
  refine HS.out.mono ?_
  rintro e w2 ⟨rfl, ht⟩
  go_wp2_with fail
  go_ret
  exact ⟨rfl, ht⟩

theorem u8_wf {a : Int} (h : (Lit.int .u8 a).wf = true) : 0 ≤ a ∧ a < 256 := by
  simp [Lit.wf] at h
  have h1 : IntKind.u8.min = 0 := by decide
  have h2 : IntKind.u8.max = 255 := by decide
  omega
/-- Bytes that came in. -/
theorem nat_in {w : World} {a : Option Addr} {b off l c : Nat} {z : Nat → Int} (h : IntsIn .u8 w a b off l c z) : Ints .u8 w a b off l (nat8 fun i => (z i).toNat) ∧ ∀ i, (z i).toNat < 256 := by
  have e : ∀ i, ((z i).toNat : Int) = z i := fun i => by have := u8_wf (h.wf i); omega
  refine ⟨⟨h.at_, fun i hi => ?_⟩, fun i => by have := u8_wf (h.wf i); omega⟩
  rw [h.cell i hi]
  show _ = some (Value.int .u8 ((z i).toNat : Int))
  rw [e]

set_option maxHeartbeats 1000000 in
theorem HashSums_in (w : World) (a0 : Int) (a1 : Option Addr) (b1 o1 l1 c1 : Nat) (z1 : Nat → Int) (w1 : IntsIn .u8 w a1 b1 o1 l1 c1 z1) (hl : l1 ≤ 3000) :
    Calls Try.prog 3 #[.int .u64 a0, .slice a1 l1 c1] w fun e w' => e = .returned (.bool true) ∧ Below w.heap.size w w' := by
  obtain ⟨hI, hy⟩ := nat_in w1
  have hlc := w1.le
  obtain ⟨y, hyy⟩ : ∃ y, (fun i => (z1 i).toNat) = y := ⟨_, rfl⟩
  have hy' : ∀ i, y i < 256 := fun i => by rw [← hyy]; exact hy i
  rw [hyy] at hI
  obtain ⟨S, hS⟩ : ∃ S, sumV y l1 a0 = S := ⟨_, rfl⟩
  have HY := Lib.hid hy'
  have HI := Lib.hid hI
  have HS := Lib.hid hS
  have q0 : decide ((3000 : Int) < (l1 : Int)) = false := by simp; omega
  clear hy hy' hyy hI hS w1
  go_enter Try.func3, Try.ntmps3
  go_wp2_with fail
  refine (sum_one a0 w _ a1 b1 o1 l1 c1 w.heap.size _ y HY.out HI.out (Touch.new w _) (heap_alloc_new w _) (by omega)).mono ?_
  rintro e w2 ⟨rfl, t2⟩
  have T2 := Lib.hid ((Touch.new w _).trans t2)
  rw [HS.out]
  clear t2
  go_wp2_with fail
  refine (rsum_walk a0 w2 a1 b1 o1 l1 c1 y HY.out (HI.out.touch T2.out) (by omega) hlc).mono ?_
  rintro e w3 ⟨rfl, t3⟩
  have T3 := Lib.hid (T2.out.trans t3)
  rw [HS.out]
  clear t3
  go_wp2_with fail
  refine (known_walk _).mono ?_
  rintro e w4 ⟨rfl, t4⟩
  go_wp2_with fail
  go_ret
  exact ⟨rfl, (T3.out.trans t4).owned⟩
theorem HashSums_law (w : World) (a0 : Int) (w0 : (Lit.int .u64 a0).wf = true) (a1 : Option Addr) (b1 o1 l1 c1 : Nat) (z1 : Nat → Int) (w1 : IntsIn .u8 w a1 b1 o1 l1 c1 z1) :
    Calls Try.prog 3 #[.int .u64 a0, .slice a1 l1 c1] w fun e w' => e = .returned (.bool true) ∧ Below w.heap.size w w' := by
  by_cases hl : 3000 < l1
  · clear w0 w1
    go_enter Try.func3, Try.ntmps3
    go_wp2_with fail
    go_ret
    exact ⟨rfl, Below.refl _ _⟩
  · exact HashSums_in w a0 a1 b1 o1 l1 c1 z1 w1 (by omega)

set_option maxHeartbeats 1000000 in
theorem HashEmpty_law (w : World) (a0 : Int) (w0 : (Lit.int .u64 a0).wf = true) :
    Calls Try.prog 9 #[.int .u64 a0] w fun e w' => e = .returned (.bool true) ∧ Below w.heap.size w w' := by
  obtain ⟨S, hS⟩ : ∃ S, sumV (fun _ => 0) 0 a0 = S := ⟨_, rfl⟩
  have HS := Lib.hid hS
  clear hS w0
  go_enter Try.func9, Try.ntmps9
  go_wp2_with fail
  refine (sum_none a0 w (fun _ => 0) (fun _ => by omega)).mono ?_
  rintro e w2 ⟨rfl, t2⟩
  rw [HS.out]
  go_wp2_with fail
  refine (rsum_walk a0 w2 none 0 0 0 0 (fun _ => 0) (fun _ => by omega) ⟨fun h => by omega, fun i hi => by omega⟩ (by omega) (by omega)).mono ?_
  rintro e w3 ⟨rfl, t3⟩
  have T3 := Lib.hid (t2.trans t3)
  rw [HS.out]
  clear t2 t3
  go_wp2_with fail
  have hg := heap_alloc_new w3 (.cells #[.slice none 0 0, .slice none 0 0] 23)
  refine (sum_walk a0 _ (some ⟨w3.heap.size, 0, none⟩) w3.heap.size 0 2 2 (fun _ => none) (fun _ => 0) (fun _ => 0) (fun _ => 0) (fun _ => 0) (fun _ _ => 0) ⟨fun _ => rfl, fun i hi => ?_, fun i hi => ⟨fun h => by omega, fun i hi => by omega⟩⟩ (by omega) 0 rfl (by omega) (fun _ => 0) (fun _ => by omega) rfl).mono ?_
  · rw [cell_of_row _ _ _ _ _ _ hg]
    have : i = 0 ∨ i = 1 := by omega
    rcases this with rfl | rfl <;> rfl
  rintro e w4 ⟨rfl, t4⟩
  have T4 := Lib.hid ((T3.out.trans (Touch.new w3 _)).trans t4)
  rw [HS.out]
  clear t4 hg
  go_wp2_with fail
  refine (sum_none a0 w4 (fun _ => 0) (fun _ => by omega)).mono ?_
  rintro e w5 ⟨rfl, t5⟩
  rw [HS.out]
  have T5 := Lib.hid (T4.out.trans t5)
  clear t5
  go_wp2_with fail
  refine (known_walk _).mono ?_
  rintro e w6 ⟨rfl, t6⟩
  go_wp2_with fail
  go_ret
  exact ⟨rfl, (T5.out.trans t6).owned⟩
end Go.Proofs.Ytdhfepalphpabaa
