/- bits: plain facts for the round trips. -/
import Derived.Test.YtaacphmbkieacaaBiF
import Derived.Test.YtaacphmbkieacaaMore
namespace Go.Proofs.Ytaacphmbkieacaa
open Go.RowKit

theorem end_bit (l : List Bool) (j : Nat) : (byteAt (l ++ [true]) (l.length / 8)).testBit j = (decide (j < 8) && (l ++ [true]).getD (8 * (l.length / 8) + j) false) := byteAt_testBit _ _ _
theorem log2_last (l : List Bool) : Nat.log2 (byteAt (l ++ [true]) (l.length / 8)) = l.length % 8 := by
  have h1 : (byteAt (l ++ [true]) (l.length / 8)).testBit (l.length % 8) = true := by
    rw [end_bit, show 8 * (l.length / 8) + l.length % 8 = l.length by omega]
    simp [List.getD_eq_getElem?_getD]
    omega
  have h2 : byteAt (l ++ [true]) (l.length / 8) < 2 ^ (l.length % 8 + 1) := by
    apply Nat.lt_pow_two_of_testBit
    intro i hi
    rw [end_bit]
    have : (l ++ [true]).getD (8 * (l.length / 8) + i) false = false := by
      rw [List.getD_eq_getElem?_getD, List.getElem?_eq_none (by simp; omega)]
      rfl
    rw [this]; simp
  have h3 := Nat.ge_two_pow_of_testBit h1
  have h0 : byteAt (l ++ [true]) (l.length / 8) ≠ 0 := by
    intro e; rw [e] at h1; simp at h1
  exact (Nat.log2_eq_iff h0).2 ⟨h3, h2⟩
theorem last_ne (l : List Bool) : byteAt (l ++ [true]) (l.length / 8) ≠ 0 := by
  intro h
  have := end_bit l (l.length % 8)
  rw [h, show 8 * (l.length / 8) + l.length % 8 = l.length by omega] at this
  simp [List.getD_eq_getElem?_getD] at this
  omega

/-- What is read of what is written. -/
theorem back_bits (l : List Bool) : readBits (byteAt (l ++ [true])) (8 * (l.length / 8) + Nat.log2 (byteAt (l ++ [true]) (l.length / 8))) = l := by
  rw [log2_last, show 8 * (l.length / 8) + l.length % 8 = l.length by omega]
  apply List.ext_getElem?
  intro i
  unfold readBits
  by_cases hi : i < l.length
  · rw [List.getElem?_map, List.getElem?_range hi, List.getElem?_eq_getElem hi]
    simp only [Option.map_some, bitOf]
    rw [byteAt_testBit, show 8 * (i / 8) + i % 8 = i by omega]
    simp [List.getD_eq_getElem?_getD, List.getElem?_append_left hi, List.getElem?_eq_getElem hi]
    omega
  · rw [List.getElem?_eq_none (by simp; omega), List.getElem?_eq_none (by omega)]

theorem bytes_seen {w : World} {g : Nat} {l : List Bool} {e : TypeId} {fr : Nat × Nat} (h : w.heap[g]? = some (.cells (tab (l.length / 8 + 1) (bytesF l)) e fr)) :
    Seen w (some ⟨g, 0, none⟩) g 0 (l.length / 8 + 1) (byteAt (l ++ [true])) :=
  ⟨fun _ => rfl, fun i hi => by rw [Nat.zero_add]; exact tab_cell h hi, fun i => byteAt_lt _ _⟩

/-- NewReader over what Bytes gives. -/
theorem newr_back (g c : Nat) (l : List Bool) (w : World) {e : TypeId} {fr : Nat × Nat} (h : w.heap[g]? = some (.cells (tab (l.length / 8 + 1) (bytesF l)) e fr)) (hl : l.length ≤ 800000) :
    Calls Try.prog 47 #[.slice (some ⟨g, 0, none⟩) (l.length / 8 + 1) c] w fun e w' => e = .returned (.tuple #[.pointer (some ⟨w.heap.size, 0, none⟩), .bool true]) ∧
      ∃ v, Wr w' 84 w.heap.size v l ∧ Touch (fun _ => False) w w' ∧ Fresh w.heap.size (.slice none 0 0) v :=
  (newr_yes g 0 (l.length / 8) c _ w (bytes_seen h) (last_ne l) (by omega)).mono fun e w' ⟨h1, v, h2, h3, h4⟩ => ⟨h1, v, by rw [back_bits] at h2; exact h2, h3, h4⟩

theorem takeV_app (l : List Bool) (v n : Nat) (h : v < 2 ^ n) : takeV (l ++ digits v n) n = v := by
  unfold takeV
  rw [List.length_append, digits_length, show l.length + n - n = l.length by omega]
  rw [← ofBits_id h]
  apply ofBits_congr
  intro j hj
  rw [ofBits_id h, List.getD_eq_getElem?_getD, List.getElem?_append_right (by omega), show l.length + j - l.length = j by omega]
  simp [digits, hj]
theorem taken_app (l : List Bool) (v n : Nat) (h : v < 2 ^ n) (hn : n ≤ 24) : takenV (l ++ digits v n) n = v ∧ takenL (l ++ digits v n) n = l ∧ takeOk n (l ++ digits v n).length = true := by
  have hok : takeOk n (l ++ digits v n).length = true := by simp [takeOk, digits_length]; omega
  refine ⟨?_, ?_, hok⟩
  · unfold takenV; rw [hok, if_pos rfl, Int.toNat_natCast, takeV_app l v n h]
  · unfold takenL; rw [hok, if_pos rfl, List.length_append, digits_length, Int.toNat_natCast, show l.length + n - n = l.length by omega, List.take_left]
/-- One digit taken. -/
theorem taken_one (l : List Bool) (d : Bool) : takenV (l ++ [d]) 1 = (if d then 1 else 0) ∧ takenL (l ++ [d]) 1 = l ∧ takeOk 1 (l ++ [d]).length = true := by
  have e : [d] = digits (if d then 1 else 0) 1 := by cases d <;> decide
  have := taken_app l (if d then 1 else 0) 1 (by split <;> omega) (by omega)
  rw [← e] at this
  exact this

/-- One digit put. -/
theorem bit_val (v k : Nat) : bits BinOp.and IntKind.i64 ((v : Int) / 2 ^ k) 1 = (((if v.testBit k then 1 else 0) : Nat) : Int) := by
  have e : ((v : Int) / 2 ^ k) = ((v / 2 ^ k : Nat) : Int) := by simp
  rw [e, and_one, Nat.testBit_eq_decide_div_mod_eq]
  by_cases h : v / 2 ^ k % 2 = 1
  · simp [h]
  · have h0 : v / 2 ^ k % 2 = 0 := by omega
    simp [h0]
theorem putL_bit (d : Bool) (l : List Bool) : putL (((if d then 1 else 0) : Nat) : Int) 1 l = l ++ [d] ∧ putOk (((if d then 1 else 0) : Nat) : Int) 1 = true := by
  cases d <;> exact ⟨rfl, rfl⟩
theorem half_bit (a m : Nat) : a / 2 ^ (m + 1) * 2 + (if a.testBit m then 1 else 0) = a / 2 ^ m := by
  rw [Nat.testBit_eq_decide_div_mod_eq, Nat.pow_succ, ← Nat.div_div_eq_div_mul]
  by_cases h : a / 2 ^ m % 2 = 1
  · simp [h]; omega
  · have h0 : a / 2 ^ m % 2 = 0 := by omega
    simp [h0]; omega

theorem foot_owns {w w1 w2 : World} {b : Nat} {v : Value} (h : Touch (fun _ => False) w w1) (hb : w.heap.size ≤ b) (hv : OwnB w.heap.size v) (k : Touch (Foot b v) w1 w2) : Touch (fun _ => False) w w2 :=
  h.then k fun i hi hh => by
    rcases hh with hh | hh
    · omega
    · have := hv i hh; omega
end Go.Proofs.Ytaacphmbkieacaa
