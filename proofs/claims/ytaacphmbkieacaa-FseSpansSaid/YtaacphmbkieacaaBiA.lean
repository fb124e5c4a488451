/- bits: a writer in memory; what is put. -/
import Derived.Test.YtaacphmbkieacaaRows
import Derived.Test.YtaacphmbkieacaaMem
namespace Go.Proofs.Ytaacphmbkieacaa
open Go.RowKit

theorem Try.info4 : (Try.prog.info? 4).map (fun i => (i.zero, i.size, i.bytes)) = some (some (.bool false), 1, 1) := by kernel_rfl

theorem many_walk (n : Int) (w : World) : Calls Try.prog 56 #[.int .i64 n] w fun e w' => e = .returned (.bool (decide (0 ≤ n ∧ n ≤ 24))) ∧ w = w' := by
  go_enter Try.func56, Try.ntmps56
  go_wp2
  all_goals (go_ret; exact ⟨ret_bool (by first | (symm; simp; omega) | simp [*]), rfl⟩)

/-- The digits of a number, the lowest first. -/
def digits (v n : Nat) : List Bool := (List.range n).map v.testBit
theorem digits_succ (v n : Nat) : digits v (n + 1) = digits v n ++ [v.testBit n] := by simp [digits, List.range_succ]
theorem digits_length (v n : Nat) : (digits v n).length = n := by simp [digits]

/-- A writer: its own cell, the row that it owns. -/
structure Wr (w : World) (t : TypeId) (b : Nat) (v : Value) (l : List Bool) : Prop where
  cell : w.heap[b]? = some (.cells #[v] t (0, 0))
  row : w.ownsRow 0 4 1 v l.length (l.map .bool)
  apart : v.ownBlock ≠ some b

theorem Wr.touch {w w' : World} {t : TypeId} {b : Nat} {v : Value} {l : List Bool} {S : Nat → Prop} (h : Wr w t b v l) (ht : Touch S w w') (h1 : ¬ S b) (h2 : ∀ k, v.ownBlock = some k → ¬ S k) : Wr w' t b v l :=
  ⟨ht.heap h.cell h1, ht.row h.row h2, h.apart⟩

theorem wrap_pow (n : Nat) (hn : n ≤ 24) : wrap64 ((2 : Int) ^ n) = ((2 ^ n : Nat) : Int) := by
  have h : (2 : Nat) ^ n ≤ 2 ^ 24 := Nat.pow_le_pow_right (by omega) hn
  have e : ((2 : Int) ^ n) = ((2 ^ n : Nat) : Int) := by simp
  rw [e]
  generalize 2 ^ n = p at *
  unfold wrap64; omega

theorem and_one (n : Nat) : bits BinOp.and IntKind.i64 (n : Int) 1 = ((n % 2 : Nat) : Int) := by
  have h1 : (BitVec.ofInt 64 1).toNat = 2 ^ 1 - 1 := by decide
  have key : (BitVec.ofInt 64 (n : Int) &&& BitVec.ofInt 64 1).toNat = ((n : Int) % ((2 ^ 64 : Nat) : Int)).toNat % 2 ^ 1 := by
    rw [BitVec.toNat_and, BitVec.toNat_ofInt, h1, Nat.and_two_pow_sub_one_eq_mod]
  show IntKind.i64.wrap ((BitVec.ofInt 64 (n : Int) &&& BitVec.ofInt 64 1).toNat : Nat) = _
  rw [key, IntKind.wrap_i64]
  omega
theorem bit_is (v k : Nat) : (bits BinOp.and IntKind.i64 ((v : Int) / 2 ^ k) 1 == 1) = v.testBit k := by
  have e : ((v : Int) / 2 ^ k) = ((v / 2 ^ k : Nat) : Int) := by simp
  rw [e, and_one, Nat.testBit_eq_decide_div_mod_eq]
  by_cases h : v / 2 ^ k % 2 = 1
  · simp [h]
  · have h0 : v / 2 ^ k % 2 = 0 := by omega
    simp [h0]

/-- A writer's foot: its own cell's block, its row's. -/
def Foot (b : Nat) (v : Value) (k : Nat) : Prop := k = b ∨ v.ownBlock = some k

/-- What stands behind a put of one digit. -/
theorem wr_put {w w1 w2 : World} {t : TypeId} {b : Nat} {v v' : Value} {l : List Bool} {d : Bool} (ht : Touch (fun k => v.ownBlock = some k) w1 w2) (h : Wr w t b v l) {o : Obj} (hw : w1.heap = w.heap.push o) (ho : w1.os = w.os) (htp : w1.tape = w.tape) (hu : w1.output = w.output)
    (hown : w2.ownsRow 0 4 1 v' (l.length + 1) (l.map .bool ++ [.bool d])) (hf : Fresh w1.heap.size v v') :
    Wr (w2.setCell ⟨b, 0, none⟩ v') t b v' (l ++ [d]) ∧ Touch (Foot b v) w (w2.setCell ⟨b, 0, none⟩ v') ∧ Fresh w.heap.size v v' := by
  have hb := lt_of_block h.cell
  have hs : w1.heap.size = w.heap.size + 1 := by simp [hw]
  have hne : v'.ownBlock ≠ some b := by
    rcases hf with hf | ⟨k, hk, hle⟩
    · rw [hf]; exact h.apart
    · rw [hk]; intro e; cases e; omega
  have ht' := touch_heap hw ho htp hu ht
  have hc2 : w2.heap[b]? = some (.cells #[v] t (0, 0)) := ht'.heap h.cell h.apart
  refine ⟨⟨one_setCell hc2, ?_, hne⟩, ?_, ?_⟩
  · have := (((Touch.refl (· = b) w2).setCell (p := ⟨b, 0, none⟩) (fun _ => rfl) v')).row hown (fun k hk e => by rw [e] at hk; exact hne hk)
    simpa using this
  · exact (ht'.mono (fun k _ h => .inr h)).setCell (fun _ => .inl rfl) _
  · rcases hf with hf | ⟨k, hk, hle⟩
    · exact .inl hf
    · exact .inr ⟨k, hk, by omega⟩

theorem wr_after {w w1 w2 : World} {t : TypeId} {b : Nat} {v : Value} {l : List Bool} (ht : Touch (fun k => v.ownBlock = some k) w1 w2) (h : Wr w t b v l) {o : Obj} (hw : w1.heap = w.heap.push o) (ho : w1.os = w.os) (htp : w1.tape = w.tape) (hu : w1.output = w.output) : w2.cell? ⟨b, 0, none⟩ = some v ∧ w2.frozen? ⟨b, 0, none⟩ = false := by
  have q := (touch_heap hw ho htp hu ht).heap h.cell h.apart
  exact ⟨cell_of_one q, free_of_one q⟩

theorem Fresh.trans {n m : Nat} {u v x : Value} (h : Fresh n u v) (k : Fresh m v x) (hm : n ≤ m) : Fresh n u x := by
  rcases k with k | ⟨a, h1, h2⟩
  · rcases h with h | ⟨b, h3, h4⟩
    · exact .inl (k.trans h)
    · exact .inr ⟨b, k.trans h3, h4⟩
  · exact .inr ⟨a, h1, by omega⟩

theorem foot_then {w w1 w2 : World} {b : Nat} {v v' : Value} (h : Touch (Foot b v) w w1) (hf : Fresh w.heap.size v v') (k : Touch (Foot b v') w1 w2) : Touch (Foot b v) w w2 :=
  h.then k fun i hi hh => by
    rcases hh with hh | hh
    · exact .inl hh
    · rcases hf with hf | ⟨q, hq, hle⟩
      · exact .inr (by rw [← hf]; exact hh)
      · rw [hq] at hh; cases hh; omega

set_option maxHeartbeats 800000 in
theorem put_yes (b : Nat) (vv n : Nat) (w : World) (v : Value) (l : List Bool) (hw : Wr w 82 b v l) (h1 : n ≤ 24) (h3 : vv < 2 ^ n) (hl : l.length + n ≤ 1000000) :
    Calls Try.prog 42 #[.pointer (some ⟨b, 0, none⟩), .int .i64 vv, .int .i64 n] w fun e w' => e = .returned (.bool true) ∧
      ∃ v', Wr w' 82 b v' (l ++ digits vv n) ∧ Touch (Foot b v) w w' ∧ Fresh w.heap.size v v' := by
  obtain ⟨i0, hi, hz0, hz1, hz2⟩ := info_parts Try.info4
  have hd := Lib.hid (show decide (0 ≤ (n : Int) ∧ (n : Int) ≤ 24) = true by simp; omega)
  have hp : (vv : Int) < wrap64 ((2 : Int) ^ n) := by rw [wrap_pow n h1]; exact_mod_cast h3
  have hq : decide (wrap64 ((2 : Int) ^ n) ≤ (vv : Int)) = false := by simpa using hp
  have hq' : decide ((vv : Int) < 0) = false := by simp
  have Hw := Lib.hid hw
  clear hw
  go_enter Try.func42, Try.ntmps42
  go_wp2_with (go_at_call 56; refine (many_walk _ _).mono ?_; rintro e w' ⟨rfl, rfl⟩; rw [hd.out])
  go_loopw [7, 26] (fun _ i wr => ∃ k : Nat, ∃ v' : Value, k ≤ n ∧ i = .int .i64 k ∧ Wr wr 82 b v' (l ++ digits vv k) ∧ Touch (Foot b v) w wr ∧ Fresh w.heap.size v v') (fun _ i _ => n - (intOf i).toNat)
  case atStart => exact ⟨0, v, by omega, rfl, by simpa [digits] using Hw.out, Touch.refl _ _, .inl rfl⟩
  case round =>
    obtain ⟨k, v', hk, rfl, hb, htw, hfr⟩ := hrel
    obtain ⟨lk, hlk⟩ : ∃ lk, l ++ digits vv k = lk := ⟨_, rfl⟩
    have hln : lk.length = l.length + k := by rw [← hlk]; simp [digits_length]
    have hlm : lk.length < 1000000 ∨ k = n := by omega
    rw [hlk] at hb
    have Hlk := Lib.hid hlk
    clear hlk hln
    have c0 : wr.cell? ⟨b, 0, none⟩ = some v' := cell_of_one hb.cell
    have f0 : wr.frozen? ⟨b, 0, none⟩ = false := free_of_one hb.cell
    have c1 : ∀ o, (wr.alloc o).cell? ⟨b, 0, none⟩ = some v' := fun o => ((Touch.refl (fun _ => False) wr).alloc o).cell c0 id
    have Hb := Lib.hid hb
    clear hb
    by_cases hlt : k < n
    · have hbit := bit_is vv k
      go_wp2_with fail
      go_region_law (refine step_append_mine rfl (.tmp 33) (.tmp 39) 61 61 rfl 4 i0 (.bool false) 1 1 Try.underlying61 hi hz0 hz1 hz2 rfl v' _ _ rfl (row_heap Hb.out.row rfl) _ 1 [.bool (vv.testBit k)] rfl (src_one wr Try.underlying61 _ rfl _ rfl) (by unfold maxLen; omega) (by omega) ?_; intro a2 c2 w2 hown ht hf _; obtain ⟨k2, f2⟩ := wr_after ht Hb.out rfl rfl rfl rfl)
      all_goals
        obtain ⟨g1, g2, g3⟩ := wr_put ht Hb.out rfl rfl rfl rfl hown hf
        have G1 := Lib.hid g1
        clear g1 k2 f2 hbit c1 c0 f0 ht hown
        go_wp2_with fail
        go_roundw
        case rel => exact ⟨k + 1, _, by omega, by go_num, by rw [digits_succ, ← List.append_assoc, Hlk.out]; exact G1.out, foot_then htw hfr g2, hfr.trans g3 htw.size⟩
        case measure => simp [intOf]; omega
    · obtain rfl : k = n := by omega
      go_wp2_with fail
      go_ret
      exact ⟨rfl, _, by rw [Hlk.out]; exact Hb.out, htw, hfr⟩
end Go.Proofs.Ytaacphmbkieacaa
