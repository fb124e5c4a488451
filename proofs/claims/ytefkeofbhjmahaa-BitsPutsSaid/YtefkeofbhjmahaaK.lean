/- bits: what a law knows; bytes as strings; facts for the laws. -/
import Derived.Test.YtefkeofbhjmahaaF
import Derived.Test.YtefkeofbhjmahaaOpen
import Derived.Laws.BytesArg
namespace Go.Proofs.Ytefkeofbhjmahaa
open Go.RowKit

/-- Bytes as a string. -/
def strOf (F : Nat → Nat) (m : Nat) : ByteArray := strOfNums ((List.range m).map fun p => (F p : Int))
def strBits (l : List Bool) : ByteArray := strOf (byteAt (l ++ [true])) (l.length / 8 + 1)

theorem conv_tab {w : World} {g m c : Nat} {F : Nat → Nat} {e : TypeId} {fr : Nat × Nat} (h : w.heap[g]? = some (.cells (tab m (fun p => .int .u8 (F p))) e fr)) :
    (convert 33 9 (.slice (some ⟨g, 0, none⟩) m c)).run Try.prog w = .ok (.string (strOf F m)) w :=
  run_convert_bytes_arg w 33 5 Try.underlying33 Try.underlying5 g 0 m c _ (by simp) (fun i hi => by
    have := tab_cell h hi
    rw [Nat.zero_add, this]
    simp [hi]) 9 Try.underlying9
theorem conv_bytes {w : World} {g c : Nat} {l : List Bool} {e : TypeId} {fr : Nat × Nat} (h : w.heap[g]? = some (.cells (tab (l.length / 8 + 1) (bytesF l)) e fr)) :
    (convert 33 9 (.slice (some ⟨g, 0, none⟩) (l.length / 8 + 1) c)).run Try.prog w = .ok (.string (strBits l)) w := conv_tab h

theorem put_is (b : Nat) (vv n : Int) (w : World) (v : Value) (l m : List Bool) (ok : Bool) (hw : Wr w 53 b v l) (hl : l.length ≤ 900000) (hok : putOk vv n = ok) (hm : putL vv n l = m) :
    Calls Try.prog 15 #[.pointer (some ⟨b, 0, none⟩), .int .i64 vv, .int .i64 n] w fun e w' => e = .returned (.bool ok) ∧
      ∃ v', Wr w' 53 b v' m ∧ Touch (Foot b v) w w' ∧ Fresh w.heap.size v v' := by
  subst hok hm; exact put_walk b vv n w v l hw hl

/-- What v leads to is a block from n on. -/
def OwnB (n : Nat) (v : Value) : Prop := ∀ k, v.ownBlock = some k → n ≤ k
theorem OwnB.fresh {n m : Nat} {u v : Value} (h : OwnB n u) (hf : Fresh m u v) (hm : n ≤ m) : OwnB n v := by
  intro k hk
  rcases hf with hf | ⟨q, hq, hle⟩
  · exact h k (by rw [← hf]; exact hk)
  · rw [hq] at hk; cases hk; omega
theorem OwnB.nil (n : Nat) : OwnB n (.slice none 0 0) := fun k hk => by cases hk

theorem foot_own {w w1 w2 : World} {b : Nat} {v : Value} (h : Touch (fun k => w.heap.size ≤ k) w w1) (hb : w.heap.size ≤ b) (hv : OwnB w.heap.size v) (k : Touch (Foot b v) w1 w2) : Touch (fun k => w.heap.size ≤ k) w w2 :=
  h.then k fun i _ hh => by
    rcases hh with hh | hh
    · omega
    · exact hv i hh

theorem rec2 {w : World} {a : Option Addr} {b o l c : Nat} {z : Nat → Nat → Int} (h : RecsIn 2 w a b o l c z) {w' : World} (ht : Touch (fun k => w.heap.size ≤ k) w w') {i : Nat} (hi : i < l) :
    w'.cell? ⟨b, o + i * 2, none⟩ = some (.int .i64 (z i 0)) ∧ w'.cell? ⟨b, o + i * 2 + 1, none⟩ = some (.int .i64 (z i 1)) := by
  have hb := h.lt (by omega)
  exact ⟨ht.cell (h.cell i hi 0 (by omega)) (by simp; omega), ht.cell (h.cell i hi 1 (by omega)) (by simp; omega)⟩

theorem putL_len (v n : Int) (l : List Bool) : (putL v n l).length ≤ l.length + 24 := by
  unfold putL
  split
  · rename_i h
    obtain ⟨a, k, rfl, rfl, hk, _⟩ := putOk_yes h
    simp [digits_length]; omega
  · omega

/-- Two writers that share nothing. -/
structure Two (b1 b2 : Nat) (v1 v2 : Value) : Prop where
  ne : b1 ≠ b2
  h1 : v1.ownBlock ≠ some b2
  h2 : v2.ownBlock ≠ some b1
  h3 : ∀ k, v1.ownBlock = some k → v2.ownBlock ≠ some k
theorem Two.symm {b1 b2 : Nat} {v1 v2 : Value} (h : Two b1 b2 v1 v2) : Two b2 b1 v2 v1 := ⟨h.ne.symm, h.h2, h.h1, fun k h2 h1 => h.h3 k h1 h2⟩
theorem Wr.lt {w : World} {t : TypeId} {b : Nat} {v : Value} {l : List Bool} (h : Wr w t b v l) : b < w.heap.size ∧ ∀ k, v.ownBlock = some k → k < w.heap.size :=
  ⟨lt_of_block h.cell, fun k hk => (h.row.lt k hk).2⟩
theorem Two.fresh {w : World} {t : TypeId} {b1 b2 : Nat} {v1 v1' v2 : Value} {l : List Bool} (h : Two b1 b2 v1 v2) (hw : Wr w t b2 v2 l) (hf : Fresh w.heap.size v1 v1') : Two b1 b2 v1' v2 := by
  obtain ⟨l1, l2⟩ := hw.lt
  rcases hf with hf | ⟨q, hq, hle⟩
  · exact ⟨h.ne, by rw [hf]; exact h.h1, h.h2, fun k hk => h.h3 k (by rw [← hf]; exact hk)⟩
  · refine ⟨h.ne, ?_, h.h2, ?_⟩
    · rw [hq]; intro e; cases e; omega
    · intro k hk e
      rw [hq] at hk; cases hk
      have := l2 q e; omega
theorem Two.keep {w w' : World} {t : TypeId} {b1 b2 : Nat} {v1 v2 : Value} {l : List Bool} (h : Two b1 b2 v1 v2) (hw : Wr w t b2 v2 l) (ht : Touch (Foot b1 v1) w w') : Wr w' t b2 v2 l :=
  hw.touch ht (fun hh => hh.elim (fun e => h.ne e.symm) h.h1) (fun k hk hh => hh.elim (fun e => h.h2 (by rw [← e]; exact hk)) (fun e => h.h3 k e hk))
theorem Wr.drew {w : World} {t : TypeId} {b : Nat} {v : Value} {l : List Bool} (h : Wr w t b v l) : Wr w.drew t b v l := ⟨h.cell, h.row, h.apart⟩

/-- What a cell holds, whatever the world: for a region that loads what a call of it has written. -/
def fieldAt (w : World) (a : Addr) : Value := (w.cell? a).getD undef
theorem fieldAt_is {w : World} {a : Addr} {v : Value} (h : w.cell? a = some v) : fieldAt w a = v := by unfold fieldAt; rw [h]; rfl
theorem cell_fieldAt {w : World} {a : Addr} {v : Value} (h : w.cell? a = some v) : w.cell? a = some (fieldAt w a) := by rw [fieldAt_is h]; exact h

theorem known_walk (w : World) : Calls Try.prog 20 #[] w fun e w' => e = .returned (.bool true) ∧ Touch (fun _ => False) w w' := by
  go_enter Try.func20, Try.ntmps20
  go_wp2_with fail
  refine (wnew_walk _).mono ?_
  rintro e w1 ⟨rfl, hw1, ht1, hs1⟩
  clear hs1
  go_wp2_with fail
  refine (put_is _ _ _ _ _ _ [true, false, true] true hw1 (by simp) (by decide) (by decide)).mono ?_
  rintro e w2 ⟨rfl, v2, hw2, ht2, hf2⟩
  have Hw2 := Lib.hid hw2
  clear hw2
  go_wp2_with fail
  refine (len_walk _ _ _ _ Hw2.out).mono ?_
  rintro e w3 ⟨rfl, rfl⟩
  go_wp2_with fail
  refine (bytes_walk _ _ _ _ Hw2.out (by simp)).mono ?_
  rintro e w4 ⟨rfl, hb4, ht4⟩
  have hcv : (convert 33 9 (.slice (some ⟨w2.heap.size, 0, none⟩) 1 1)).run Try.prog w4 = .ok (.string ⟨#[13]⟩) w4 := by
    rw [← show strBits [true, false, true] = (⟨#[13]⟩ : ByteArray) by decide +kernel]
    exact conv_bytes (l := [true, false, true]) hb4
  have Hw4 := Lib.hid (Hw2.out.touch ht4 id (fun _ _ => id))
  go_wp2_with fail
  refine (put_no _ 8 3 _ (by decide)).mono ?_
  rintro e w5 ⟨rfl, rfl⟩
  go_wp2_with fail
  go_ret
  refine ⟨rfl, (ht1.then ht2 ?_).trans ht4⟩
  intro i hi hh
  rcases hh with hh | hh
  · omega
  · simp [Value.ownBlock] at hh
end Go.Proofs.Ytefkeofbhjmahaa
