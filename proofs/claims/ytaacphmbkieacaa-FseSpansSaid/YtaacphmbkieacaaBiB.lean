/- bits: what else a writer does. -/
import Derived.Test.YtaacphmbkieacaaBiA
namespace Go.Proofs.Ytaacphmbkieacaa
open Go.RowKit

theorem Try.info5 : (Try.prog.info? 5).map (fun i => (i.zero, i.size, i.bytes)) = some (some (.int .u8 0), 1, 1) := by kernel_rfl

theorem wnew_walk (w : World) : Calls Try.prog 38 #[] w fun e w' => e = .returned (.pointer (some ⟨w.heap.size, 0, none⟩)) ∧
    Wr w' 82 w.heap.size (.slice none 0 0) [] ∧ Touch (fun _ => False) w w' ∧ w'.heap.size = w.heap.size + 1 := by
  go_enter Try.func38, Try.ntmps38
  go_wp2
  go_ret
  exact ⟨rfl, ⟨heap_alloc_new _ _, World.ownsRow_nil _ _ _ _, by simp [Value.ownBlock]⟩, (Touch.refl _ _).alloc _, by simp⟩

/-- The bytes of digits: of those of l alone, at place p. -/
def byteAt (l : List Bool) (p : Nat) : Nat := ofBits (fun j => l.getD (8 * p + j) false) 8
def bytesF (l : List Bool) (p : Nat) : Value := .int .u8 (byteAt (l ++ [true]) p)

theorem make_bytes (n : Nat) (x : Int) (hx : x = n) (hn : n ≤ 1000000) (w : World) : (Instr.makeSlice 37 (.int .i64 x) (.int .i64 x)).run Try.prog w = .ok (.slice (some ⟨w.heap.size, 0, none⟩) n n) (w.alloc (.cells (tab n (fun _ => .int .u8 0)) 5)) := by
  obtain ⟨i0, hi, hz0, hz1, hz2⟩ := info_parts Try.info5
  subst hx
  have := run_make (P := Try.prog) w 37 5 i0 (.int .u8 0) Try.underlying37 hi hz0 .i64 .i64 n n (by omega) (by omega) (by rw [hz2]; omega) (by omega)
  rw [this, hz1, ← tab_made]
  simp [Value.cells]

theorem wr_cells {w : World} {t : TypeId} {b : Nat} {v : Value} {l : List Bool} (h : Wr w t b v l) : ∃ a c g, v = .slice a l.length c ∧ (0 < l.length → a = some ⟨g, 0, none⟩ ∧ ∀ k, l[k]? = none ∨ ∃ d, l[k]? = some d ∧ w.cell? ⟨g, k, none⟩ = some (.bool d)) := by
  rcases row_form h.row with ⟨rfl, hn⟩ | ⟨g, c, rfl⟩
  · exact ⟨none, 0, 0, by rw [hn], fun h => by omega⟩
  · refine ⟨_, c, g, rfl, fun _ => ⟨rfl, fun k => ?_⟩⟩
    cases hd : l[k]? with
    | none => exact .inl rfl
    | some d => exact .inr ⟨d, rfl, row_cell h.row rfl (by simp [hd])⟩

theorem or_byte (x j : Nat) (hx : x < 256) (hj : j < 8) : bits BinOp.or IntKind.u8 (x : Int) (2 ^ j % 256) = ((x ||| 2 ^ j : Nat) : Int) := by
  have h2 : (2 : Nat) ^ j < 2 ^ 8 := Nat.pow_lt_pow_right (by omega) hj
  have e : ((2 : Int) ^ j % 256) = ((2 ^ j : Nat) : Int) := by
    have : ((2 : Int) ^ j) = ((2 ^ j : Nat) : Int) := by simp
    rw [this]; generalize 2 ^ j = q at *; omega
  rw [e]
  exact (bits_nat .u8 8 (by decide) wraps_u8 x (2 ^ j) (by omega) h2).2

theorem byteAt_lt (l : List Bool) (p : Nat) : byteAt l p < 256 := ofBits_lt _ 8

theorem byteAt_testBit (l : List Bool) (p j : Nat) : (byteAt l p).testBit j = (decide (j < 8) && l.getD (8 * p + j) false) := ofBits_testBit _ 8 j

theorem getD_take_succ (l : List Bool) (k i : Nat) (d : Bool) (hd : l[k]? = some d) : (l.take (k + 1)).getD i false = if i = k then d else (l.take k).getD i false := by
  simp only [List.getD_eq_getElem?_getD, List.getElem?_take]
  by_cases h : i = k
  · subst h; simp [hd]
  · by_cases h' : i < k
    · simp [h, h', Nat.lt_succ_of_lt h']
    · have : ¬ i < k + 1 := by omega
      simp [h, h', this]
theorem getD_take_at (l : List Bool) (k : Nat) : (l.take k).getD k false = false := by
  simp [List.getD_eq_getElem?_getD, List.getElem?_take]

theorem byteAt_false (l : List Bool) (k : Nat) (hd : l[k]? = some false) (p : Nat) : byteAt (l.take (k + 1)) p = byteAt (l.take k) p := by
  apply ofBits_congr
  intro j _
  rw [getD_take_succ l k _ false hd]
  split
  · rename_i h; rw [h, getD_take_at]
  · rfl
theorem byteAt_true (l : List Bool) (k : Nat) (hd : l[k]? = some true) (p : Nat) : byteAt (l.take (k + 1)) p = if p = k / 8 then byteAt (l.take k) p ||| 2 ^ (k % 8) else byteAt (l.take k) p := by
  apply Nat.eq_of_testBit_eq
  intro j
  rw [byteAt_testBit, getD_take_succ l k _ true hd]
  by_cases hp : p = k / 8
  · rw [if_pos hp, Nat.testBit_or, byteAt_testBit, Nat.testBit_two_pow]
    by_cases hj : j < 8
    · by_cases e : 8 * p + j = k
      · have : k % 8 = j := by omega
        simp [e, this, hj]
      · have : k % 8 ≠ j := by omega
        simp [e, this, hj]
    · have : k % 8 ≠ j := by omega
      simp [hj, this]
  · rw [if_neg hp, byteAt_testBit]
    by_cases hj : j < 8
    · have e : 8 * p + j ≠ k := by omega
      simp [e]
    · simp [hj]

/-- The end mark. -/
theorem byteAt_end (l : List Bool) (p : Nat) : byteAt (l ++ [true]) p = if p = l.length / 8 then byteAt l p ||| 2 ^ (l.length % 8) else byteAt l p := by
  have h := byteAt_true (l ++ [true]) l.length (by simp) p
  have e1 : (l ++ [true]).take (l.length + 1) = l ++ [true] := List.take_of_length_le (by simp)
  have e2 : (l ++ [true]).take l.length = l := by simp
  rwa [e1, e2] at h

theorem Touch.drew_setCell {w w' : World} (ht : Touch (fun _ => False) w w') {p : Addr} (hp : w.heap.size ≤ p.block) (u : Value) : Touch (fun _ => False) w (w'.setCell p u).drew :=
  (ht.setCell (fun h => by omega) u).drew

set_option maxHeartbeats 800000 in
theorem bytes_walk (b : Nat) (v : Value) (l : List Bool) (w : World) (hw : Wr w 82 b v l) (hl : l.length ≤ 1000000) :
    Calls Try.prog 43 #[.pointer (some ⟨b, 0, none⟩)] w fun e w' => e = .returned (.slice (some ⟨w.heap.size, 0, none⟩) (l.length / 8 + 1) (l.length / 8 + 1)) ∧
      w'.heap[w.heap.size]? = some (.cells (tab (l.length / 8 + 1) (bytesF l)) 5 (0, 0)) ∧ Touch (fun _ => False) w w' := by
  have c0 : w.cell? ⟨b, 0, none⟩ = some v := cell_of_one hw.cell
  have hmk := fun w => make_bytes (l.length / 8 + 1) ((l.length : Int) / 8 + 1) (by omega) (by omega) w
  have c1 : ∀ o, (w.alloc o).cell? ⟨b, 0, none⟩ = some v := fun o => ((Touch.refl (fun _ => False) w).alloc o).cell c0 id
  obtain ⟨a, c, g, hv, hcs⟩ := wr_cells hw
  subst hv
  have Hcs := Lib.hid hcs
  have Hc0 := Lib.hid c0
  clear hw hcs
  go_enter Try.func43, Try.ntmps43
  go_wp2
  clear hmk c1
  go_loopw [4, 5, 21] (fun _ _ i wr => ∃ k : Nat, k ≤ l.length ∧ i = .int .i64 k ∧ wr.heap[w.heap.size]? = some (.cells (tab (l.length / 8 + 1) (fun p => .int .u8 (byteAt (l.take k) p))) 5 (0, 0)) ∧ Touch (fun _ => False) w wr) (fun _ _ i _ => l.length - (intOf i).toNat)
  case atStart =>
    refine ⟨0, by omega, rfl, ?_, (Touch.refl _ _).alloc _⟩
    rw [heap_alloc_new, tab_congr (F := fun _ => .int .u8 0)]
    intro i _
    simp [byteAt, ofBits]
  case round =>
    obtain ⟨k, hk, rfl, hh, ht⟩ := hrel
    have Hh := Lib.hid hh
    clear hh
    by_cases hlt : k < l.length
    · obtain ⟨ha, hcell⟩ := Hcs.out (by omega)
      obtain ⟨d, hd, hc⟩ : ∃ d, l[k]? = some d ∧ w.cell? ⟨g, k, none⟩ = some (.bool d) := by
        rcases hcell k with h | h
        · simp at h; omega
        · exact h
      have hrow := ht.cell hc id
      have Hd := Lib.hid hd
      clear hd hc hcell
      subst ha
      cases d with
      | false =>
        go_wp2
        go_roundw
        case rel => exact ⟨k + 1, by omega, by go_num, by rw [tab_congr (fun p _ => by rw [byteAt_false l k Hd.out])]; exact Hh.out, ht⟩
        case measure => simp [intOf]; omega
      | true =>
        have hk8 : k / 8 < l.length / 8 + 1 := by omega
        have hcur := tab_cell Hh.out hk8
        have hfree := tab_free Hh.out (k / 8)
        go_wp2
        go_region
        all_goals
          go_wp2
          go_roundw
          case rel =>
            refine ⟨k + 1, by omega, by go_num, ?_, Touch.drew_setCell ht (Nat.le_refl _) _⟩
            have := tab_store Hh.out (k / 8) (.int .u8 (bits BinOp.or IntKind.u8 (byteAt (l.take k) (k / 8)) (2 ^ (k % 8) % 256)))
            refine Eq.trans this ?_
            rw [or_byte _ _ (byteAt_lt _ _) (by omega)]
            congr 2
            apply tab_congr
            intro p _
            rw [byteAt_true l k Hd.out]
            split <;> simp [*]
          case measure => simp [intOf]; omega
    · obtain rfl : k = l.length := by omega
      have hk8 : l.length / 8 < l.length / 8 + 1 := by omega
      have Hq : Hid (wr.heap[w.heap.size]? = some (.cells (tab (l.length / 8 + 1) (fun p => .int .u8 (byteAt l p))) 5 (0, 0))) := by
        have := Hh.out; rwa [List.take_length] at this
      clear Hh
      have hcur := tab_cell Hq.out hk8
      have hfree := tab_free Hq.out (l.length / 8)
      have hcw := ht.cell Hc0.out id
      go_wp2
      go_region
      all_goals
        go_wp2
        go_ret
        refine ⟨rfl, ?_, Touch.drew_setCell ht (Nat.le_refl _) _⟩
        have := tab_store Hq.out (l.length / 8) (.int .u8 (bits BinOp.or IntKind.u8 (byteAt l (l.length / 8)) (2 ^ (l.length % 8) % 256)))
        refine Eq.trans this ?_
        rw [or_byte _ _ (byteAt_lt _ _) (by omega)]
        congr 2
        apply tab_congr
        intro p _
        simp only [bytesF]
        rw [byteAt_end]
        split <;> simp [*]
end Go.Proofs.Ytaacphmbkieacaa
