/- bits: what is put, whatever is asked; the document's own writer. -/
import Derived.Test.YtaacphmbkieacaaBiB
namespace Go.Proofs.Ytaacphmbkieacaa
open Go.RowKit

def putOk (v n : Int) : Bool := decide (0 ≤ n ∧ n ≤ 24 ∧ 0 ≤ v ∧ v < 2 ^ n.toNat)
def putL (v n : Int) (l : List Bool) : List Bool := if putOk v n then l ++ digits v.toNat n.toNat else l

theorem put_no (b : Nat) (vv n : Int) (w : World) (h : putOk vv n = false) :
    Calls Try.prog 42 #[.pointer (some ⟨b, 0, none⟩), .int .i64 vv, .int .i64 n] w fun e w' => e = .returned (.bool false) ∧ w = w' := by
  by_cases hn : 0 ≤ n ∧ n ≤ 24
  · have hd := Lib.hid (show decide (0 ≤ n ∧ n ≤ 24) = true by simpa using hn)
    obtain ⟨n, rfl⟩ := Int.eq_ofNat_of_zero_le hn.1
    by_cases hv : vv < 0
    · clear h
      go_enter Try.func42, Try.ntmps42
      go_wp2_with (go_at_call 56; refine (many_walk _ _).mono ?_; rintro e w' ⟨rfl, rfl⟩; rw [hd.out])
      go_ret
      exact ⟨rfl, rfl⟩
    · obtain ⟨vv, rfl⟩ := Int.eq_ofNat_of_zero_le (show 0 ≤ vv by omega)
      have hp : wrap64 ((2 : Int) ^ n) ≤ (vv : Int) := by
        have h3 : ¬ vv < 2 ^ n := by
          intro hlt
          simp [putOk] at h
          have := h (by omega)
          have h4 : ((vv : Int)) < 2 ^ n := by exact_mod_cast hlt
          omega
        rw [wrap_pow n (by omega)]; exact_mod_cast Nat.le_of_not_lt h3
      clear h
      go_enter Try.func42, Try.ntmps42
      go_wp2_with (go_at_call 56; refine (many_walk _ _).mono ?_; rintro e w' ⟨rfl, rfl⟩; rw [hd.out])
      go_ret
      exact ⟨rfl, rfl⟩
  · have hd := Lib.hid (show decide (0 ≤ n ∧ n ≤ 24) = false by simpa using hn)
    clear h hn
    go_enter Try.func42, Try.ntmps42
    go_wp2_with (go_at_call 56; refine (many_walk _ _).mono ?_; rintro e w' ⟨rfl, rfl⟩; rw [hd.out])
    go_ret
    exact ⟨rfl, rfl⟩

theorem put_nil (vv n : Int) (w : World) : Calls Try.prog 42 #[.pointer none, .int .i64 vv, .int .i64 n] w fun e w' => e = .returned (.bool false) ∧ w = w' := by
  go_enter Try.func42, Try.ntmps42
  go_wp2_with fail
  go_ret
  exact ⟨rfl, rfl⟩
theorem bytes_nil (w : World) : Calls Try.prog 43 #[.pointer none] w fun e w' => e = .returned (.slice none 0 0) ∧ w = w' := by
  go_enter Try.func43, Try.ntmps43
  go_wp2_with fail
  go_ret
  exact ⟨rfl, rfl⟩

theorem putOk_yes {vv n : Int} (h : putOk vv n = true) : ∃ a k : Nat, vv = a ∧ n = k ∧ k ≤ 24 ∧ a < 2 ^ k := by
  simp [putOk] at h
  obtain ⟨k, rfl⟩ := Int.eq_ofNat_of_zero_le h.1
  obtain ⟨a, rfl⟩ := Int.eq_ofNat_of_zero_le h.2.2.1
  refine ⟨a, k, rfl, rfl, by omega, ?_⟩
  have := h.2.2.2
  simp only [Int.toNat_natCast] at this
  exact_mod_cast this

/-- Put, whatever is asked. -/
theorem put_walk (b : Nat) (vv n : Int) (w : World) (v : Value) (l : List Bool) (hw : Wr w 82 b v l) (hl : l.length ≤ 900000) :
    Calls Try.prog 42 #[.pointer (some ⟨b, 0, none⟩), .int .i64 vv, .int .i64 n] w fun e w' => e = .returned (.bool (putOk vv n)) ∧
      ∃ v', Wr w' 82 b v' (putL vv n l) ∧ Touch (Foot b v) w w' ∧ Fresh w.heap.size v v' := by
  unfold putL
  cases h : putOk vv n with
  | true =>
    obtain ⟨a, k, rfl, rfl, hk, ha⟩ := putOk_yes h
    simpa using put_yes b a k w v l hw hk ha (by omega)
  | false =>
    refine (put_no b vv n w h).mono ?_
    rintro e w' ⟨rfl, rfl⟩
    exact ⟨rfl, v, by simpa using hw, Touch.refl _ _, .inl rfl⟩

/-! ### The document's writer -/
set_option maxHeartbeats 800000 in
theorem rput_yes (b : Nat) (vv n : Nat) (w : World) (v : Value) (l : List Bool) (hw : Wr w 63 b v l) (h1 : n ≤ 24) (h3 : vv < 2 ^ n) (hl : l.length + n ≤ 1000000) :
    Calls Try.prog 45 #[.pointer (some ⟨b, 0, none⟩), .int .i64 vv, .int .i64 n] w fun e w' => e = .returned (.bool true) ∧
      ∃ v', Wr w' 63 b v' (l ++ digits vv n) ∧ Touch (Foot b v) w w' ∧ Fresh w.heap.size v v' := by
  obtain ⟨i0, hi, hz0, hz1, hz2⟩ := info_parts Try.info4
  have hp : (vv : Int) < wrap64 ((2 : Int) ^ n) := by rw [wrap_pow n h1]; exact_mod_cast h3
  have hq : decide (wrap64 ((2 : Int) ^ n) ≤ (vv : Int)) = false := by simpa using hp
  have hq' : decide ((vv : Int) < 0) = false := by simp
  have hq2 : decide ((n : Int) < 0) = false := by simp
  have hq3 : decide ((24 : Int) < (n : Int)) = false := by simp; omega
  have Hw := Lib.hid hw
  clear hw
  go_enter Try.func45, Try.ntmps45
  go_wp2_with fail
  go_loopw [7] (fun i wr => ∃ k : Nat, ∃ v' : Value, k ≤ n ∧ i = .int .i64 k ∧ Wr wr 63 b v' (l ++ digits vv k) ∧ Touch (Foot b v) w wr ∧ Fresh w.heap.size v v') (fun i _ => n - (intOf i).toNat)
  case atStart => exact ⟨0, v, by omega, rfl, by simpa [digits] using Hw.out, Touch.refl _ _, .inl rfl⟩
  case round =>
    obtain ⟨k, v', hk, rfl, hb, htw, hfr⟩ := hrel
    obtain ⟨lk, hlk⟩ : ∃ lk, l ++ digits vv k = lk := ⟨_, rfl⟩
    have hln : lk.length = l.length + k := by rw [← hlk]; simp [digits_length]
    have hlm : lk.length < 1000000 ∨ k = n := by omega
    rw [hlk] at hb
    have Hlk := Lib.hid hlk
    clear hlk hln
    have c0 : wr.cell? ⟨b, 0, none⟩ = some v' := cell_of_one hb.cell
    have f0 : wr.frozen? ⟨b, 0, none⟩ = false := free_of_one hb.cell
    have c1 : ∀ o, (wr.alloc o).cell? ⟨b, 0, none⟩ = some v' := fun o => ((Touch.refl (fun _ => False) wr).alloc o).cell c0 id
    have Hb := Lib.hid hb
    clear hb
    by_cases hlt : k < n
    · have hbit := bit_is vv k
      go_wp2_with (refine wpList_append_mine rfl (.tmp 34) (.tmp 41) 61 61 rfl 4 i0 (.bool false) 1 1 Try.underlying61 hi hz0 hz1 hz2 rfl v' _ _ rfl (row_heap Hb.out.row rfl) _ 1 [.bool (vv.testBit k)] rfl (src_one wr Try.underlying61 _ rfl _ rfl) (by unfold maxLen; omega) (by omega) ?_; intro a2 c2 w2 hown ht hf _; obtain ⟨k2, f2⟩ := wr_after ht Hb.out rfl rfl rfl rfl)
      obtain ⟨g1, g2, g3⟩ := wr_put ht Hb.out rfl rfl rfl rfl hown hf
      go_roundw
      case rel => exact ⟨k + 1, _, by omega, by go_num, by rw [digits_succ, ← List.append_assoc, Hlk.out]; exact g1, foot_then htw hfr g2, hfr.trans g3 htw.size⟩
      case measure => simp [intOf]; omega
    · obtain rfl : k = n := by omega
      go_wp2_with fail
      go_ret
      exact ⟨rfl, _, by rw [Hlk.out]; exact Hb.out, htw, hfr⟩

theorem rput_no (b : Nat) (vv n : Int) (w : World) (h : putOk vv n = false) :
    Calls Try.prog 45 #[.pointer (some ⟨b, 0, none⟩), .int .i64 vv, .int .i64 n] w fun e w' => e = .returned (.bool false) ∧ w = w' := by
  by_cases h0 : n < 0
  · clear h
    go_enter Try.func45, Try.ntmps45
    go_wp2_with fail
    go_ret
    exact ⟨rfl, rfl⟩
  by_cases h1 : 24 < n
  · clear h
    go_enter Try.func45, Try.ntmps45
    go_wp2_with fail
    go_ret
    exact ⟨rfl, rfl⟩
  obtain ⟨n, rfl⟩ := Int.eq_ofNat_of_zero_le (show 0 ≤ n by omega)
  by_cases hv : vv < 0
  · clear h
    go_enter Try.func45, Try.ntmps45
    go_wp2_with fail
    go_ret
    exact ⟨rfl, rfl⟩
  obtain ⟨vv, rfl⟩ := Int.eq_ofNat_of_zero_le (show 0 ≤ vv by omega)
  have hp : wrap64 ((2 : Int) ^ n) ≤ (vv : Int) := by
    have h3 : ¬ vv < 2 ^ n := by
      intro hlt
      simp [putOk] at h
      have := h (by omega)
      have h4 : ((vv : Int)) < 2 ^ n := by exact_mod_cast hlt
      omega
    rw [wrap_pow n (by omega)]; exact_mod_cast Nat.le_of_not_lt h3
  clear h
  go_enter Try.func45, Try.ntmps45
  go_wp2_with fail
  go_ret
  exact ⟨rfl, rfl⟩

theorem rput_walk (b : Nat) (vv n : Int) (w : World) (v : Value) (l : List Bool) (hw : Wr w 63 b v l) (hl : l.length ≤ 900000) :
    Calls Try.prog 45 #[.pointer (some ⟨b, 0, none⟩), .int .i64 vv, .int .i64 n] w fun e w' => e = .returned (.bool (putOk vv n)) ∧
      ∃ v', Wr w' 63 b v' (putL vv n l) ∧ Touch (Foot b v) w w' ∧ Fresh w.heap.size v v' := by
  unfold putL
  cases h : putOk vv n with
  | true =>
    obtain ⟨a, k, rfl, rfl, hk, ha⟩ := putOk_yes h
    simpa using rput_yes b a k w v l hw hk ha (by omega)
  | false =>
    refine (rput_no b vv n w h).mono ?_
    rintro e w' ⟨rfl, rfl⟩
    exact ⟨rfl, v, by simpa using hw, Touch.refl _ _, .inl rfl⟩

set_option maxHeartbeats 800000 in
theorem rbytes_walk (b : Nat) (v : Value) (l : List Bool) (w : World) (hw : Wr w 63 b v l) (hl : l.length ≤ 1000000) :
    Calls Try.prog 46 #[.pointer (some ⟨b, 0, none⟩)] w fun e w' => e = .returned (.slice (some ⟨w.heap.size, 0, none⟩) (l.length / 8 + 1) (l.length / 8 + 1)) ∧
      w'.heap[w.heap.size]? = some (.cells (tab (l.length / 8 + 1) (bytesF l)) 5 (0, 0)) ∧ Touch (fun _ => False) w w' := by
  have c0 : w.cell? ⟨b, 0, none⟩ = some v := cell_of_one hw.cell
  have hmk := fun w => make_bytes (l.length / 8 + 1) ((l.length : Int) / 8 + 1) (by omega) (by omega) w
  have c1 : ∀ o, (w.alloc o).cell? ⟨b, 0, none⟩ = some v := fun o => ((Touch.refl (fun _ => False) w).alloc o).cell c0 id
  obtain ⟨a, c, g, hv, hcs⟩ := wr_cells hw
  subst hv
  have Hcs := Lib.hid hcs
  have Hc0 := Lib.hid c0
  clear hw hcs
  go_enter Try.func46, Try.ntmps46
  go_wp2
  clear hmk c1
  go_loopw [4] (fun i wr => ∃ k : Nat, k ≤ l.length ∧ i = .int .i64 k ∧ wr.heap[w.heap.size]? = some (.cells (tab (l.length / 8 + 1) (fun p => .int .u8 (byteAt (l.take k) p))) 5 (0, 0)) ∧ Touch (fun _ => False) w wr) (fun i _ => l.length - (intOf i).toNat)
  case atStart =>
    refine ⟨0, by omega, rfl, ?_, (Touch.refl _ _).alloc _⟩
    rw [heap_alloc_new, tab_congr (F := fun _ => .int .u8 0)]
    intro i _
    simp [byteAt, ofBits]
  case round =>
    obtain ⟨k, hk, rfl, hh, ht⟩ := hrel
    have Hh := Lib.hid hh
    clear hh
    have hcw := ht.cell Hc0.out id
    by_cases hlt : k < l.length
    · obtain ⟨ha, hcell⟩ := Hcs.out (by omega)
      obtain ⟨d, hd, hc⟩ : ∃ d, l[k]? = some d ∧ w.cell? ⟨g, k, none⟩ = some (.bool d) := by
        rcases hcell k with h | h
        · simp at h; omega
        · exact h
      have hrow := ht.cell hc id
      have Hd := Lib.hid hd
      clear hd hc hcell
      subst ha
      cases d with
      | false =>
        go_wp2
        go_roundw
        case rel => exact ⟨k + 1, by omega, by go_num, by rw [tab_congr (fun p _ => by rw [byteAt_false l k Hd.out])]; exact Hh.out, ht⟩
        case measure => simp [intOf]; omega
      | true =>
        have hk8 : k / 8 < l.length / 8 + 1 := by omega
        have hcur := tab_cell Hh.out hk8
        have hfree := tab_free Hh.out (k / 8)
        go_wp2
        go_roundw
        case rel =>
          refine ⟨k + 1, by omega, by go_num, ?_, (ht.setCell (fun h => by simp at h) _)⟩
          have := tab_store Hh.out (k / 8) (.int .u8 (bits BinOp.or IntKind.u8 (byteAt (l.take k) (k / 8)) (2 ^ (k % 8) % 256)))
          refine Eq.trans this ?_
          rw [or_byte _ _ (byteAt_lt _ _) (by omega)]
          congr 2
          apply tab_congr
          intro p _
          rw [byteAt_true l k Hd.out]
          split <;> simp [*]
        case measure => simp [intOf]; omega
    · obtain rfl : k = l.length := by omega
      have hk8 : l.length / 8 < l.length / 8 + 1 := by omega
      have Hq : Hid (wr.heap[w.heap.size]? = some (.cells (tab (l.length / 8 + 1) (fun p => .int .u8 (byteAt l p))) 5 (0, 0))) := by
        have := Hh.out; rwa [List.take_length] at this
      clear Hh
      have hcur := tab_cell Hq.out hk8
      have hfree := tab_free Hq.out (l.length / 8)
      go_wp2
      go_ret
      refine ⟨rfl, ?_, (ht.setCell (fun h => by simp at h) _)⟩
      have := tab_store Hq.out (l.length / 8) (.int .u8 (bits BinOp.or IntKind.u8 (byteAt l (l.length / 8)) (2 ^ (l.length % 8) % 256)))
      refine Eq.trans this ?_
      rw [or_byte _ _ (byteAt_lt _ _) (by omega)]
      congr 2
      apply tab_congr
      intro p _
      simp only [bytesF]
      rw [byteAt_end]
      split <;> simp [*]
end Go.Proofs.Ytaacphmbkieacaa
