/- bits: the program's reader. -/
import Derived.Test.YtaacphmbkieacaaBiC
import Derived.Test.YtaacphmbkieacaaShelf
import Derived.Lib.ItoaNum
namespace Go.Proofs.Ytaacphmbkieacaa
open Go.RowKit

/-- Bytes that can be read. -/
structure Seen (w : World) (a : Option Addr) (b off len : Nat) (z : Nat → Nat) : Prop where
  at_ : 0 < len → a = some ⟨b, off, none⟩
  cell : ∀ i, i < len → w.cell? ⟨b, off + i, none⟩ = some (.int .u8 (z i))
  lt : ∀ i, z i < 256

theorem Seen.touch {w w' : World} {a : Option Addr} {b off len : Nat} {z : Nat → Nat} {S : Nat → Prop} (h : Seen w a b off len z) (ht : Touch S w w') (hs : ¬ S b) : Seen w' a b off len z :=
  ⟨h.at_, fun i hi => ht.cell (h.cell i hi) hs, h.lt⟩

/-- The digits of bytes. -/
def bitOf (z : Nat → Nat) (i : Nat) : Bool := (z (i / 8)).testBit (i % 8)
def readBits (z : Nat → Nat) (n : Nat) : List Bool := (List.range n).map (bitOf z)
theorem readBits_succ (z : Nat → Nat) (n : Nat) : readBits z (n + 1) = readBits z n ++ [bitOf z n] := by simp [readBits, List.range_succ]
theorem readBits_length (z : Nat → Nat) (n : Nat) : (readBits z n).length = n := by simp [readBits]

/-- How many digits bytes hold. -/
def many (z : Nat → Nat) (len : Nat) : Nat := 8 * (len - 1) + Nat.log2 (z (len - 1))

theorem bitLen_is (x : Nat) (h : x ≠ 0) (hx : x < 2 ^ 64) : Lib.bitLen x = Nat.log2 x + 1 := by
  have hb := Lib.bitLenAux_bounds 64 x hx h
  have e : Nat.log2 x = Lib.bitLen x - 1 := by
    rw [Nat.log2_eq_iff h]
    refine ⟨hb.2.1, ?_⟩
    have := hb.2.2
    rw [show Lib.bitLen x - 1 + 1 = Lib.bitLen x from by have := hb.1; unfold Lib.bitLen; omega]
    exact this
  have := hb.1
  unfold Lib.bitLen at *
  omega
theorem log2_lt8 (x : Nat) (h : x < 256) : Nat.log2 x < 8 := by
  by_cases e : x = 0
  · subst e; decide
  · exact (Nat.log2_lt e).2 h

theorem newr_none (a : Option Addr) (cap : Nat) (w : World) :
    Calls Try.prog 47 #[.slice a 0 cap] w fun e w' => e = .returned (.tuple #[.pointer none, .bool false]) ∧ w = w' := by
  go_enter Try.func47, Try.ntmps47
  go_wp2
  go_ret2
  exact ⟨rfl, rfl⟩

theorem newr_zero (b off m cap : Nat) (w : World) (hm : m ≤ 1000000) (hc : w.cell? ⟨b, off + m, none⟩ = some (.int .u8 0)) :
    Calls Try.prog 47 #[.slice (some ⟨b, off, none⟩) (m + 1) cap] w fun e w' => e = .returned (.tuple #[.pointer none, .bool false]) ∧ w = w' := by
  have hne : ((m : Int) + 1 == 0) = false := by simp; omega
  go_enter Try.func47, Try.ntmps47
  go_wp2
  go_ret2
  exact ⟨rfl, rfl⟩

/-- What is written is one's own: nothing that was there turns. -/
theorem own_then {w w1 w2 : World} {v' : Value} (h : Touch (fun _ => False) w w1) (hf : Fresh w.heap.size (.slice none 0 0) v') (k : Touch (Foot w.heap.size v') w1 w2) : Touch (fun _ => False) w w2 :=
  h.then k fun i hi hh => by
    rcases hh with hh | hh
    · omega
    · rcases hf with hf | ⟨q, hq, hle⟩
      · rw [hf] at hh; cases hh
      · rw [hq] at hh; cases hh; omega

theorem u8_shr_bit (x j : Nat) (hx : x < 256) : (bits BinOp.and IntKind.u8 ((x : Int) / 2 ^ j) 1 == 1) = x.testBit j := by
  have e : ((x : Int) / 2 ^ j) = ((x / 2 ^ j : Nat) : Int) := by simp
  have hlt : x / 2 ^ j < 2 ^ 8 := Nat.lt_of_le_of_lt (Nat.div_le_self _ _) hx
  have h1 := (bits_nat .u8 8 (by decide) wraps_u8 (x / 2 ^ j) 1 hlt (by decide)).1
  rw [e, show ((1 : Int)) = ((1 : Nat) : Int) from rfl, h1, Nat.and_one_is_mod, Nat.testBit_eq_decide_div_mod_eq]
  by_cases h : x / 2 ^ j % 2 = 1
  · simp [h]
  · have h0 : x / 2 ^ j % 2 = 0 := by omega
    simp [h0]

set_option maxHeartbeats 1000000 in
theorem newr_yes (b off m cap : Nat) (z : Nat → Nat) (w : World) (hz : Seen w (some ⟨b, off, none⟩) b off (m + 1) z) (h : z m ≠ 0) (hm : m ≤ 100000) :
    Calls Try.prog 47 #[.slice (some ⟨b, off, none⟩) (m + 1) cap] w fun e w' => e = .returned (.tuple #[.pointer (some ⟨w.heap.size, 0, none⟩), .bool true]) ∧
      ∃ v, Wr w' 84 w.heap.size v (readBits z (8 * m + Nat.log2 (z m))) ∧ Touch (fun _ => False) w w' ∧ Fresh w.heap.size (.slice none 0 0) v := by
  obtain ⟨i0, hi, hz0, hz1, hz2⟩ := info_parts Try.info4
  have hne : ((m : Int) + 1 == 0) = false := by simp; omega
  have hc := hz.cell m (by omega)
  have hl8 := log2_lt8 (z m) (hz.lt m)
  have hlt := hz.lt m
  have hz' : ((z m : Int) == 0) = false := by simp; omega
  have hq : decide ((z m : Int) = 0) = false := by simp; omega
  have hbl := Lib.hid (bitLen_is (z m) h (by omega))
  obtain ⟨n, hn⟩ : ∃ n, 8 * m + Nat.log2 (z m) = n := ⟨_, rfl⟩
  rw [hn]
  have Hn := Lib.hid hn
  have hn1 : n ≤ 900000 := by omega
  have hn2 : n < 8 * m + 8 := by omega
  clear hn h
  have hbw : ∀ w, Calls Try.prog 57 #[.int .u8 (z m : Int)] w fun e w' => e = .returned (.int .i64 ((z m).log2 + 1 : Nat)) ∧ w = w' := fun w =>
    (Try.bits_Len8 (z m : Int) w (by omega) (by omega)).mono fun e w' ⟨h1, h2⟩ => ⟨by rw [h1, Int.toNat_natCast, hbl.out], h2.symm⟩
  have Hbw := Lib.hid hbw
  clear hbw
  go_enter Try.func47, Try.ntmps47
  go_wp2_with (go_at_call 57; refine (Hbw.out _).mono ?_; rintro e w' ⟨rfl, rfl⟩)
  rw [show (8 * (m : Int) + (((z m).log2 : Int) + 1) - 1) = (n : Int) from by have := Hn.out; omega]
  go_loopw [6, 35] (fun _ i wr => ∃ k : Nat, ∃ v' : Value, k ≤ n ∧ i = .int .i64 k ∧ Wr wr 84 w.heap.size v' (readBits z k) ∧ Touch (fun _ => False) w wr ∧ Fresh w.heap.size (.slice none 0 0) v') (fun _ i _ => n - (intOf i).toNat)
  case atStart => exact ⟨0, _, by omega, rfl, ⟨heap_alloc_new _ _, World.ownsRow_nil _ _ _ _, by simp [Value.ownBlock]⟩, (Touch.refl _ _).alloc _, .inl rfl⟩
  case round =>
    obtain ⟨k, v', hk, rfl, hb, htw, hfr⟩ := hrel
    obtain ⟨lk, hlk⟩ : ∃ lk, readBits z k = lk := ⟨_, rfl⟩
    have hln : lk.length = k := by rw [← hlk]; simp [readBits_length]
    have hlm : lk.length < 1000000 := by omega
    rw [hlk] at hb
    have Hlk := Lib.hid hlk
    clear hlk hln
    have c0 : wr.cell? ⟨w.heap.size, 0, none⟩ = some v' := cell_of_one hb.cell
    have f0 : wr.frozen? ⟨w.heap.size, 0, none⟩ = false := free_of_one hb.cell
    have c1 : ∀ o, (wr.alloc o).cell? ⟨w.heap.size, 0, none⟩ = some v' := fun o => ((Touch.refl (fun _ => False) wr).alloc o).cell c0 id
    have Hb := Lib.hid hb
    clear hb
    by_cases hlt : k < n
    · have hbit : (bits BinOp.and IntKind.u8 ((z (k / 8) : Int) / 2 ^ (k % 8)) 1 == 1) = bitOf z k := u8_shr_bit (z (k / 8)) (k % 8) (hz.lt _)
      have hcb := htw.cell (hz.cell (k / 8) (by omega)) id
      have hk8 : k / 8 < m + 1 := by omega
      have e1 : IntKind.i64.wrap ((k : Int) / 8) = (k : Int) / 8 := IntWalk.i64_in _ (by omega)
      have e2 : (0 : Int) ≤ (k : Int) / 8 := by omega
      have e3 : ((k : Int) / 8).toNat = k / 8 := by omega
      have e4 : (k : Int) / 8 < (m : Int) + 1 := by omega
      have e5 : (k : Int).tmod 8 = (k : Int) % 8 := Int.tmod_eq_emod_of_nonneg (by omega)
      have e6 : (0 : Int) ≤ (k : Int) % 8 := by omega
      have e7 : ((k : Int) % 8).toNat = k % 8 := by omega
      have e8 : min (k % 8) 8 = k % 8 := by omega
      go_wp2_with fail
      go_region_law (refine step_append_mine rfl (.tmp 42) (.tmp 53) 61 61 rfl 4 i0 (.bool false) 1 1 Try.underlying61 hi hz0 hz1 hz2 rfl v' _ _ rfl (row_heap Hb.out.row rfl) _ 1 [.bool (bitOf z k)] rfl (src_one wr Try.underlying61 _ rfl _ rfl) (by unfold maxLen; omega) (by omega) ?_; intro a2 c2 w2 hown ht hf _; obtain ⟨k2, f2⟩ := wr_after ht Hb.out rfl rfl rfl rfl)
      all_goals
        obtain ⟨g1, g2, g3⟩ := wr_put ht Hb.out rfl rfl rfl rfl hown hf
        have G1 := Lib.hid g1
        clear g1 k2 f2 hbit c1 c0 f0 ht hown e1 e2 e3 e4 e5 e6 e7 e8
        go_wp2_with fail
        go_roundw
        case rel => exact ⟨k + 1, _, by omega, by go_num, by rw [readBits_succ, Hlk.out]; exact G1.out, own_then htw hfr g2, hfr.trans g3 htw.size⟩
        case measure => simp [intOf]; omega
    · obtain rfl : k = n := by omega
      go_wp2_with fail
      go_ret2
      exact ⟨rfl, _, by rw [Hlk.out]; exact Hb.out, htw, hfr⟩
end Go.Proofs.Ytaacphmbkieacaa
