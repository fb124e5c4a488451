/- bits: the document's own reader. -/
import Derived.Test.YtaacphmbkieacaaBiE
namespace Go.Proofs.Ytaacphmbkieacaa
open Go.RowKit

/-- The document's reader: its cell's block; the bytes that it reads; how many digits are left. -/
structure Rd (w : World) (t : Nat) (v : Value) (n : Nat) : Prop where
  cell : w.heap[t]? = some (.cells #[v, .int .i64 n] 75 (0, 0))

theorem rnewr_none (a : Option Addr) (cap : Nat) (w : World) :
    Calls Try.prog 50 #[.slice a 0 cap] w fun e w' => e = .returned (.tuple #[.pointer none, .bool false]) ∧ w = w' := by
  go_enter Try.func50, Try.ntmps50
  go_wp2
  go_ret2
  exact ⟨rfl, rfl⟩

theorem rnewr_zero (b off m cap : Nat) (w : World) (hm : m ≤ 1000000) (hc : w.cell? ⟨b, off + m, none⟩ = some (.int .u8 0)) :
    Calls Try.prog 50 #[.slice (some ⟨b, off, none⟩) (m + 1) cap] w fun e w' => e = .returned (.tuple #[.pointer none, .bool false]) ∧ w = w' := by
  have hne : ((m : Int) + 1 == 0) = false := by simp; omega
  go_enter Try.func50, Try.ntmps50
  go_wp2
  go_ret2
  exact ⟨rfl, rfl⟩

theorem u8_bit_zero (x j : Nat) (hx : x < 256) : (bits BinOp.and IntKind.u8 ((x : Int) / 2 ^ j) 1 == 0) = !x.testBit j := by
  have e : ((x : Int) / 2 ^ j) = ((x / 2 ^ j : Nat) : Int) := by simp
  have hlt : x / 2 ^ j < 2 ^ 8 := Nat.lt_of_le_of_lt (Nat.div_le_self _ _) hx
  have h1 := (bits_nat .u8 8 (by decide) wraps_u8 (x / 2 ^ j) 1 hlt (by decide)).1
  rw [e, show ((1 : Int)) = ((1 : Nat) : Int) from rfl, h1, Nat.and_one_is_mod, Nat.testBit_eq_decide_div_mod_eq]
  by_cases h : x / 2 ^ j % 2 = 1
  · simp [h]
  · have h0 : x / 2 ^ j % 2 = 0 := by omega
    simp [h0]

theorem testBit_log2 (x : Nat) (h : x ≠ 0) : x.testBit (Nat.log2 x) = true := by
  have h1 : 2 ^ Nat.log2 x ≤ x := Nat.log2_self_le h
  have h2 : x < 2 ^ (Nat.log2 x + 1) := Nat.lt_log2_self
  rw [Nat.testBit_eq_decide_div_mod_eq]
  have : x / 2 ^ Nat.log2 x = 1 := by
    rw [Nat.pow_succ] at h2
    have a := Nat.div_lt_of_lt_mul (show x < 2 ^ Nat.log2 x * 2 by omega)
    have b : 1 ≤ x / 2 ^ Nat.log2 x := (Nat.le_div_iff_mul_le (Nat.two_pow_pos _)).2 (by omega)
    omega
  simp [this]
theorem testBit_above (x j : Nat) (h : Nat.log2 x < j) : x.testBit j = false := by
  apply Nat.testBit_lt_two_pow
  by_cases e : x = 0
  · subst e; exact Nat.two_pow_pos _
  · exact (Nat.log2_lt e).1 h

set_option maxHeartbeats 800000 in
theorem rnewr_yes (b off m cap : Nat) (z : Nat → Nat) (w : World) (hz : Seen w (some ⟨b, off, none⟩) b off (m + 1) z) (h : z m ≠ 0) (hm : m ≤ 100000) :
    Calls Try.prog 50 #[.slice (some ⟨b, off, none⟩) (m + 1) cap] w fun e w' => e = .returned (.tuple #[.pointer (some ⟨w.heap.size, 0, none⟩), .bool true]) ∧
      Rd w' w.heap.size (.slice (some ⟨b, off, none⟩) (m + 1) cap) (8 * m + Nat.log2 (z m)) ∧ Touch (fun _ => False) w w' := by
  have hne : ((m : Int) + 1 == 0) = false := by simp; omega
  have hc := hz.cell m (by omega)
  have hl8 := log2_lt8 (z m) (hz.lt m)
  have hz' : ((z m : Int) == 0) = false := by simp; omega
  have hq : decide ((z m : Int) = 0) = false := by simp; omega
  have H := Lib.hid h
  clear h
  go_enter Try.func50, Try.ntmps50
  go_wp2
  go_loop [4] (fun i => ∃ x : Nat, 8 * m + Nat.log2 (z m) ≤ x ∧ x < 8 * m + 8 ∧ i = .int .i64 x) (fun i => (intOf i).toNat)
  case atStart => exact ⟨8 * m + 7, by omega, by omega, by congr 1; omega⟩
  case round =>
    obtain ⟨x, hx, hx8, rfl⟩ := hrel
    have hdiv : x / 8 = m := by omega
    have hcx : w.cell? ⟨b, off + x / 8, none⟩ = some (.int .u8 (z m)) := by rw [hdiv]; exact hc
    by_cases he : x = 8 * m + Nat.log2 (z m)
    · have hbit : (bits BinOp.and IntKind.u8 ((z m : Int) / 2 ^ (x % 8)) 1 == 0) = false := by
        rw [u8_bit_zero _ _ (hz.lt m), show x % 8 = Nat.log2 (z m) by omega, testBit_log2 _ H.out]; rfl
      have He := Lib.hid he
      clear he hdiv
      go_wp2
      go_ret2
      exact ⟨rfl, ⟨by rw [← He.out]; exact heap_alloc_new _ _⟩, (Touch.refl _ _).alloc _⟩
    · have hbit : (bits BinOp.and IntKind.u8 ((z m : Int) / 2 ^ (x % 8)) 1 == 0) = true := by
        rw [u8_bit_zero _ _ (hz.lt m), testBit_above _ _ (by omega)]; rfl
      have hx1 : 1 ≤ x := by omega
      clear hdiv
      go_wp2
      go_round
      case rel => exact ⟨x - 1, by omega, by omega, by congr 1; omega⟩
      case measure => simp [intOf]; omega

set_option maxHeartbeats 800000 in
theorem rtake_no (t : Nat) (v : Value) (n : Int) (N : Nat) (w : World) (hw : Rd w t v N) (h : takeOk n N = false) :
    Calls Try.prog 51 #[.pointer (some ⟨t, 0, none⟩), .int .i64 n] w fun e w' => e = .returned (.tuple #[.int .i64 0, .bool false]) ∧ w = w' := by
  have c1 : w.cell? ⟨t, 1, none⟩ = some (.int .i64 N) := by simp [World.cell?, hw.cell]
  by_cases h0 : n < 0
  · clear h
    go_enter Try.func51, Try.ntmps51
    go_wp2
    go_ret2
    exact ⟨rfl, rfl⟩
  by_cases h1 : 24 < n
  · clear h
    go_enter Try.func51, Try.ntmps51
    go_wp2
    go_ret2
    exact ⟨rfl, rfl⟩
  have hlt : (N : Int) < n := by simp [takeOk] at h; omega
  clear h
  go_enter Try.func51, Try.ntmps51
  go_wp2
  go_ret2
  exact ⟨rfl, rfl⟩

theorem ret_pair {k : IntKind} {a b : Int} {v : Value} (h : a = b) : Ending.returned (.tuple #[.int k a, v]) = .returned (.tuple #[.int k b, v]) := by rw [h]

/-- Digits from the highest on. -/
theorem ofBits_shift (f : Nat → Bool) (n : Nat) : ofBits f (n + 1) = 2 * ofBits (fun i => f (i + 1)) n + (if f 0 then 1 else 0) := by
  induction n with
  | zero => simp [ofBits]
  | succ n ih =>
    rw [ofBits, ih]
    simp only [ofBits]
    rw [Nat.pow_succ]
    by_cases hf : f (n + 1) <;> simp [hf] <;> omega

theorem or_low (x d : Nat) (hx : x < 2 ^ 30) (hd : d < 2) : bits BinOp.or IntKind.i64 ((x : Int) * 2) (d : Int) = ((2 * x + d : Nat) : Int) := by
  have e : ((x : Int) * 2) = ((2 * x : Nat) : Int) := by omega
  rw [e, (bits_nat .i64 62 (by decide) wraps_i64 (2 * x) d (by omega) (by omega)).2]
  have := Nat.two_pow_add_eq_or_of_lt (i := 1) (b := d) (by omega) x
  rw [← this]
theorem u8_and_one (x j : Nat) (hx : x < 256) : bits BinOp.and IntKind.u8 ((x : Int) / 2 ^ j) 1 = (((if x.testBit j then 1 else 0) : Nat) : Int) := by
  have e : ((x : Int) / 2 ^ j) = ((x / 2 ^ j : Nat) : Int) := by simp
  have hlt : x / 2 ^ j < 2 ^ 8 := Nat.lt_of_le_of_lt (Nat.div_le_self _ _) hx
  have h1 := (bits_nat .u8 8 (by decide) wraps_u8 (x / 2 ^ j) 1 hlt (by decide)).1
  rw [e, show ((1 : Int)) = ((1 : Nat) : Int) from rfl, h1, Nat.and_one_is_mod, Nat.testBit_eq_decide_div_mod_eq]
  by_cases h : x / 2 ^ j % 2 = 1
  · simp [h]
  · have h0 : x / 2 ^ j % 2 = 0 := by omega
    simp [h0]

set_option maxHeartbeats 1000000 in
theorem rtake_yes (t b off len cap q p : Nat) (a : Option Addr) (z : Nat → Nat) (w : World) (hw : Rd w t (.slice a len cap) (q + p)) (hz : Seen w a b off len z) (hq : q + p ≤ 8 * len) (hm : len ≤ 100000) (hp' : p ≤ 24) (hne : t ≠ b) :
    Calls Try.prog 51 #[.pointer (some ⟨t, 0, none⟩), .int .i64 p] w fun e w' => e = .returned (.tuple #[.int .i64 (ofBits (fun i => bitOf z (q + i)) p), .bool true]) ∧
      Rd w' t (.slice a len cap) q ∧ Touch (· = t) w w' := by
  have c0 : w.cell? ⟨t, 0, none⟩ = some (.slice a len cap) := by simp [World.cell?, hw.cell]
  have c1 : w.cell? ⟨t, 1, none⟩ = some (.int .i64 (q + p : Nat)) := by simp [World.cell?, hw.cell]
  have f1 : w.frozen? ⟨t, 1, none⟩ = false := by simp [World.frozen?, hw.cell]
  have d0 : decide ((p : Int) < 0) = false := by simp
  have d1 : decide ((24 : Int) < (p : Int)) = false := by simp; omega
  have d2 : decide ((q : Int) + (p : Int) < (p : Int)) = false := by simp; omega
  have hrd : ∀ u, (w.setCell ⟨t, 1, none⟩ (.int .i64 u)).heap[t]? = some (.cells #[.slice a len cap, .int .i64 u] 75 (0, 0)) := fun u => by
    rw [heap_setCell_same hw.cell]; simp
  have Hrd := Lib.hid (hrd q)
  clear hrd
  have Hz := Lib.hid hz
  clear hw hz
  go_enter Try.func51, Try.ntmps51
  go_wp2
  go_loop [6, 7, 8] (fun v i _ => ∃ j : Nat, j ≤ p ∧ i = .int .i64 ((j : Int) - 1) ∧ v = .int .i64 (ofBits (fun i => bitOf z (q + j + i)) (p - j))) (fun _ i _ => (intOf i + 1).toNat)
  case atStart => exact ⟨p, by omega, rfl, by simp [ofBits]⟩
  case round =>
    obtain ⟨j, hj, rfl, rfl⟩ := hrel
    obtain ⟨x, hx⟩ : ∃ x, ofBits (fun i => bitOf z (q + j + i)) (p - j) = x := ⟨_, rfl⟩
    rw [hx]
    have hxl : x < 2 ^ 24 := by rw [← hx]; exact Nat.lt_of_lt_of_le (ofBits_lt _ _) (Nat.pow_le_pow_right (by omega) (by omega))
    have hxl' : (x : Int) < 16777216 := by omega
    have Hx := Lib.hid hx
    clear hx
    by_cases hlt : 0 < j
    · obtain ⟨j, rfl⟩ : ∃ k, j = k + 1 := ⟨j - 1, by omega⟩
      rw [show ((j + 1 : Nat) : Int) - 1 = j from by omega]
      have hat := Hz.out.at_ (by omega)
      subst hat
      have hcb := ((Touch.refl (· = t) w).setCell (p := ⟨t, 1, none⟩) (fun _ => rfl) (.int .i64 q)).cell (Hz.out.cell ((q + j) / 8) (by omega)) (by simpa using Ne.symm hne)
      have hi8 : (q + j) / 8 < len := by omega
      have hand := u8_and_one (z ((q + j) / 8)) ((q + j) % 8) (Hz.out.lt _)
      obtain ⟨d, hd⟩ : ∃ d : Nat, (if (z ((q + j) / 8)).testBit ((q + j) % 8) then 1 else 0) = d := ⟨_, rfl⟩
      rw [hd] at hand
      have hd2 : d < 2 := by rw [← hd]; split <;> omega
      have hd3 : (d : Int) ≤ 1 := by omega
      have Hd := Lib.hid hd
      clear hd
      have hor : bits BinOp.or IntKind.i64 ((x : Int) * 2) (d : Int) = _ := or_low x d (by omega) hd2
      go_wp2
      go_round
      case rel =>
        refine ⟨j, by omega, rfl, ?_⟩
        rw [show p - j = (p - (j + 1)) + 1 by omega, ofBits_shift]
        rw [show (fun i => bitOf z (q + j + (i + 1))) = fun i => bitOf z (q + (j + 1) + i) from funext fun i => by congr 1; omega, Hx.out]
        have hb : (if bitOf z (q + j + 0) = true then 1 else 0) = d := Hd.out
        rw [hb]
        congr 1
      case measure => simp [intOf]
    · obtain rfl : j = 0 := by omega
      have Hx2 := Lib.hid (show x = ofBits (fun i => bitOf z (q + i)) p by have := Hx.out; simpa using this.symm)
      go_wp2
      go_ret2
      exact ⟨ret_pair (by rw [← Hx2.out]), ⟨Hrd.out⟩, (Touch.refl (· = t) w).setCell (fun _ => rfl) _⟩

theorem takeV_read (z : Nat → Nat) (q p : Nat) : takeV (readBits z (q + p)) p = ofBits (fun i => bitOf z (q + i)) p := by
  unfold takeV
  apply ofBits_congr
  intro j hj
  rw [readBits_length, show q + p - p = q by omega]
  simp [readBits, List.getD_eq_getElem?_getD, show q + j < q + p by omega]
theorem readBits_take (z : Nat → Nat) (n k : Nat) (h : k ≤ n) : (readBits z n).take k = readBits z k := by
  unfold readBits
  rw [← List.map_take, List.take_range, Nat.min_eq_left h]

/-- Take, whatever is asked: the document's reader of bytes z. -/
theorem rtake_walk (t b off len cap N : Nat) (a : Option Addr) (z : Nat → Nat) (n : Int) (w : World) (hw : Rd w t (.slice a len cap) N) (hz : Seen w a b off len z) (hq : N ≤ 8 * len) (hm : len ≤ 100000) (hne : t ≠ b) :
    Calls Try.prog 51 #[.pointer (some ⟨t, 0, none⟩), .int .i64 n] w fun e w' => e = .returned (.tuple #[.int .i64 (takenV (readBits z N) n), .bool (takeOk n N)]) ∧
      Rd w' t (.slice a len cap) (if takeOk n N then N - n.toNat else N) ∧ takenL (readBits z N) n = readBits z (if takeOk n N then N - n.toNat else N) ∧ Touch (· = t) w w' := by
  unfold takenV takenL
  rw [readBits_length]
  cases h : takeOk n N with
  | false =>
    refine (rtake_no t _ n N w hw h).mono ?_
    rintro e w' ⟨rfl, rfl⟩
    exact ⟨rfl, by simpa using hw, by simp, Touch.refl _ _⟩
  | true =>
    simp only [if_true]
    simp [takeOk] at h
    obtain ⟨p, rfl⟩ := Int.eq_ofNat_of_zero_le h.1
    obtain ⟨q, rfl⟩ : ∃ q, N = q + p := ⟨N - p, by omega⟩
    refine (rtake_yes t b off len cap q p a z w hw hz (by omega) hm (by omega) hne).mono ?_
    rintro e w' ⟨rfl, h1, h2⟩
    refine ⟨?_, ?_, ?_, h2⟩
    · rw [Int.toNat_natCast, takeV_read]
    · simpa using h1
    · rw [readBits_take _ _ _ (by simp)]
end Go.Proofs.Ytaacphmbkieacaa
