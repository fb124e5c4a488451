/- bits: the program's reader takes. -/
import Derived.Test.YtaacphmbkieacaaBiD
namespace Go.Proofs.Ytaacphmbkieacaa
open Go.RowKit

theorem left_walk (b : Nat) (v : Value) (l : List Bool) (w : World) (hw : Wr w 84 b v l) : Calls Try.prog 49 #[.pointer (some ⟨b, 0, none⟩)] w fun e w' => e = .returned (.int .i64 l.length) ∧ w = w' := by
  have c0 : w.cell? ⟨b, 0, none⟩ = some v := cell_of_one hw.cell
  rcases row_form hw.row with ⟨rfl, hn⟩ | ⟨g, c, rfl⟩
  · have Hn := Lib.hid hn
    clear hn hw
    go_enter Try.func49, Try.ntmps49
    go_wp2
    go_ret
    exact ⟨ret_int (by rw [Hn.out]; rfl), rfl⟩
  · clear hw
    go_enter Try.func49, Try.ntmps49
    go_wp2
    go_ret
    exact ⟨rfl, rfl⟩
theorem left_nil (w : World) : Calls Try.prog 49 #[.pointer none] w fun e w' => e = .returned (.int .i64 0) ∧ w = w' := by
  go_enter Try.func49, Try.ntmps49
  go_wp2
  go_ret
  exact ⟨rfl, rfl⟩
theorem take_nil (n : Int) (w : World) : Calls Try.prog 48 #[.pointer none, .int .i64 n] w fun e w' => e = .returned (.tuple #[.int .i64 0, .bool false]) ∧ w = w' := by
  go_enter Try.func48, Try.ntmps48
  go_wp2_with fail
  go_ret2
  exact ⟨rfl, rfl⟩

def takeOk (n : Int) (len : Nat) : Bool := decide (0 ≤ n ∧ n ≤ 24 ∧ n ≤ len)
def takeV (l : List Bool) (n : Nat) : Nat := ofBits (fun i => l.getD (l.length - n + i) false) n

theorem take_no (b : Nat) (v : Value) (l : List Bool) (n : Int) (w : World) (hw : Wr w 84 b v l) (h : takeOk n l.length = false) :
    Calls Try.prog 48 #[.pointer (some ⟨b, 0, none⟩), .int .i64 n] w fun e w' => e = .returned (.tuple #[.int .i64 0, .bool false]) ∧ w = w' := by
  by_cases hn : 0 ≤ n ∧ n ≤ 24
  · have hd := Lib.hid (show decide (0 ≤ n ∧ n ≤ 24) = true by simpa using hn)
    have hlt : (l.length : Int) < n := by simp [takeOk] at h; omega
    have c0 : w.cell? ⟨b, 0, none⟩ = some v := cell_of_one hw.cell
    rcases row_form hw.row with ⟨rfl, hz⟩ | ⟨g, c, rfl⟩
    · have hlt' : (0 : Int) < n := by omega
      clear hw hz h hn
      go_enter Try.func48, Try.ntmps48
      go_wp2_with (go_at_call 56; refine (many_walk _ _).mono ?_; rintro e w' ⟨rfl, rfl⟩; rw [hd.out])
      go_ret2
      exact ⟨rfl, rfl⟩
    · clear hw h hn
      go_enter Try.func48, Try.ntmps48
      go_wp2_with (go_at_call 56; refine (many_walk _ _).mono ?_; rintro e w' ⟨rfl, rfl⟩; rw [hd.out])
      go_ret2
      exact ⟨rfl, rfl⟩
  · have hd := Lib.hid (show decide (0 ≤ n ∧ n ≤ 24) = false by simpa using hn)
    clear hw h hn
    go_enter Try.func48, Try.ntmps48
    go_wp2_with (go_at_call 56; refine (many_walk _ _).mono ?_; rintro e w' ⟨rfl, rfl⟩; rw [hd.out])
    go_ret2
    exact ⟨rfl, rfl⟩

theorem wraps_i64 (n : Int) (h₀ : 0 ≤ n) (h₁ : n < 2 ^ 62) : IntKind.i64.wrap n = n := by rw [IntKind.wrap_i64]; omega
theorem or_pow (x k : Nat) (hk : k < 24) (hx : x < 2 ^ k) : bits BinOp.or IntKind.i64 (x : Int) (wrap64 (2 ^ k)) = ((x + 2 ^ k : Nat) : Int) := by
  have h2 : (2 : Nat) ^ k < 2 ^ 62 := Nat.pow_lt_pow_right (by omega) (by omega)
  rw [wrap_pow k (by omega), (bits_nat .i64 62 (by decide) wraps_i64 x (2 ^ k) (by omega) h2).2]
  have := Nat.two_pow_add_eq_or_of_lt hx 1
  rw [Nat.mul_one] at this
  rw [Nat.or_comm, ← this, Nat.add_comm]

theorem wr_cut {w : World} {b g c q p : Nat} {l : List Bool} (hw : Wr w 84 b (.slice (some ⟨g, 0, none⟩) (q + p) c) l) (hlen : l.length = q + p) :
    Wr (w.setCell ⟨b, 0, none⟩ (.slice (some ⟨g, 0, none⟩) q c)) 84 b (.slice (some ⟨g, 0, none⟩) q c) (l.take q) := by
  have hne : g ≠ b := fun e => hw.apart (by rw [e]; rfl)
  refine ⟨one_setCell hw.cell, ?_, fun e => hne (by simpa [Value.ownBlock] using e)⟩
  have hq : (l.take q).length = q := by simp; omega
  rw [hq]
  rcases hw.row.2 with ⟨h, _⟩ | ⟨g', cap, cur, h, hb, hg, hn, hcm, hcs, ht⟩
  · cases h
  · simp at h
    obtain ⟨rfl, _, rfl⟩ := h
    refine ⟨by simp; omega, .inr ⟨g, c, cur, rfl, Nat.zero_le _, ?_, by omega, hcm, hcs, ?_⟩⟩
    · rw [Below.heap_setCell _ _ _ _ (by simpa using hne)]; exact hg
    · have := congrArg (List.take q) ht
      rw [List.take_take] at this
      rw [show min q (l.length * 1) = q * 1 by omega] at this
      rw [this, List.map_take]

set_option maxHeartbeats 800000 in
theorem take_yes (b g c q p : Nat) (l : List Bool) (w : World) (hw : Wr w 84 b (.slice (some ⟨g, 0, none⟩) (q + p) c) l) (hlen : Hid (l.length = q + p)) (hp : 0 < p) (hp' : p ≤ 24) (hm : q ≤ 1000000) (hc : q + p ≤ c) :
    Calls Try.prog 48 #[.pointer (some ⟨b, 0, none⟩), .int .i64 p] w fun e w' => e = .returned (.tuple #[.int .i64 (takeV l p), .bool true]) ∧
      Wr w' 84 b (.slice (some ⟨g, 0, none⟩) q c) (l.take q) ∧ Touch (· = b) w w' := by
  have c0 : w.cell? ⟨b, 0, none⟩ = some _ := cell_of_one hw.cell
  have f0 : w.frozen? ⟨b, 0, none⟩ = false := free_of_one hw.cell
  have hd := Lib.hid (show decide (0 ≤ (p : Int) ∧ (p : Int) ≤ 24) = true by simp; omega)
  have hd2 : decide ((q : Int) + (p : Int) < (p : Int)) = false := by simp; omega
  have hcells : ∀ k, k < p → ∃ d, l.getD (q + k) false = d ∧ w.cell? ⟨g, q + k, none⟩ = some (.bool d) := fun k hk => by
    refine ⟨_, rfl, row_cell hw.row rfl ?_⟩
    have : q + k < l.length := by rw [hlen.out]; omega
    simp [List.getD_eq_getElem?_getD, this]
  have Hcells := Lib.hid hcells
  have Hw := Lib.hid hw
  clear hw hcells
  go_enter Try.func48, Try.ntmps48
  go_wp2_with (go_at_call 56; refine (many_walk _ _).mono ?_; rintro e w' ⟨rfl, rfl⟩; rw [hd.out])
  go_loop [7, 8, 9, 40] (fun v _ _ i => ∃ k : Nat, k ≤ p ∧ i = .int .i64 k ∧ v = .int .i64 (ofBits (fun i => l.getD (q + i) false) k)) (fun _ _ _ i => p - (intOf i).toNat)
  case atStart => exact ⟨0, by omega, rfl, rfl⟩
  case round =>
    obtain ⟨k, hk, rfl, rfl⟩ := hrel
    by_cases hlt : k < p
    · obtain ⟨d, hd1, hcd⟩ := Hcells.out k hlt
      have Hd1 := Lib.hid hd1
      obtain ⟨x, hx⟩ : ∃ x, ofBits (fun i => l.getD (q + i) false) k = x := ⟨_, rfl⟩
      rw [hx]
      have Hx := Lib.hid hx
      clear hd1 hx
      cases d with
      | true =>
        go_wp2_with fail
        go_round
        case rel =>
          refine ⟨k + 1, by omega, by go_num, ?_⟩
          rw [or_pow x k (by omega) (by rw [← Hx.out]; exact ofBits_lt _ _)]
          simp only [ofBits, Hx.out, Hd1.out, if_true]
        case measure => simp [intOf]; omega
      | false =>
        go_wp2_with fail
        go_round
        case rel =>
          refine ⟨k + 1, by omega, by go_num, ?_⟩
          simp only [ofBits, Hx.out, Hd1.out, if_false, Nat.add_zero, Bool.false_eq_true]
        case measure => simp [intOf]; omega
    · obtain rfl : k = p := by omega
      have Hv := Lib.hid (show ofBits (fun i => l.getD (q + i) false) k = takeV l k by unfold takeV; rw [show l.length - k = q by have := hlen.out; omega])
      rw [Hv.out]
      go_wp2_with fail
      go_ret2
      exact ⟨rfl, wr_cut Hw.out hlen.out, (Touch.refl (· = b) w).setCell (fun _ => rfl) _⟩

theorem row_cap {w : World} {B : Nat} {e : TypeId} {size : Nat} {g n c : Nat} {xs : List Value} (h : w.ownsRow B e size (.slice (some ⟨g, 0, none⟩) n c) n xs) : n ≤ c := by
  rcases h.2 with ⟨h, _⟩ | ⟨g', cap, cur, h, hb, hg, hn, hcm, hcs, ht⟩
  · cases h
  · simp at h; omega

theorem wr_same {w : World} {b : Nat} {v : Value} {l : List Bool} (hw : Wr w 84 b v l) : Wr (w.setCell ⟨b, 0, none⟩ v) 84 b v l :=
  ⟨one_setCell hw.cell, ((Touch.refl (· = b) w).setCell (p := ⟨b, 0, none⟩) (fun _ => rfl) v).row hw.row (fun k hk e => by rw [e] at hk; exact hw.apart hk), hw.apart⟩

theorem take_zero (b : Nat) (v : Value) (l : List Bool) (w : World) (hw : Wr w 84 b v l) (hm : l.length ≤ 1000000) :
    Calls Try.prog 48 #[.pointer (some ⟨b, 0, none⟩), .int .i64 0] w fun e w' => e = .returned (.tuple #[.int .i64 0, .bool true]) ∧
      Wr w' 84 b v l ∧ Touch (· = b) w w' := by
  have c0 : w.cell? ⟨b, 0, none⟩ = some v := cell_of_one hw.cell
  have f0 : w.frozen? ⟨b, 0, none⟩ = false := free_of_one hw.cell
  have hd := Lib.hid (show decide (0 ≤ (0 : Int) ∧ (0 : Int) ≤ 24) = true by decide)
  have hd2 : decide ((l.length : Int) < 0) = false := by simp
  rcases row_form hw.row with ⟨hv, hz⟩ | ⟨g, c, hv⟩
  · subst hv
    have Hw := Lib.hid hw
    clear hw hz hd2
    go_enter Try.func48, Try.ntmps48
    go_wp2_with (go_at_call 56; refine (many_walk _ _).mono ?_; rintro e w' ⟨rfl, rfl⟩; rw [hd.out])
    all_goals
      go_loop [7, 8, 9, 40] (fun v _ _ i => v = .int .i64 0 ∧ i = .int .i64 0) (fun _ _ _ _ => 0)
      case atStart => exact ⟨rfl, rfl⟩
      case round =>
        obtain ⟨rfl, rfl⟩ := hrel
        go_wp2_with fail
        go_ret2
        exact ⟨rfl, wr_same Hw.out, (Touch.refl (· = b) w).setCell (fun _ => rfl) _⟩
  · subst hv
    have hcl : l.length ≤ c := row_cap hw.row
    by_cases hcc : c = l.length
    · subst hcc
      have Hw := Lib.hid hw
      clear hw
      go_enter Try.func48, Try.ntmps48
      go_wp2_with (go_at_call 56; refine (many_walk _ _).mono ?_; rintro e w' ⟨rfl, rfl⟩; rw [hd.out])
      go_loop [7, 8, 9, 40] (fun v _ _ i => v = .int .i64 0 ∧ i = .int .i64 0) (fun _ _ _ _ => 0)
      case atStart => exact ⟨rfl, rfl⟩
      case round =>
        obtain ⟨rfl, rfl⟩ := hrel
        go_wp2_with fail
        go_ret2
        exact ⟨rfl, wr_same Hw.out, (Touch.refl (· = b) w).setCell (fun _ => rfl) _⟩
    · have Hw := Lib.hid hw
      clear hw
      go_enter Try.func48, Try.ntmps48
      go_wp2_with (go_at_call 56; refine (many_walk _ _).mono ?_; rintro e w' ⟨rfl, rfl⟩; rw [hd.out])
      go_loop [7, 8, 9, 40] (fun v _ _ i => v = .int .i64 0 ∧ i = .int .i64 0) (fun _ _ _ _ => 0)
      case atStart => exact ⟨rfl, rfl⟩
      case round =>
        obtain ⟨rfl, rfl⟩ := hrel
        go_wp2_with fail
        go_ret2
        exact ⟨rfl, wr_same Hw.out, (Touch.refl (· = b) w).setCell (fun _ => rfl) _⟩

/-- Take, whatever is asked. -/
def takenV (l : List Bool) (n : Int) : Nat := if takeOk n l.length then takeV l n.toNat else 0
def takenL (l : List Bool) (n : Int) : List Bool := if takeOk n l.length then l.take (l.length - n.toNat) else l

theorem take_walk (b : Nat) (v : Value) (l : List Bool) (n : Int) (w : World) (hw : Wr w 84 b v l) (hm : l.length ≤ 1000000) :
    Calls Try.prog 48 #[.pointer (some ⟨b, 0, none⟩), .int .i64 n] w fun e w' => e = .returned (.tuple #[.int .i64 (takenV l n), .bool (takeOk n l.length)]) ∧
      ∃ v', Wr w' 84 b v' (takenL l n) ∧ v'.ownBlock = v.ownBlock ∧ Touch (· = b) w w' := by
  unfold takenV takenL
  cases h : takeOk n l.length with
  | false =>
    refine (take_no b v l n w hw h).mono ?_
    rintro e w' ⟨rfl, rfl⟩
    exact ⟨rfl, v, by simpa using hw, rfl, Touch.refl _ _⟩
  | true =>
    simp only [if_true]
    simp [takeOk] at h
    obtain ⟨p, rfl⟩ := Int.eq_ofNat_of_zero_le h.1
    by_cases hp : p = 0
    · subst hp
      refine (take_zero b v l w hw hm).mono ?_
      rintro e w' ⟨rfl, h1, h2⟩
      exact ⟨rfl, v, by simpa using h1, rfl, h2⟩
    · have hlen : l.length = (l.length - p) + p := by omega
      rcases row_form hw.row with ⟨hv, hz⟩ | ⟨g, c, hv⟩
      · omega
      · subst hv
        have hc : l.length ≤ c := row_cap hw.row
        have := take_yes b g c (l.length - p) p l w (by rw [← hlen]; exact hw) hlen (by omega) (by omega) (by omega) (by omega)
        refine this.mono ?_
        rintro e w' ⟨rfl, h1, h2⟩
        exact ⟨rfl, .slice (some ⟨g, 0, none⟩) (l.length - p) c, by simpa using h1, rfl, h2⟩
end Go.Proofs.Ytaacphmbkieacaa
