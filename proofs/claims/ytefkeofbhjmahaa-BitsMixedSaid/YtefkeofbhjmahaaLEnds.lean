/- The law BitsEnds, walked. -/
import Derived.Test.YtefkeofbhjmahaaK
namespace Go.Proofs.Ytefkeofbhjmahaa
open Go.RowKit Go.WideShapes
set_option linter.unusedVariables false

/-- Whole numbers that came in, as what is appended. -/
def cellsZ (k : IntKind) (z : Nat → Int) (n : Nat) : List Value := (List.range n).map fun i => .int k (z i)
theorem cellsZ_length (k : IntKind) (z : Nat → Int) (n : Nat) : (cellsZ k z n).length = n := by simp [cellsZ]
theorem cellsZ_get {k : IntKind} {z : Nat → Int} {n i : Nat} (h : i < n) : (cellsZ k z n)[i]? = some (.int k (z i)) := by simp [cellsZ, h]
theorem src_ints {P : Program} {k : IntKind} {w w' : World} {a : Option Addr} {b off len cap : Nat} {z : Nat → Int} {tx e : TypeId} (hk : P.underlying tx = some (.slice e)) (h : IntsIn k w a b off len cap z)
    (hc : ∀ i, i < len → w'.cell? ⟨b, off + i, none⟩ = some (.int k (z i))) : Src P 1 tx (.slice a len cap) len (cellsZ k z len) w' := by
  by_cases hl : len = 0
  · subst hl
    rcases a with _ | a'
    · exact Src.ofNil w' hk _
    · exact Src.ofSlice w' hk a' 0 cap [] rfl (fun j u hj => by simp at hj) (fun u hu => by cases hu)
  · have := h.at_ (by omega)
    subst this
    refine Src.ofSlice w' hk _ len cap _ (by simp [cellsZ]) (fun j u hj => ?_) (fun u hu => ?_)
    · have hj' : j < len := by
        have := (List.getElem?_eq_some_iff.1 hj).1
        simpa [cellsZ] using this
      rw [cellsZ_get hj'] at hj
      cases hj
      have hq := hc j hj'
      unfold Addr.add
      split <;> simp_all
    · simp [cellsZ] at hu
      obtain ⟨i, _, rfl⟩ := hu
      rfl

/-- An owned row of bytes can be read. -/
theorem seen_row {w : World} {B : Nat} {e : TypeId} {v : Value} {n : Nat} {xs : List Value} (h : w.ownsRow B e 1 v n xs) {g c : Nat} (hv : v = .slice (some ⟨g, 0, none⟩) n c) (z : Nat → Nat)
    (hz : ∀ i, i < n → xs[i]? = some (.int .u8 (z i))) (hlt : ∀ i, z i < 256) : Seen w (some ⟨g, 0, none⟩) g 0 n z :=
  ⟨fun _ => rfl, fun i hi => by rw [Nat.zero_add]; exact row_cell h hv (hz i hi), hlt⟩

theorem u8_wf {a : Int} (h : (Lit.int .u8 a).wf = true) : 0 ≤ a ∧ a < 256 := by
  simp [Lit.wf] at h
  have h1 : IntKind.u8.min = 0 := by decide
  have h2 : IntKind.u8.max = 255 := by decide
  omega

theorem u8_shr_zero (x j : Nat) : (((x : Int) / 2 ^ j) == 0) = decide (x < 2 ^ j) := by
  have e : ((x : Int) / 2 ^ j) = ((x / 2 ^ j : Nat) : Int) := by simp
  rw [e]
  have hp : 0 < 2 ^ j := Nat.two_pow_pos j
  by_cases h : x < 2 ^ j
  · rw [Nat.div_eq_of_lt h]; simp [h]
  · have : 0 < x / 2 ^ j := Nat.div_pos (by omega) hp
    simp [h]; omega

theorem own_app {w w1 w2 : World} {v : Value} (h : Touch (fun _ => False) w w1) (hv : OwnB w.heap.size v) (k : Touch (fun k => v.ownBlock = some k) w1 w2) : Touch (fun _ => False) w w2 :=
  h.then k fun i hi hh => by have := hv i hh; omega
theorem Touch.nothing' {w w' : World} (h : Touch (fun _ => False) w w') : Below w.heap.size w w' := h.none.below (Nat.le_refl _)

theorem shr_lt {x j : Nat} (h : x < 2 ^ j) : (((x : Int) / 2 ^ j) == 0) = true := by rw [u8_shr_zero]; simpa using h
theorem shr_ge {x j : Nat} (h : 2 ^ j ≤ x) : (((x : Int) / 2 ^ j) == 0) = false := by rw [u8_shr_zero]; simpa using h

/-- The first place, from 7 down, at which a digit of x is found; 0 where none is. -/
theorem log2_above (x j : Nat) (h : Nat.log2 x < j) : x < 2 ^ j := by
  by_cases e : x = 0
  · subst e; exact Nat.two_pow_pos _
  · exact (Nat.log2_lt e).1 h
theorem log2_at (x : Nat) (h : 0 < Nat.log2 x) : 2 ^ Nat.log2 x ≤ x := by
  have : x ≠ 0 := fun e => by subst e; simp at h
  exact Nat.log2_self_le this

set_option maxHeartbeats 1000000 in
theorem BitsEnds_in (w : World) (a0 : Option Addr) (b0 o0 l0 c0 : Nat) (z0 : Nat → Int) (w0 : IntsIn .u8 w a0 b0 o0 l0 c0 z0) (hl : l0 ≤ 100) (x : Nat) (hx : x < 256) :
    Calls Try.prog 6 #[.slice a0 l0 c0, .int .u8 x] w fun e w' => e = .returned (.bool true) ∧ Below w.heap.size w w' := by
  obtain ⟨i0, hi, hz0, hz1, hz2⟩ := info_parts Try.info5
  have d0 : decide ((100 : Int) < (l0 : Int)) = false := by simp; omega
  have hl8 := log2_lt8 x hx
  have W0 := Lib.hid w0
  clear w0
  go_enter Try.func6, Try.ntmps6
  go_wp2_with (first
    | (refine wpList_append_mine rfl (.tmp 14) (.tmp 15) 33 33 rfl 5 i0 (.int .u8 0) 1 1 Try.underlying33 hi hz0 hz1 hz2 rfl (.slice (some ⟨w.heap.size, 0, none⟩) 0 0) _ _ rfl (row_of_tab (m := 0) (F := fun _ => .int .u8 0) (heap_alloc_new _ _) (by unfold maxLen; omega)) _ l0 _ rfl (src_ints Try.underlying33 W0.out (fun i hi => ((Touch.refl (fun _ => False) w).alloc _).cell (W0.out.cell i hi) id)) (by unfold maxLen; omega) (by omega) ?_; intro a2 c2 w2 hown ht hf _; simp only [Nat.zero_add] at hown hf ⊢)
    | (refine wpList_append_mine rfl (.tmp 16) (.tmp 18) 33 33 rfl 5 i0 (.int .u8 0) 1 1 Try.underlying33 hi hz0 hz1 hz2 rfl (.slice a2 l0 c2) _ _ rfl (row_heap hown rfl) _ 1 [.int .u8 x] rfl (src_one w2 Try.underlying33 _ rfl _ rfl) (by unfold maxLen; omega) (by omega) ?_; intro a3 c3 w3 hown3 ht3 hf3 hs3))
  have hb1 : OwnB w.heap.size (.slice (some ⟨w.heap.size, 0, none⟩) 0 0) := fun k hk => by simp [Value.ownBlock] at hk; omega
  have hb2 : OwnB w.heap.size (.slice a2 l0 c2) := hb1.fresh hf ((Touch.refl (fun _ => False) w).alloc _).size
  have t2 : Touch (fun _ => False) w w2 := own_app ((Touch.refl _ w).alloc _) hb1 ht
  have t3 : Touch (fun _ => False) w w3 := own_app (t2.alloc _) hb2 ht3
  rcases row_form hown3 with ⟨h, _⟩ | ⟨g, c, h⟩
  · simp at h
  simp at h
  obtain ⟨rfl, rfl⟩ := h
  obtain ⟨z, hzd⟩ : ∃ z : Nat → Nat, z = fun i => if i < l0 then (z0 i).toNat else x := ⟨_, rfl⟩
  have hzlt : ∀ i, z i < 256 := fun i => by
    have := u8_wf (W0.out.wf i)
    rw [hzd]; dsimp; split <;> omega
  have hseen : Seen w3 (some ⟨g, 0, none⟩) g 0 (l0 + 1) z := by
    refine seen_row hown3 rfl z (fun i hi => ?_) hzlt
    simp only [List.range_zero, List.map_nil, List.nil_append]
    by_cases h : i < l0
    · rw [List.getElem?_append_left (by rw [cellsZ_length]; exact h), cellsZ_get h, hzd]
      have := u8_wf (W0.out.wf i)
      simp only [if_pos h]; congr 2; omega
    · obtain rfl : i = l0 := by omega
      rw [List.getElem?_append_right (by rw [cellsZ_length]; exact Nat.le_refl _), cellsZ_length, hzd]
      simp
  have hzl : z l0 = x := by rw [hzd]; simp
  clear hown hown3 ht ht3 hf hf3 hs3 hb1 hb2 t2 hzd
  have Seen3 := Lib.hid hseen
  clear hseen
  by_cases hx0 : x = 0
  · subst hx0
    have hc := Seen3.out.cell l0 (by omega)
    rw [hzl] at hc
    refine (newr_zero g 0 l0 _ w3 (by omega) hc).mono ?_
    rintro e w4 ⟨rfl, rfl⟩
    clear hc
    go_wp2_with fail
    go_loop [7] (fun i => ∃ k : Nat, k ≤ 7 ∧ i = .int .i64 k) (fun i => (intOf i).toNat)
    case atStart => exact ⟨7, by omega, rfl⟩
    case round =>
      obtain ⟨k, hk, rfl⟩ := hrel
      by_cases hk0 : 0 < k
      · have h1 : ((((0 : Nat) : Int) / 2 ^ k) == 0) = true := shr_lt (Nat.two_pow_pos k)
        go_wp2_with fail
        go_round
        case rel => exact ⟨k - 1, by omega, by congr 1; omega⟩
        case measure => simp [intOf]; omega
      · obtain rfl : k = 0 := by omega
        go_wp2_with fail
        refine (newr_none _ _ _).mono ?_
        rintro e w5 ⟨rfl, rfl⟩
        go_wp2_with fail
        refine (known_walk _).mono ?_
        rintro e w6 ⟨rfl, ht6⟩
        go_wp2_with fail
        go_ret
        exact ⟨rfl, (t3.trans ht6).nothing'⟩
  · have hq : ((x : Int) == 0) = false := by simp; omega
    have hq' : ((x : Int) != 0) = true := by simp; omega
    refine (newr_yes g 0 l0 _ z w3 Seen3.out (by rw [hzl]; exact hx0) (by omega)).mono ?_
    rintro e w4 ⟨rfl, v4, hw4, ht4, hf4⟩
    rw [hzl] at hw4
    have Hw4 := Lib.hid hw4
    have t4 := t3.trans ht4
    clear hw4 hf4 ht4 t3
    go_wp2_with fail
    go_loop [7] (fun i => ∃ k : Nat, Nat.log2 x ≤ k ∧ k ≤ 7 ∧ i = .int .i64 k) (fun i => (intOf i).toNat)
    case atStart => exact ⟨7, by omega, by omega, rfl⟩
    case round =>
      obtain ⟨k, hkl, hk, rfl⟩ := hrel
      by_cases hk0 : Nat.log2 x < k
      · have h1 : (((x : Int) / 2 ^ k) == 0) = true := shr_lt (log2_above x k hk0)
        have hk1 : 0 < k := by omega
        go_wp2_with fail
        go_round
        case rel => exact ⟨k - 1, by omega, by omega, by congr 1; omega⟩
        case measure => simp [intOf]; omega
      · obtain rfl : k = Nat.log2 x := by omega
        have hle : ((readBits z (8 * l0 + x.log2)).length : Int) = 8 * (l0 : Int) + (x.log2 : Int) := by rw [readBits_length]; omega
        by_cases hp : 0 < Nat.log2 x
        · have h1 : (((x : Int) / 2 ^ Nat.log2 x) == 0) = false := shr_ge (log2_at x hp)
          go_wp2_with fail
          refine (newr_none _ _ _).mono ?_
          rintro e w5 ⟨rfl, rfl⟩
          go_wp2_with fail
          refine (left_walk _ _ _ _ Hw4.out).mono ?_
          rintro e w5 ⟨rfl, rfl⟩
          rw [hle]
          go_wp2_with fail
          refine (known_walk _).mono ?_
          rintro e w6 ⟨rfl, ht6⟩
          go_wp2_with fail
          go_ret
          exact ⟨rfl, (t4.trans ht6).nothing'⟩
        · obtain hp0 : Nat.log2 x = 0 := by omega
          rw [hp0] at hle
          simp only [hp0]
          go_wp2_with fail
          refine (newr_none _ _ _).mono ?_
          rintro e w5 ⟨rfl, rfl⟩
          go_wp2_with fail
          refine (left_walk _ _ _ _ Hw4.out).mono ?_
          rintro e w5 ⟨rfl, rfl⟩
          rw [hp0, hle]
          go_wp2_with fail
          refine (known_walk _).mono ?_
          rintro e w6 ⟨rfl, ht6⟩
          go_wp2_with fail
          go_ret
          exact ⟨rfl, (t4.trans ht6).nothing'⟩

theorem BitsEnds_law (w : World) (a0 : Option Addr) (b0 o0 l0 c0 : Nat) (z0 : Nat → Int) (w0 : IntsIn .u8 w a0 b0 o0 l0 c0 z0) (a1 : Int) (w1 : (Lit.int .u8 a1).wf = true) :
    Calls Try.prog 6 #[.slice a0 l0 c0, .int .u8 a1] w fun e w' => e = .returned (.bool true) ∧ Below w.heap.size w w' := by
  by_cases hl : 100 < l0
  · clear w1
    go_enter Try.func6, Try.ntmps6
    go_wp2_with fail
    go_ret
    exact ⟨rfl, Below.refl _ _⟩
  · have := u8_wf w1
    obtain ⟨x, rfl⟩ := Int.eq_ofNat_of_zero_le this.1
    exact BitsEnds_in w a0 b0 o0 l0 c0 z0 w0 (by omega) x (by omega)
end Go.Proofs.Ytefkeofbhjmahaa
