/- hash: Sum. -/
import Derived.Test.YtdhfepalphpabaaHB
namespace Go.Proofs.Ytdhfepalphpabaa
open Go.RowKit Go.WideShapes
set_option linter.unusedVariables false
set_option linter.unusedSimpArgs false
set_option maxRecDepth 100000

def step8 (h : Int) (v : Int) : Int := IntKind.u64.wrap (IntKind.u64.wrap (rotl (bits BinOp.xor IntKind.u64 h (stirV 0 v)) 27 * 11400714785074694791) + 9650029242287828579)
def step4 (h : Int) (v : Int) : Int := IntKind.u64.wrap (IntKind.u64.wrap (rotl (bits BinOp.xor IntKind.u64 h (IntKind.u64.wrap (v * 11400714785074694791))) 23 * 14029467366897019727) + 1609587929392839161)
def step1 (h : Int) (v : Int) : Int := IntKind.u64.wrap (rotl (bits BinOp.xor IntKind.u64 h (IntKind.u64.wrap (v * 2870177450012600261))) 11 * 11400714785074694791)
def aval1 (h : Int) : Int := IntKind.u64.wrap (bits BinOp.xor IntKind.u64 h (h / 8589934592) * 14029467366897019727)
def aval2 (h : Int) : Int := IntKind.u64.wrap (bits BinOp.xor IntKind.u64 h (h / 536870912) * 1609587929392839161)
def aval3 (h : Int) : Int := bits BinOp.xor IntKind.u64 h (h / 4294967296)
def tailB (y : Nat → Nat) : Nat → Nat → Int → Int
  | _, 0, h => aval3 (aval2 (aval1 h))
  | pos, m + 1, h => tailB y (pos + 1) m (step1 h (y pos))
def tail4 (y : Nat → Nat) (pos m : Nat) (h : Int) : Int :=
  if 4 ≤ m then tailB y (pos + 4) (m - 4) (step4 h (leN (fun t => y (pos + t)) 4 : Nat)) else tailB y pos m h
def tailW (y : Nat → Nat) : Nat → Nat → Nat → Int → Int
  | 0, pos, m, h => tail4 y pos m h
  | f + 1, pos, m, h => if 8 ≤ m then tailW y f (pos + 8) (m - 8) (step8 h (leN (fun t => y (pos + t)) 8 : Nat)) else tail4 y pos m h
theorem tailW_end (y : Nat → Nat) (f pos m : Nat) (h : Int) (hm : m < 8) : tailW y f pos m h = tail4 y pos m h := by
  cases f with
  | zero => rfl
  | succ f => rw [tailW, if_neg (by omega)]
theorem tailW_step (y : Nat → Nat) (f pos m : Nat) (h : Int) (hm : 8 ≤ m) (hf : m ≤ 8 * f + 7) : tailW y f pos m h = tailW y (f - 1) (pos + 8) (m - 8) (step8 h (leN (fun t => y (pos + t)) 8 : Nat)) := by
  obtain ⟨g, rfl⟩ : ∃ g, f = g + 1 := ⟨f - 1, by omega⟩
  rw [tailW, if_pos hm]; rfl
def startH (y : Nat → Nat) (n : Nat) (seed : Int) : Int := if n < 32 then IntKind.u64.wrap (seed + 2870177450012600261) else hB y seed (n / 32)
def sumV (y : Nat → Nat) (n : Nat) (seed : Int) : Int := tailW y n (32 * (n / 32)) (n % 32) (IntKind.u64.wrap (startH y n seed + n))

theorem begins_walk (seed : Int) (a : Option Addr) (b off n c : Nat) (y : Nat → Nat) (hy : ∀ i, y i < 256) (w : World) (h : Ints .u8 w a b off n (nat8 y)) (hn2 : n ≤ 100000) (hc : n ≤ c) :
    Calls Try.prog 15 #[.int .u64 seed, .slice a n c] w fun e w' => ∃ a' c', e = .returned (.tuple #[.int .u64 (startH y n seed), .slice a' (n % 32 : Nat) c']) ∧ n % 32 ≤ c' ∧ (0 < n % 32 → a' = some ⟨b, off + 32 * (n / 32), none⟩) ∧ Touch (fun _ => False) w w' := by
  unfold startH
  by_cases hn : n < 32
  · rw [if_pos hn]
    refine (begins_short seed a n c w hn).mono ?_
    rintro e w' ⟨rfl, rfl⟩
    rw [Nat.mod_eq_of_lt hn, Nat.div_eq_of_lt hn]
    exact ⟨_, _, rfl, hc, h.at_, Touch.refl _ _⟩
  · rw [if_neg hn]
    obtain rfl := h.at_ (by omega)
    exact begins_long seed b off n c (n / 32) (n % 32) (by omega) (by omega) y hy w h (by omega) hn2 hc

/-- A slice's rest, m bytes from pos on. -/
structure Rest (a : Option Addr) (b p m c : Nat) : Prop where
  at_ : 0 < m → a = some ⟨b, p, none⟩
  le : m ≤ c
theorem rest_ints {w : World} {a a' : Option Addr} {b off n c pos m : Nat} {y : Nat → Nat} (h : Ints .u8 w a b off n (nat8 y)) {p : Nat} (hr : Rest a' b p m c) (hpo : p = off + pos) (hp : pos + m ≤ n) {k : Nat} (hk : k ≤ m) : Ints .u8 w a' b p k (nat8 (fun t => y (pos + t))) :=
  ⟨fun h0 => hr.at_ (by omega), fun i hi => by
    have := h.cell (pos + i) (by omega)
    rw [← Nat.add_assoc] at this
    subst hpo
    exact this⟩

theorem row_cap {w : World} {B : Nat} {e : TypeId} {size : Nat} {g n c : Nat} {xs : List Value} (h : w.ownsRow B e size (.slice (some ⟨g, 0, none⟩) n c) n xs) : n ≤ c := by
  rcases h.2 with ⟨h, _⟩ | ⟨g', cap, cur, h, _, _, h2, _⟩
  · cases h
  · cases h; exact h2
theorem ints_row' {k : IntKind} {w : World} {e : TypeId} {v : Value} {n : Nat} {z : Nat → Int} (h : w.ownsRow 0 e 1 v n (cellsZ k z n)) : ∃ a b c, v = .slice a n c ∧ Ints k w a b 0 n z ∧ n ≤ c := by
  rcases row_form h with ⟨rfl, hn⟩ | ⟨g, c, rfl⟩
  · exact ⟨none, 0, 0, by rw [hn], ⟨fun h => by omega, fun i hi => by omega⟩, by omega⟩
  · exact ⟨_, g, c, rfl, ⟨fun _ => rfl, fun i hi => by rw [Nat.zero_add]; exact row_cell h rfl (cellsZ_get hi)⟩, row_cap h⟩

set_option maxHeartbeats 2000000 in
theorem sum_walk (seed : Int) (w : World) (a : Option Addr) (g off n c : Nat) (A : Nat → Option Addr) (B O L C : Nat → Nat) (Z : Nat → Nat → Int) (h : RowsOf w a g off n A B O L C Z) (hn : n ≤ 100000)
    (N : Nat) (hN : sumL L n = N) (hN2 : N ≤ 100000) (y : Nat → Nat) (hy : ∀ i, y i < 256) (hcat : catV L Z n = cellsZ .u8 (nat8 y) N) :
    Calls Try.prog 11 #[.int .u64 seed, .slice a n c] w fun e w' => e = .returned (.int .u64 (sumV y N seed)) ∧ Touch (fun _ => False) w w' := by
  obtain ⟨X, hX⟩ : ∃ X, sumV y N seed = X := ⟨_, rfl⟩
  rw [hX]
  have HX := Lib.hid hX
  have H := Lib.hid h
  have HN := Lib.hid hN
  have HC := Lib.hid hcat
  have HY := Lib.hid hy
  clear h hN hcat hX hy
  go_enter Try.func11, Try.ntmps11
  go_wp2_with fail
  refine (concat_walk w a g off n c A B O L C Z H.out hn (by rw [HN.out]; omega)).mono ?_
  rintro e w1 ⟨v1, rfl, hown, ob, t1⟩
  rw [HN.out, HC.out] at hown
  obtain ⟨xa, xb, xc, rfl, hx, hxc⟩ := ints_row' hown
  have HXI := Lib.hid hx
  have T1 := Lib.hid t1
  clear hown hx t1 ob
  go_wp2_with fail
  refine (begins_walk seed xa xb 0 N xc y HY.out w1 HXI.out hN2 hxc).mono ?_
  rintro e w2 ⟨a', c', rfl, hc1, hc2, t2⟩
  obtain ⟨H0, hH0⟩ : ∃ s, startH y N seed = s := ⟨_, rfl⟩
  obtain ⟨m0, hm0⟩ : ∃ m, N % 32 = m := ⟨_, rfl⟩
  obtain ⟨p0, hp0⟩ : ∃ p, 32 * (N / 32) = p := ⟨_, rfl⟩
  have hX0 := HX.out
  unfold sumV at hX0
  rw [hH0, hm0, hp0] at hX0
  rw [hH0, hm0]
  have hR : Rest a' xb p0 m0 c' := ⟨fun h => by have := hc2 (by omega); rw [hp0, Nat.zero_add] at this; exact this, by omega⟩
  have hpm : p0 + m0 = N := by omega
  have HR := Lib.hid hR
  have HX0 := Lib.hid hX0
  have T2 := Lib.hid (T1.out.trans t2)
  have HXI2 := Lib.hid (HXI.out.touch t2)
  have hm32 : m0 < 32 := by omega
  clear hc1 hc2 t2 hH0 hm0 hp0 hR hX0
  go_wp2_with fail
  go_loop [6, 7] (fun h s => ∃ f pos m c' : Nat, ∃ a' : Option Addr, ∃ hh : Int, h = .int .u64 hh ∧ s = .slice a' m c' ∧ pos + m = N ∧ m ≤ 8 * f + 7 ∧ Rest a' xb pos m c' ∧ tailW y f pos m hh = X) (fun _ s => match s with | .slice _ m _ => m | _ => 0)
  case atStart => exact ⟨N, p0, m0, c', a', _, rfl, rfl, hpm, by omega, HR.out, HX0.out⟩
  case round =>
    obtain ⟨f, pos, m, c', a', hh, rfl, rfl, hpos, hmf, hr, ht⟩ := hrel
    have HR' := Lib.hid hr
    have HT := Lib.hid ht
    have HP := Lib.hid hpos
    have hmc := hr.le
    clear hr ht hpos
    by_cases h8 : 8 ≤ m
    · obtain rfl := HR'.out.at_ (by omega)
      have g0 : decide ((8 : Int) ≤ (m : Int)) = true := by simp; omega
      have ht := HT.out
      rw [tailW_step y f pos m hh h8 hmf] at ht
      obtain ⟨v, hv⟩ : ∃ v, leN (fun t => y (pos + t)) 8 = v := ⟨_, rfl⟩
      obtain ⟨s, hs⟩ : ∃ s, stirV 0 (v : Nat) = s := ⟨_, rfl⟩
      obtain ⟨r, hrr⟩ : ∃ r, rotl (bits BinOp.xor IntKind.u64 hh s) 27 = r := ⟨_, rfl⟩
      have hst : step8 hh (v : Nat) = IntKind.u64.wrap (IntKind.u64.wrap (r * 11400714785074694791) + 9650029242287828579) := by rw [step8, hs, hrr]
      rw [hv, hst] at ht
      have HNum := Lib.hid (show ∀ cc, Calls Try.prog 18 #[.slice (some ⟨xb, pos, none⟩) 8 cc] w2 fun e w' => e = .returned (.int .u64 (v : Nat)) ∧ w2 = w' from fun cc => by
        rw [← hv]
        exact number_walk _ xb pos 8 cc _ (fun _ => HY.out _) _ (rest_ints HXI2.out HR'.out (by omega) (by have := HP.out; omega) h8) (by omega))
      have HS := Lib.hid hs
      have HRR := Lib.hid hrr
      have HT2 := Lib.hid ht
      clear hv hs hrr hst ht HT
      by_cases hc8 : c' = 8
      all_goals
        go_wp2_with fail
        refine (HNum.out _).mono ?_
        rintro e w5 ⟨rfl, rfl⟩
        go_wp2_with fail
        refine (stir_walk 0 _ _).mono ?_
        rintro e w5 ⟨rfl, rfl⟩
        rw [HS.out]
        go_wp2_with fail
        refine (rot_walk _ 27 27 rfl _ (by omega) (by omega)).mono ?_
        rintro e w5 ⟨rfl, rfl⟩
        rw [HRR.out]
        go_wp2_with fail
        go_round
        case rel => exact ⟨f - 1, pos + 8, m - 8, _, _, _, rfl, rfl, by have := HP.out; omega, by omega, ⟨fun h => by first | rfl | omega, by omega⟩, HT2.out⟩
        case measure => simp; omega
    · have ht := HT.out
      rw [tailW_end y f pos m hh (by omega)] at ht
      have g0 : decide ((8 : Int) ≤ (m : Int)) = false := by simp; omega
      by_cases h4 : 4 ≤ m
      · obtain rfl := HR'.out.at_ (by omega)
        obtain ⟨q, rfl⟩ : ∃ q, m = q + 4 := ⟨m - 4, by omega⟩
        have g4 : decide ((4 : Int) ≤ (q : Int) + 4) = true := by simp; omega
        rw [tail4, if_pos (by omega), Nat.add_sub_cancel] at ht
        obtain ⟨v, hv⟩ : ∃ v, leN (fun t => y (pos + t)) 4 = v := ⟨_, rfl⟩
        obtain ⟨r, hrr⟩ : ∃ r, rotl (bits BinOp.xor IntKind.u64 hh (IntKind.u64.wrap ((v : Nat) * 11400714785074694791))) 23 = r := ⟨_, rfl⟩
        rw [hv, step4, hrr] at ht
        have HNum := Lib.hid (show ∀ cc, Calls Try.prog 18 #[.slice (some ⟨xb, pos, none⟩) 4 cc] w2 fun e w' => e = .returned (.int .u64 (v : Nat)) ∧ w2 = w' from fun cc => by
          rw [← hv]
          exact number_walk _ xb pos 4 cc _ (fun _ => HY.out _) _ (rest_ints HXI2.out HR'.out (by omega) (by have := HP.out; omega) (by omega)) (by omega))
        have HRR := Lib.hid hrr
        have HT3 := Lib.hid ht
        clear hv hrr ht HT
        by_cases hc4 : c' = 4
        · obtain rfl : q = 0 := by omega
          have HR3 : Hid (Rest (some ⟨xb, pos, none⟩) xb (pos + 4) 0 (c' - 4)) := Lib.hid ⟨fun h => by omega, by omega⟩
          go_wp2_with fail
          refine (HNum.out _).mono ?_
          rintro e w5 ⟨rfl, rfl⟩
          go_wp2_with fail
          refine (rot_walk _ 23 23 rfl _ (by omega) (by omega)).mono ?_
          rintro e w5 ⟨rfl, rfl⟩
          rw [HRR.out]
          go_wp2_with fail
          go_loop [6, 9, 53] (fun h _ i => ∃ k : Nat, ∃ hh : Int, k ≤ 0 ∧ i = .int .i64 k ∧ h = .int .u64 hh ∧ tailB y (pos + 4 + k) (0 - k) hh = X) (fun _ _ i => 0 - (intOf i).toNat)
          case atStart => exact ⟨0, _, by omega, rfl, rfl, HT3.out⟩
          case round =>
            obtain ⟨k, hh, hk, rfl, rfl, htb⟩ := hrel
            by_cases hlt : k < 0
            · omega
            · obtain rfl : k = 0 := by omega
              rw [Nat.sub_self, tailB] at htb
              have HTB := Lib.hid htb
              clear htb
              go_wp2_with fail
              go_ret
              exact ⟨ret_int HTB.out, T2.out⟩
        · have HR3 : Hid (Rest (some ⟨xb, pos + 4, none⟩) xb (pos + 4) q (c' - 4)) := Lib.hid ⟨fun h => rfl, by omega⟩
          go_wp2_with fail
          refine (HNum.out _).mono ?_
          rintro e w5 ⟨rfl, rfl⟩
          go_wp2_with fail
          refine (rot_walk _ 23 23 rfl _ (by omega) (by omega)).mono ?_
          rintro e w5 ⟨rfl, rfl⟩
          rw [HRR.out]
          go_wp2_with fail
          go_loop [6, 9, 53] (fun h _ i => ∃ k : Nat, ∃ hh : Int, k ≤ q ∧ i = .int .i64 k ∧ h = .int .u64 hh ∧ tailB y (pos + 4 + k) (q - k) hh = X) (fun _ _ i => q - (intOf i).toNat)
          case atStart => exact ⟨0, _, by omega, rfl, rfl, HT3.out⟩
          case round =>
            obtain ⟨k, hh, hk, rfl, rfl, htb⟩ := hrel
            by_cases hlt : k < q
            · obtain ⟨d, hd⟩ : ∃ d, q - k = d + 1 := ⟨q - k - 1, by omega⟩
              rw [hd, tailB] at htb
              have e1 := (rest_ints (k := q) (pos := pos + 4) HXI2.out HR3.out (by omega) (by have := HP.out; omega) (by omega)).cell k hlt
              simp only [nat8] at e1
              obtain ⟨v, hv⟩ : ∃ v, y (pos + 4 + k) = v := ⟨_, rfl⟩
              have hv2 : v < 256 := by rw [← hv]; exact HY.out _
              have fv : IntKind.u64.wrap ((v : Nat) : Int) = (v : Nat) := wraps_u64 _ (by omega) (by omega)
              rw [hv] at e1 htb
              obtain ⟨r, hrr⟩ : ∃ r, rotl (bits BinOp.xor IntKind.u64 hh (IntKind.u64.wrap ((v : Nat) * 2870177450012600261))) 11 = r := ⟨_, rfl⟩
              rw [step1, hrr] at htb
              have HRR := Lib.hid hrr
              have HTB := Lib.hid htb
              have HD := Lib.hid hd
              clear hv hrr htb hd
              go_wp2_with fail
              refine (rot_walk _ 11 11 rfl _ (by omega) (by omega)).mono ?_
              rintro e w5 ⟨rfl, rfl⟩
              rw [HRR.out]
              go_wp2_with fail
              go_round
              case rel => exact ⟨k + 1, _, by omega, by go_num, rfl, by rw [show q - (k + 1) = d by have := HD.out; omega]; exact HTB.out⟩
              case measure => simp [intOf]; omega
            · obtain rfl : k = q := by omega
              rw [Nat.sub_self, tailB] at htb
              have HTB := Lib.hid htb
              clear htb
              go_wp2_with fail
              go_ret
              exact ⟨ret_int HTB.out, T2.out⟩
      · have g4 : decide ((4 : Int) ≤ (m : Int)) = false := by simp; omega
        rw [tail4, if_neg h4] at ht
        have HT3 := Lib.hid ht
        have HR3 := HR'
        clear ht HT
        go_wp2_with fail
        go_loop [6, 9, 53] (fun h _ i => ∃ k : Nat, ∃ hh : Int, k ≤ m ∧ i = .int .i64 k ∧ h = .int .u64 hh ∧ tailB y (pos + k) (m - k) hh = X) (fun _ _ i => m - (intOf i).toNat)
        case atStart => exact ⟨0, _, by omega, rfl, rfl, HT3.out⟩
        case round =>
          obtain ⟨k, hh, hk, rfl, rfl, htb⟩ := hrel
          by_cases hlt : k < m
          · obtain ⟨d, hd⟩ : ∃ d, m - k = d + 1 := ⟨m - k - 1, by omega⟩
            rw [hd, tailB] at htb
            obtain rfl := HR3.out.at_ (by omega)
            have e1 := (rest_ints (k := m) (pos := pos) HXI2.out HR3.out (by omega) (by have := HP.out; omega) (by omega)).cell k hlt
            simp only [nat8] at e1
            obtain ⟨v, hv⟩ : ∃ v, y (pos + k) = v := ⟨_, rfl⟩
            have hv2 : v < 256 := by rw [← hv]; exact HY.out _
            have fv : IntKind.u64.wrap ((v : Nat) : Int) = (v : Nat) := wraps_u64 _ (by omega) (by omega)
            rw [hv] at e1 htb
            obtain ⟨r, hrr⟩ : ∃ r, rotl (bits BinOp.xor IntKind.u64 hh (IntKind.u64.wrap ((v : Nat) * 2870177450012600261))) 11 = r := ⟨_, rfl⟩
            rw [step1, hrr] at htb
            have HRR := Lib.hid hrr
            have HTB := Lib.hid htb
            have HD := Lib.hid hd
            clear hv hrr htb hd
            go_wp2_with fail
            refine (rot_walk _ 11 11 rfl _ (by omega) (by omega)).mono ?_
            rintro e w5 ⟨rfl, rfl⟩
            rw [HRR.out]
            go_wp2_with fail
            go_round
            case rel => exact ⟨k + 1, _, by omega, by go_num, rfl, by rw [show m - (k + 1) = d by have := HD.out; omega]; exact HTB.out⟩
            case measure => simp [intOf]; omega
          · obtain rfl : k = m := by omega
            rw [Nat.sub_self, tailB] at htb
            have HTB := Lib.hid htb
            clear htb
            go_wp2_with fail
            go_ret
            exact ⟨ret_int HTB.out, T2.out⟩
end Go.Proofs.Ytdhfepalphpabaa
