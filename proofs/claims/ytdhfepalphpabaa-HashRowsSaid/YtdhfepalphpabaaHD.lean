/- hash: the document's Sum. -/
import Derived.Test.YtdhfepalphpabaaHC
namespace Go.Proofs.Ytdhfepalphpabaa
open Go.RowKit Go.WideShapes
set_option linter.unusedVariables false
set_option linter.unusedSimpArgs false
set_option maxRecDepth 100000

theorem rotl_wrap (x : Int) (k : Nat) : IntKind.u64.wrap (rotl x k) = rotl x k := by
  unfold rotl bits
  simp only [IntKind.wrap_u64]
  omega

theorem left_any (x kk : Int) (w : World) (h1 : 1 ≤ kk) (h2 : kk ≤ 63) : Calls Try.prog 21 #[.int .u64 x, .int .u64 kk] w fun e w' => e = .returned (.int .u64 (rotl x kk.toNat)) ∧ w = w' :=
  left_walk x kk kk.toNat (by omega) w (by omega) (by omega)

set_option maxHeartbeats 2000000 in
theorem rsum_walk (seed : Int) (w : World) (a : Option Addr) (b off n c : Nat) (y : Nat → Nat) (hy : ∀ i, y i < 256) (h : Ints .u8 w a b off n (nat8 y)) (hn2 : n ≤ 100000) (hc : n ≤ c) :
    Calls Try.prog 12 #[.int .u64 seed, .slice a n c] w fun e w' => e = .returned (.int .u64 (sumV y n seed)) ∧ Touch (fun _ => False) w w' := by
  obtain ⟨X, hX⟩ : ∃ X, sumV y n seed = X := ⟨_, rfl⟩
  rw [hX]
  have HX := Lib.hid hX
  have H := Lib.hid h
  have HY := Lib.hid hy
  clear h hX hy
  by_cases h32 : n < 32
  · have g32 : decide ((32 : Int) ≤ (n : Int)) = false := by simp; omega
    have hX0 := HX.out
    unfold sumV startH at hX0
    rw [if_pos h32, Nat.mod_eq_of_lt h32, Nat.div_eq_of_lt h32, Nat.mul_zero] at hX0
    have HX0 := Lib.hid hX0
    have HR : Hid (Rest a b off n c) := Lib.hid ⟨H.out.at_, hc⟩
    obtain ⟨p0, hp0⟩ : ∃ p, p = 0 := ⟨0, rfl⟩
    have hpm : p0 + n = n := by omega
    have HQ0 : Hid (off = off + p0) := Lib.hid (by omega)
    rw [← hp0] at HX0
    clear hX0 hp0
    have T2 : Hid (Touch (fun _ => False) w w) := Lib.hid (Touch.refl _ _)
    have HXI2 := H
    go_enter Try.func12, Try.ntmps12
    go_wp2_with fail
    go_loop [1, 6] (fun s h => ∃ f pos q m c' : Nat, ∃ a' : Option Addr, ∃ hh : Int, h = .int .u64 hh ∧ s = .slice a' m c' ∧ q = off + pos ∧ pos + m = n ∧ m ≤ 8 * f + 7 ∧ Rest a' b q m c' ∧ tailW y f pos m hh = X) (fun s _ => match s with | .slice _ m _ => m | _ => 0)
    case atStart => exact ⟨n, p0, off, n, _, _, _, rfl, rfl, HQ0.out, hpm, by omega, HR.out, HX0.out⟩
    case round =>
      obtain ⟨f, pos, q, m, c', a', hh, rfl, rfl, hq, hpos, hmf, hr, ht⟩ := hrel
      have HR' := Lib.hid hr
      have HT := Lib.hid ht
      have HP := Lib.hid hpos
      have HQ := Lib.hid hq
      have hmc := hr.le
      clear hr ht hpos hq
      by_cases h8 : 8 ≤ m
      · obtain rfl := HR'.out.at_ (by omega)
        have g0 : decide ((8 : Int) ≤ (m : Int)) = true := by simp; omega
        have ht := HT.out
        rw [tailW_step y f pos m hh h8 hmf] at ht
        obtain ⟨v, hv⟩ : ∃ v, leN (fun t => y (pos + t)) 8 = v := ⟨_, rfl⟩
        obtain ⟨s, hs⟩ : ∃ s, stirV 0 (v : Nat) = s := ⟨_, rfl⟩
        obtain ⟨r, hrr⟩ : ∃ r, rotl (bits BinOp.xor IntKind.u64 hh s) 27 = r := ⟨_, rfl⟩
        have hst : step8 hh (v : Nat) = IntKind.u64.wrap (IntKind.u64.wrap (r * 11400714785074694791) + 9650029242287828579) := by rw [step8, hs, hrr]
        rw [hv, hst] at ht
        have HNum := Lib.hid (show ∀ cc, Calls Try.prog 20 #[.slice (some ⟨b, q, none⟩) m cc, .int .i64 8] w fun e w' => e = .returned (.int .u64 (v : Nat)) ∧ w = w' from fun cc => by
          rw [← hv]
          exact word_walk _ b q m 8 cc _ (fun _ => HY.out _) _ (rest_ints (pos := pos) HXI2.out HR'.out (by have := HQ.out; omega) (by have := HP.out; omega) (Nat.le_refl _)) (by omega) h8 8 rfl)
        have HS := Lib.hid hs
        have HRR := Lib.hid hrr
        have HT2 := Lib.hid ht
        clear hv hs hrr hst ht HT
        by_cases hc8 : c' = 8
        all_goals
          go_wp2_with fail
          refine (HNum.out _).mono ?_
          rintro e w5 ⟨rfl, rfl⟩
          go_wp2_with fail
          refine (rstir_walk 0 _ _).mono ?_
          rintro e w5 ⟨rfl, rfl⟩
          rw [HS.out]
          go_wp2_with fail
          refine (left_walk _ 27 27 rfl _ (by omega) (by omega)).mono ?_
          rintro e w5 ⟨rfl, rfl⟩
          rw [HRR.out]
          go_wp2_with fail
          go_round
          case rel => exact ⟨f - 1, pos + 8, q + 8, m - 8, _, _, _, rfl, rfl, by have := HQ.out; omega, by have := HP.out; omega, by omega, ⟨fun h => by first | rfl | omega, by omega⟩, HT2.out⟩
          case measure => simp; omega
      · have ht := HT.out
        rw [tailW_end y f pos m hh (by omega)] at ht
        have g0 : decide ((8 : Int) ≤ (m : Int)) = false := by simp; omega
        by_cases h4 : 4 ≤ m
        · obtain rfl := HR'.out.at_ (by omega)
          obtain ⟨d4, rfl⟩ : ∃ q, m = q + 4 := ⟨m - 4, by omega⟩
          have g4 : decide ((4 : Int) ≤ (d4 : Int) + 4) = true := by simp; omega
          rw [tail4, if_pos (by omega), Nat.add_sub_cancel] at ht
          obtain ⟨v, hv⟩ : ∃ v, leN (fun t => y (pos + t)) 4 = v := ⟨_, rfl⟩
          obtain ⟨r, hrr⟩ : ∃ r, rotl (bits BinOp.xor IntKind.u64 hh (IntKind.u64.wrap ((v : Nat) * 11400714785074694791))) 23 = r := ⟨_, rfl⟩
          rw [hv, step4, hrr] at ht
          have HNum := Lib.hid (show ∀ cc, Calls Try.prog 20 #[.slice (some ⟨b, q, none⟩) (d4 + 4) cc, .int .i64 4] w fun e w' => e = .returned (.int .u64 (v : Nat)) ∧ w = w' from fun cc => by
            rw [← hv]
            exact word_walk _ b q (d4 + 4) 4 cc _ (fun _ => HY.out _) _ (rest_ints (pos := pos) HXI2.out HR'.out (by have := HQ.out; omega) (by have := HP.out; omega) (Nat.le_refl _)) (by omega) (by omega) 4 rfl)
          have HRR := Lib.hid hrr
          have HT3 := Lib.hid ht
          clear hv hrr ht HT
          by_cases hc4 : c' = 4
          · obtain rfl : d4 = 0 := by omega
            have HR3 : Hid (Rest (some ⟨b, q, none⟩) b (q + 4) 0 (c' - 4)) := Lib.hid ⟨fun h => by omega, by omega⟩
            go_wp2_with fail
            refine (HNum.out _).mono ?_
            rintro e w5 ⟨rfl, rfl⟩
            go_wp2_with fail
            refine (left_walk _ 23 23 rfl _ (by omega) (by omega)).mono ?_
            rintro e w5 ⟨rfl, rfl⟩
            rw [HRR.out]
            go_wp2_with fail
            go_loop [6, 11] (fun h i => ∃ k : Nat, ∃ hh : Int, k ≤ 0 ∧ i = .int .i64 k ∧ h = .int .u64 hh ∧ tailB y (pos + 4 + k) (0 - k) hh = X) (fun _ i => 0 - (intOf i).toNat)
            case atStart => exact ⟨0, _, by omega, rfl, rfl, HT3.out⟩
            case round =>
              obtain ⟨k, hh, hk, rfl, rfl, htb⟩ := hrel
              by_cases hlt : k < 0
              · omega
              · obtain rfl : k = 0 := by omega
                rw [Nat.sub_self, tailB] at htb
                have HTB := Lib.hid htb
                clear htb
                go_wp2_with fail
                go_ret
                exact ⟨ret_int HTB.out, T2.out⟩
          · have HR3 : Hid (Rest (some ⟨b, q + 4, none⟩) b (q + 4) d4 (c' - 4)) := Lib.hid ⟨fun h => rfl, by omega⟩
            go_wp2_with fail
            refine (HNum.out _).mono ?_
            rintro e w5 ⟨rfl, rfl⟩
            go_wp2_with fail
            refine (left_walk _ 23 23 rfl _ (by omega) (by omega)).mono ?_
            rintro e w5 ⟨rfl, rfl⟩
            rw [HRR.out]
            go_wp2_with fail
            go_loop [6, 11] (fun h i => ∃ k : Nat, ∃ hh : Int, k ≤ d4 ∧ i = .int .i64 k ∧ h = .int .u64 hh ∧ tailB y (pos + 4 + k) (d4 - k) hh = X) (fun _ i => d4 - (intOf i).toNat)
            case atStart => exact ⟨0, _, by omega, rfl, rfl, HT3.out⟩
            case round =>
              obtain ⟨k, hh, hk, rfl, rfl, htb⟩ := hrel
              by_cases hlt : k < d4
              · obtain ⟨d, hd⟩ : ∃ d, d4 - k = d + 1 := ⟨d4 - k - 1, by omega⟩
                rw [hd, tailB] at htb
                have e1 := (rest_ints (k := d4) (pos := pos + 4) HXI2.out HR3.out (by have := HQ.out; omega) (by have := HP.out; omega) (by omega)).cell k hlt
                simp only [nat8] at e1
                obtain ⟨v, hv⟩ : ∃ v, y (pos + 4 + k) = v := ⟨_, rfl⟩
                rw [hv] at e1 htb
                have hv2 : v < 256 := by rw [← hv]; exact HY.out _
                have fv : IntKind.u64.wrap ((v : Nat) : Int) = (v : Nat) := wraps_u64 _ (by omega) (by omega)
                obtain ⟨r, hrr⟩ : ∃ r, rotl (bits BinOp.xor IntKind.u64 hh (IntKind.u64.wrap ((v : Nat) * 2870177450012600261))) 11 = r := ⟨_, rfl⟩
                rw [step1, hrr] at htb
                have HRR := Lib.hid hrr
                have HTB := Lib.hid htb
                have HD := Lib.hid hd
                clear hv hrr htb hd
                go_wp2_with fail
                refine (left_walk _ 11 11 rfl _ (by omega) (by omega)).mono ?_
                rintro e w5 ⟨rfl, rfl⟩
                rw [HRR.out]
                go_wp2_with fail
                go_round
                case rel => exact ⟨k + 1, _, by omega, by go_num, rfl, by rw [show d4 - (k + 1) = d by have := HD.out; omega]; exact HTB.out⟩
                case measure => simp [intOf]; omega
              · obtain rfl : k = d4 := by omega
                rw [Nat.sub_self, tailB] at htb
                have HTB := Lib.hid htb
                clear htb
                go_wp2_with fail
                go_ret
                exact ⟨ret_int HTB.out, T2.out⟩
        · have g4 : decide ((4 : Int) ≤ (m : Int)) = false := by simp; omega
          rw [tail4, if_neg h4] at ht
          have HT3 := Lib.hid ht
          have HR3 := HR'
          clear ht HT
          go_wp2_with fail
          go_loop [6, 11] (fun h i => ∃ k : Nat, ∃ hh : Int, k ≤ m ∧ i = .int .i64 k ∧ h = .int .u64 hh ∧ tailB y (pos + k) (m - k) hh = X) (fun _ i => m - (intOf i).toNat)
          case atStart => exact ⟨0, _, by omega, rfl, rfl, HT3.out⟩
          case round =>
            obtain ⟨k, hh, hk, rfl, rfl, htb⟩ := hrel
            by_cases hlt : k < m
            · obtain ⟨d, hd⟩ : ∃ d, m - k = d + 1 := ⟨m - k - 1, by omega⟩
              rw [hd, tailB] at htb
              obtain rfl := HR3.out.at_ (by omega)
              have e1 := (rest_ints (k := m) (pos := pos) HXI2.out HR3.out (by have := HQ.out; omega) (by have := HP.out; omega) (by omega)).cell k hlt
              simp only [nat8] at e1
              obtain ⟨v, hv⟩ : ∃ v, y (pos + k) = v := ⟨_, rfl⟩
              rw [hv] at e1 htb
              have hv2 : v < 256 := by rw [← hv]; exact HY.out _
              have fv : IntKind.u64.wrap ((v : Nat) : Int) = (v : Nat) := wraps_u64 _ (by omega) (by omega)
              obtain ⟨r, hrr⟩ : ∃ r, rotl (bits BinOp.xor IntKind.u64 hh (IntKind.u64.wrap ((v : Nat) * 2870177450012600261))) 11 = r := ⟨_, rfl⟩
              rw [step1, hrr] at htb
              have HRR := Lib.hid hrr
              have HTB := Lib.hid htb
              have HD := Lib.hid hd
              clear hv hrr htb hd
              go_wp2_with fail
              refine (left_walk _ 11 11 rfl _ (by omega) (by omega)).mono ?_
              rintro e w5 ⟨rfl, rfl⟩
              rw [HRR.out]
              go_wp2_with fail
              go_round
              case rel => exact ⟨k + 1, _, by omega, by go_num, rfl, by rw [show m - (k + 1) = d by have := HD.out; omega]; exact HTB.out⟩
              case measure => simp [intOf]; omega
            · obtain rfl : k = m := by omega
              rw [Nat.sub_self, tailB] at htb
              have HTB := Lib.hid htb
              clear htb
              go_wp2_with fail
              go_ret
              exact ⟨ret_int HTB.out, T2.out⟩

  · obtain rfl := H.out.at_ (by omega)
    have g32 : decide ((32 : Int) ≤ (n : Int)) = true := by simp; omega
    have hX0 := HX.out
    unfold sumV startH at hX0
    rw [if_neg h32] at hX0
    have HX0 := Lib.hid hX0
    clear hX0
    go_enter Try.func12, Try.ntmps12
    go_wp2_with fail
    go_loopw [1, 9] (fun s _ wr => ∃ B m c' : Nat, ∃ a' : Option Addr, n = 32 * B + m ∧ m ≤ c' ∧ s = .slice a' m c' ∧ (0 < m → a' = some ⟨b, off + 32 * B, none⟩) ∧ wr.heap[w.heap.size]? = some (.cells (tab4 (laneB y seed B)) 22 (0, 0)) ∧ Touch (fun _ => False) w wr) (fun s _ _ => match s with | .slice _ m _ => m | _ => 0)
    case atStart => exact ⟨0, n, c, _, by omega, hc, rfl, fun _ => rfl, by rw [tab4_is]; exact heap_alloc_new w _, Touch.new w _⟩
    case round =>
      obtain ⟨B, m, c', a', hm, hmc, rfl, ha', hh, ht⟩ := hrel
      have HH := Lib.hid hh
      have HM := Lib.hid hm
      clear hh hm
      by_cases hlt : 32 ≤ m
      · obtain rfl := ha' (by omega)
        clear ha'
        have h32' : decide ((32 : Int) ≤ (m : Int)) = true := by simp; omega
        go_wp2_with fail
        go_loopw [9] (fun i w2 => ∃ k : Nat, k ≤ 4 ∧ i = .int .i64 k ∧ w2.heap[w.heap.size]? = some (.cells (tab4 (laneI y seed B k)) 22 (0, 0)) ∧ Touch (fun _ => False) w w2) (fun i _ => 4 - (intOf i).toNat)
        case atStart => exact ⟨0, by omega, rfl, HH.out, ht⟩
        case round =>
          obtain ⟨k, hk, rfl, hh, ht2⟩ := hrel
          have H2 := Lib.hid hh
          by_cases hk4 : k < 4
          · have hI : Ints .u8 wr.drew (some ⟨b, off + 32 * B + 8 * k, none⟩) b (off + 32 * B + 8 * k) (m - 8 * k) (nat8 (fun t => y (32 * B + 8 * k + t))) := ⟨fun _ => rfl, fun i hi => by
              have := (H.out.touch ht2.drew).cell (32 * B + 8 * k + i) (by have := HM.out; omega)
              rw [← Nat.add_assoc, ← Nat.add_assoc] at this
              exact this⟩
            have HI := Lib.hid hI
            obtain ⟨l, hl⟩ : ∃ l, laneI y seed B k k = l := ⟨_, rfl⟩
            obtain ⟨v, hv⟩ : ∃ v, leN (fun t => y (32 * B + 8 * k + t)) 8 = v := ⟨_, rfl⟩
            obtain ⟨s, hs⟩ : ∃ s, stirV l v = s := ⟨_, rfl⟩
            have hcell : wr.cell? ⟨w.heap.size, k, none⟩ = some (.int .u64 l) := by rw [← hl]; exact tab_cell H2.out hk4
            have hfree : wr.frozen? ⟨w.heap.size, k, none⟩ = false := tab_free H2.out k
            have f1 : IntKind.i64.wrap (8 * (k : Int)) = 8 * (k : Int) := IntWalk.i64_in _ (by omega)
            have g1 : (0 : Int) ≤ 8 * (k : Int) := by omega
            have g2 : (8 : Int) * (k : Int) ≤ m := by omega
            have g3 : (8 : Int) * (k : Int) ≤ c' := by omega
            have g4 : (8 * (k : Int)).toNat = 8 * k := by omega
            have g6 : ¬ c' = 8 * k := by omega
            clear hI hh
            go_wp2_with fail
            go_region_law (first | (go_simp; go_at_call 19; refine (rstir_walk _ _ _).mono ?_; rintro e w5 ⟨rfl, rfl⟩) | (go_simp; go_at_call 20; refine (word_walk _ b (off + 32 * B + 8 * k) (m - 8 * k) 8 _ (fun t => y (32 * B + 8 * k + t)) (fun _ => HY.out _) _ HI.out (by omega) (by omega) 8 rfl).mono ?_; rintro e w4 ⟨rfl, rfl⟩))
            all_goals
              go_wp2_with fail
              go_roundw
              case rel =>
                refine ⟨k + 1, by omega, by go_num, ?_, Touch.drew_setCell ht2 (Nat.le_refl _) _⟩
                refine Eq.trans (tab_store H2.out k (.int .u64 s)) ?_
                unfold tab4
                congr 2
                apply tab_congr
                intro i _
                have : s = laneB y seed (B + 1) k := by
                  rw [← hs, ← hl, ← hv]
                  show _ = stirV (laneB y seed B k) _
                  congr 1
                  unfold laneI; rw [if_neg (by omega)]
                unfold laneI
                by_cases e : i = k
                · subst e; rw [if_pos rfl, if_pos (by omega), this]
                · rw [if_neg e]
                  by_cases e2 : i < k
                  · rw [if_pos e2, if_pos (by omega)]
                  · rw [if_neg e2, if_neg (by omega)]
              case measure => simp [intOf]; omega
          · obtain rfl : k = 4 := by omega
            have h4 : wr.heap[w.heap.size]? = some (.cells (tab4 (laneB y seed (B + 1))) 22 (0, 0)) := hh
            have H4 := Lib.hid h4
            clear hh h4 H2
            by_cases hc32 : c' = 32
            · have hm32 : m = 32 := by omega
              subst hm32 hc32
              go_wp2_with fail
              go_roundw
              case rel => exact ⟨B + 1, 0, 0, _, by have := HM.out; omega, by omega, rfl, fun h => by omega, H4.out, ht2⟩
              case measure => simp
            · go_wp2_with fail
              go_roundw
              case rel => exact ⟨B + 1, m - 32, c' - 32, _, by have := HM.out; omega, by omega, rfl, fun _ => by rw [show off + 32 * (B + 1) = off + 32 * B + 32 by omega], H4.out, ht2⟩
              case measure => simp; omega
      · have hB : n / 32 = B := by have := HM.out; omega
        have hm : n % 32 = m := by have := HM.out; omega
        have hX0 := HX0.out
        rw [hB, hm] at hX0
        obtain ⟨L, hL⟩ : ∃ L, laneB y seed B = L := ⟨_, rfl⟩
        rw [hL] at HH
        have hHB : Go.Proofs.Ytdhfepalphpabaa.hB y seed B = foldL L 4 (sumL4 L 4) := by rw [← hL]; rfl
        have hs4 : sumL4 L 4 = IntKind.u64.wrap (IntKind.u64.wrap (IntKind.u64.wrap (rotl (L 0) 1 + rotl (L 1) 7) + rotl (L 2) 12) + rotl (L 3) 18) := by
          show IntKind.u64.wrap (IntKind.u64.wrap (IntKind.u64.wrap (IntKind.u64.wrap (0 + rotl (L 0) 1) + rotl (L 1) 7) + rotl (L 2) 12) + rotl (L 3) 18) = _
          rw [Int.zero_add, rotl_wrap]
        rw [hHB, hs4] at hX0
        have HX1 := Lib.hid hX0
        have HR0 : Hid (Rest a' b (off + 32 * B) m c') := Lib.hid ⟨fun h => ha' h, hmc⟩
        have hbad : decide ((32 : Int) ≤ (m : Int)) = false := by simp; omega
        have cc := fun i (hi : i < 4) => tab_cell (show wr.heap[w.heap.size]? = some (.cells (tab 4 (fun i => .int .u64 (L i))) 22 (0, 0)) from HH.out) hi
        have c0 : ∀ q, (wr.drewN q).cell? ⟨w.heap.size, 0, none⟩ = some (.int .u64 (L 0)) := fun q => (Touch.eq_drewN (S := fun _ => False) wr q).cell (cc 0 (by omega)) id
        have c1 : ∀ q, (wr.drewN q).cell? ⟨w.heap.size, 1, none⟩ = some (.int .u64 (L 1)) := fun q => (Touch.eq_drewN (S := fun _ => False) wr q).cell (cc 1 (by omega)) id
        have c2 : ∀ q, (wr.drewN q).cell? ⟨w.heap.size, 2, none⟩ = some (.int .u64 (L 2)) := fun q => (Touch.eq_drewN (S := fun _ => False) wr q).cell (cc 2 (by omega)) id
        have c3 : ∀ q, (wr.drewN q).cell? ⟨w.heap.size, 3, none⟩ = some (.int .u64 (L 3)) := fun q => (Touch.eq_drewN (S := fun _ => False) wr q).cell (cc 3 (by omega)) id
        have CC := Lib.hid cc
        have T9 := Lib.hid ht
        clear hX0 hHB hs4 hB hm hL ha' cc ht
        go_wp2_with fail
        go_quiet ((go_at_call 21; exact quiet_same (left_any _ _ _ (by omega) (by omega))))
        go_wp2_with fail
        obtain ⟨s, hs⟩ : ∃ s, IntKind.u64.wrap (IntKind.u64.wrap (IntKind.u64.wrap (rotl (L 0) 1 + rotl (L 1) 7) + rotl (L 2) 12) + rotl (L 3) 18) = s := ⟨_, rfl⟩
        rw [show Int.toNat 1 = 1 from rfl, show Int.toNat 7 = 7 from rfl, show Int.toNat 12 = 12 from rfl, show Int.toNat 18 = 18 from rfl]
        rw [hs]
        rw [hs] at HX1
        clear hs
        obtain ⟨W9, rfl⟩ : ∃ W, W = wr := ⟨_, rfl⟩
        go_loopw [6, 10] (fun h i w2 => ∃ k q : Nat, k ≤ 4 ∧ i = .int .i64 k ∧ h = .int .u64 (foldL L k s) ∧ w2 = W9.drewN q) (fun _ i _ => 4 - (intOf i).toNat)
        case atStart => exact ⟨0, _, by omega, rfl, rfl, rfl⟩
        case round =>
          obtain ⟨k, q, hk, rfl, rfl, rfl⟩ := hrel
          by_cases hk4 : k < 4
          · have e1 : ∀ q, (W9.drewN q).cell? ⟨w.heap.size, k, none⟩ = some (.int .u64 (L k)) := fun q => (Touch.eq_drewN (S := fun _ => False) W9 q).cell (CC.out k hk4) id
            obtain ⟨t, ht⟩ : ∃ t, foldL L k s = t := ⟨_, rfl⟩
            obtain ⟨z, hz⟩ : ∃ z, stirV 0 (L k) = z := ⟨_, rfl⟩
            have hnew : foldL L (k + 1) s = IntKind.u64.wrap (IntKind.u64.wrap (bits BinOp.xor IntKind.u64 t z * 11400714785074694791) + 9650029242287828579) := by rw [foldL, ht, comb, hz]
            have HN := Lib.hid hnew
            have HQ := Lib.hid hz
            rw [ht]
            clear hnew hz ht c0 c1 c2 c3
            go_wp2_with fail
            refine (rstir_walk 0 _ _).mono ?_
            rintro e w5 ⟨rfl, rfl⟩
            rw [HQ.out]
            go_wp2_with fail
            go_roundw
            case rel => exact ⟨k + 1, q, by omega, by go_num, by rw [HN.out], rfl⟩
            case measure => simp [intOf]; omega
          · obtain rfl : k = 4 := by omega
            obtain ⟨t, ht⟩ : ∃ t, foldL L 4 s = t := ⟨_, rfl⟩
            have hX2 := HX1.out
            rw [ht] at hX2 ⊢
            have HX3 := Lib.hid hX2
            obtain ⟨W8, hW8⟩ : ∃ W, W9.drewN q = W := ⟨_, rfl⟩
            have T2 : Hid (Touch (fun _ => False) w W8) := Lib.hid (by rw [← hW8]; exact T9.out.drewN q)
            have HXI2 := Lib.hid (H.out.touch T2.out)
            have hpm : 32 * B + m = n := by have := HM.out; omega
            have HQ0 : Hid (off + 32 * B = off + 32 * B) := Lib.hid rfl
            rw [hW8]
            obtain ⟨p0, hp0⟩ : ∃ p, 32 * B = p := ⟨_, rfl⟩
            obtain ⟨q0, hq0⟩ : ∃ p, off + p0 = p := ⟨_, rfl⟩
            rw [hp0] at HX3 HR0 hpm HQ0
            rw [hq0] at HR0
            have HQ1 : Hid (q0 = off + p0) := Lib.hid hq0.symm
            clear hX2 ht hW8 hp0 hq0 c0 c1 c2 c3 CC
            go_wp2_with fail
            go_loop [1, 6] (fun s h => ∃ f pos q m c' : Nat, ∃ a' : Option Addr, ∃ hh : Int, h = .int .u64 hh ∧ s = .slice a' m c' ∧ q = off + pos ∧ pos + m = n ∧ m ≤ 8 * f + 7 ∧ Rest a' b q m c' ∧ tailW y f pos m hh = X) (fun s _ => match s with | .slice _ m _ => m | _ => 0)
            case atStart => exact ⟨n, p0, q0, m, _, _, _, rfl, rfl, HQ1.out, hpm, by omega, HR0.out, HX3.out⟩
            case round =>
              obtain ⟨f, pos, q, m, c', a', hh, rfl, rfl, hq, hpos, hmf, hr, ht⟩ := hrel
              have HR' := Lib.hid hr
              have HT := Lib.hid ht
              have HP := Lib.hid hpos
              have HQ := Lib.hid hq
              have hmc := hr.le
              clear hr ht hpos hq
              by_cases h8 : 8 ≤ m
              · obtain rfl := HR'.out.at_ (by omega)
                have g0 : decide ((8 : Int) ≤ (m : Int)) = true := by simp; omega
                have ht := HT.out
                rw [tailW_step y f pos m hh h8 hmf] at ht
                obtain ⟨v, hv⟩ : ∃ v, leN (fun t => y (pos + t)) 8 = v := ⟨_, rfl⟩
                obtain ⟨s, hs⟩ : ∃ s, stirV 0 (v : Nat) = s := ⟨_, rfl⟩
                obtain ⟨r, hrr⟩ : ∃ r, rotl (bits BinOp.xor IntKind.u64 hh s) 27 = r := ⟨_, rfl⟩
                have hst : step8 hh (v : Nat) = IntKind.u64.wrap (IntKind.u64.wrap (r * 11400714785074694791) + 9650029242287828579) := by rw [step8, hs, hrr]
                rw [hv, hst] at ht
                have HNum := Lib.hid (show ∀ cc, Calls Try.prog 20 #[.slice (some ⟨b, q, none⟩) m cc, .int .i64 8] W8 fun e w' => e = .returned (.int .u64 (v : Nat)) ∧ W8 = w' from fun cc => by
                  rw [← hv]
                  exact word_walk _ b q m 8 cc _ (fun _ => HY.out _) _ (rest_ints (pos := pos) HXI2.out HR'.out (by have := HQ.out; omega) (by have := HP.out; omega) (Nat.le_refl _)) (by omega) h8 8 rfl)
                have HS := Lib.hid hs
                have HRR := Lib.hid hrr
                have HT2 := Lib.hid ht
                clear hv hs hrr hst ht HT
                by_cases hc8 : c' = 8
                all_goals
                  go_wp2_with fail
                  refine (HNum.out _).mono ?_
                  rintro e w5 ⟨rfl, rfl⟩
                  go_wp2_with fail
                  refine (rstir_walk 0 _ _).mono ?_
                  rintro e w5 ⟨rfl, rfl⟩
                  rw [HS.out]
                  go_wp2_with fail
                  refine (left_walk _ 27 27 rfl _ (by omega) (by omega)).mono ?_
                  rintro e w5 ⟨rfl, rfl⟩
                  rw [HRR.out]
                  go_wp2_with fail
                  go_round
                  case rel => exact ⟨f - 1, pos + 8, q + 8, m - 8, _, _, _, rfl, rfl, by have := HQ.out; omega, by have := HP.out; omega, by omega, ⟨fun h => by first | rfl | omega, by omega⟩, HT2.out⟩
                  case measure => simp; omega
              · have ht := HT.out
                rw [tailW_end y f pos m hh (by omega)] at ht
                have g0 : decide ((8 : Int) ≤ (m : Int)) = false := by simp; omega
                by_cases h4 : 4 ≤ m
                · obtain rfl := HR'.out.at_ (by omega)
                  obtain ⟨d4, rfl⟩ : ∃ q, m = q + 4 := ⟨m - 4, by omega⟩
                  have g4 : decide ((4 : Int) ≤ (d4 : Int) + 4) = true := by simp; omega
                  rw [tail4, if_pos (by omega), Nat.add_sub_cancel] at ht
                  obtain ⟨v, hv⟩ : ∃ v, leN (fun t => y (pos + t)) 4 = v := ⟨_, rfl⟩
                  obtain ⟨r, hrr⟩ : ∃ r, rotl (bits BinOp.xor IntKind.u64 hh (IntKind.u64.wrap ((v : Nat) * 11400714785074694791))) 23 = r := ⟨_, rfl⟩
                  rw [hv, step4, hrr] at ht
                  have HNum := Lib.hid (show ∀ cc, Calls Try.prog 20 #[.slice (some ⟨b, q, none⟩) (d4 + 4) cc, .int .i64 4] W8 fun e w' => e = .returned (.int .u64 (v : Nat)) ∧ W8 = w' from fun cc => by
                    rw [← hv]
                    exact word_walk _ b q (d4 + 4) 4 cc _ (fun _ => HY.out _) _ (rest_ints (pos := pos) HXI2.out HR'.out (by have := HQ.out; omega) (by have := HP.out; omega) (Nat.le_refl _)) (by omega) (by omega) 4 rfl)
                  have HRR := Lib.hid hrr
                  have HT3 := Lib.hid ht
                  clear hv hrr ht HT
                  by_cases hc4 : c' = 4
                  · obtain rfl : d4 = 0 := by omega
                    have HR3 : Hid (Rest (some ⟨b, q, none⟩) b (q + 4) 0 (c' - 4)) := Lib.hid ⟨fun h => by omega, by omega⟩
                    go_wp2_with fail
                    refine (HNum.out _).mono ?_
                    rintro e w5 ⟨rfl, rfl⟩
                    go_wp2_with fail
                    refine (left_walk _ 23 23 rfl _ (by omega) (by omega)).mono ?_
                    rintro e w5 ⟨rfl, rfl⟩
                    rw [HRR.out]
                    go_wp2_with fail
                    go_loop [6, 11] (fun h i => ∃ k : Nat, ∃ hh : Int, k ≤ 0 ∧ i = .int .i64 k ∧ h = .int .u64 hh ∧ tailB y (pos + 4 + k) (0 - k) hh = X) (fun _ i => 0 - (intOf i).toNat)
                    case atStart => exact ⟨0, _, by omega, rfl, rfl, HT3.out⟩
                    case round =>
                      obtain ⟨k, hh, hk, rfl, rfl, htb⟩ := hrel
                      by_cases hlt : k < 0
                      · omega
                      · obtain rfl : k = 0 := by omega
                        rw [Nat.sub_self, tailB] at htb
                        have HTB := Lib.hid htb
                        clear htb
                        go_wp2_with fail
                        go_ret
                        exact ⟨ret_int HTB.out, T2.out⟩
                  · have HR3 : Hid (Rest (some ⟨b, q + 4, none⟩) b (q + 4) d4 (c' - 4)) := Lib.hid ⟨fun h => rfl, by omega⟩
                    go_wp2_with fail
                    refine (HNum.out _).mono ?_
                    rintro e w5 ⟨rfl, rfl⟩
                    go_wp2_with fail
                    refine (left_walk _ 23 23 rfl _ (by omega) (by omega)).mono ?_
                    rintro e w5 ⟨rfl, rfl⟩
                    rw [HRR.out]
                    go_wp2_with fail
                    go_loop [6, 11] (fun h i => ∃ k : Nat, ∃ hh : Int, k ≤ d4 ∧ i = .int .i64 k ∧ h = .int .u64 hh ∧ tailB y (pos + 4 + k) (d4 - k) hh = X) (fun _ i => d4 - (intOf i).toNat)
                    case atStart => exact ⟨0, _, by omega, rfl, rfl, HT3.out⟩
                    case round =>
                      obtain ⟨k, hh, hk, rfl, rfl, htb⟩ := hrel
                      by_cases hlt : k < d4
                      · obtain ⟨d, hd⟩ : ∃ d, d4 - k = d + 1 := ⟨d4 - k - 1, by omega⟩
                        rw [hd, tailB] at htb
                        have e1 := (rest_ints (k := d4) (pos := pos + 4) HXI2.out HR3.out (by have := HQ.out; omega) (by have := HP.out; omega) (by omega)).cell k hlt
                        simp only [nat8] at e1
                        obtain ⟨v, hv⟩ : ∃ v, y (pos + 4 + k) = v := ⟨_, rfl⟩
                        rw [hv] at e1 htb
                        have hv2 : v < 256 := by rw [← hv]; exact HY.out _
                        have fv : IntKind.u64.wrap ((v : Nat) : Int) = (v : Nat) := wraps_u64 _ (by omega) (by omega)
                        obtain ⟨r, hrr⟩ : ∃ r, rotl (bits BinOp.xor IntKind.u64 hh (IntKind.u64.wrap ((v : Nat) * 2870177450012600261))) 11 = r := ⟨_, rfl⟩
                        rw [step1, hrr] at htb
                        have HRR := Lib.hid hrr
                        have HTB := Lib.hid htb
                        have HD := Lib.hid hd
                        clear hv hrr htb hd
                        go_wp2_with fail
                        refine (left_walk _ 11 11 rfl _ (by omega) (by omega)).mono ?_
                        rintro e w5 ⟨rfl, rfl⟩
                        rw [HRR.out]
                        go_wp2_with fail
                        go_round
                        case rel => exact ⟨k + 1, _, by omega, by go_num, rfl, by rw [show d4 - (k + 1) = d by have := HD.out; omega]; exact HTB.out⟩
                        case measure => simp [intOf]; omega
                      · obtain rfl : k = d4 := by omega
                        rw [Nat.sub_self, tailB] at htb
                        have HTB := Lib.hid htb
                        clear htb
                        go_wp2_with fail
                        go_ret
                        exact ⟨ret_int HTB.out, T2.out⟩
                · have g4 : decide ((4 : Int) ≤ (m : Int)) = false := by simp; omega
                  rw [tail4, if_neg h4] at ht
                  have HT3 := Lib.hid ht
                  have HR3 := HR'
                  clear ht HT
                  go_wp2_with fail
                  go_loop [6, 11] (fun h i => ∃ k : Nat, ∃ hh : Int, k ≤ m ∧ i = .int .i64 k ∧ h = .int .u64 hh ∧ tailB y (pos + k) (m - k) hh = X) (fun _ i => m - (intOf i).toNat)
                  case atStart => exact ⟨0, _, by omega, rfl, rfl, HT3.out⟩
                  case round =>
                    obtain ⟨k, hh, hk, rfl, rfl, htb⟩ := hrel
                    by_cases hlt : k < m
                    · obtain ⟨d, hd⟩ : ∃ d, m - k = d + 1 := ⟨m - k - 1, by omega⟩
                      rw [hd, tailB] at htb
                      obtain rfl := HR3.out.at_ (by omega)
                      have e1 := (rest_ints (k := m) (pos := pos) HXI2.out HR3.out (by have := HQ.out; omega) (by have := HP.out; omega) (by omega)).cell k hlt
                      simp only [nat8] at e1
                      obtain ⟨v, hv⟩ : ∃ v, y (pos + k) = v := ⟨_, rfl⟩
                      rw [hv] at e1 htb
                      have hv2 : v < 256 := by rw [← hv]; exact HY.out _
                      have fv : IntKind.u64.wrap ((v : Nat) : Int) = (v : Nat) := wraps_u64 _ (by omega) (by omega)
                      obtain ⟨r, hrr⟩ : ∃ r, rotl (bits BinOp.xor IntKind.u64 hh (IntKind.u64.wrap ((v : Nat) * 2870177450012600261))) 11 = r := ⟨_, rfl⟩
                      rw [step1, hrr] at htb
                      have HRR := Lib.hid hrr
                      have HTB := Lib.hid htb
                      have HD := Lib.hid hd
                      clear hv hrr htb hd
                      go_wp2_with fail
                      refine (left_walk _ 11 11 rfl _ (by omega) (by omega)).mono ?_
                      rintro e w5 ⟨rfl, rfl⟩
                      rw [HRR.out]
                      go_wp2_with fail
                      go_round
                      case rel => exact ⟨k + 1, _, by omega, by go_num, rfl, by rw [show m - (k + 1) = d by have := HD.out; omega]; exact HTB.out⟩
                      case measure => simp [intOf]; omega
                    · obtain rfl : k = m := by omega
                      rw [Nat.sub_self, tailB] at htb
                      have HTB := Lib.hid htb
                      clear htb
                      go_wp2_with fail
                      go_ret
                      exact ⟨ret_int HTB.out, T2.out⟩

end Go.Proofs.Ytdhfepalphpabaa
