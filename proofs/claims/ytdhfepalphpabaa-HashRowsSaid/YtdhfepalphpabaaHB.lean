/- hash: the lanes. -/
import Derived.Test.YtdhfepalphpabaaHA
namespace Go.Proofs.Ytdhfepalphpabaa
open Go.RowKit Go.WideShapes
set_option linter.unusedVariables false
set_option linter.unusedSimpArgs false
set_option maxRecDepth 100000

/-- The four lanes, at first and behind B times 32 bytes. -/
def lane0 (seed : Int) : Nat → Int
  | 0 => IntKind.u64.wrap (IntKind.u64.wrap (seed + 11400714785074694791) + 14029467366897019727)
  | 1 => IntKind.u64.wrap (seed + 14029467366897019727)
  | 2 => seed
  | _ => IntKind.u64.wrap (seed - 11400714785074694791)
def laneB (y : Nat → Nat) (seed : Int) : Nat → Nat → Int
  | 0 => lane0 seed
  | B + 1 => fun i => stirV (laneB y seed B i) (leN (fun t => y (32 * B + 8 * i + t)) 8 : Nat)
/-- Lanes, the first i of which have taken 32 bytes more. -/
def laneI (y : Nat → Nat) (seed : Int) (B i : Nat) : Nat → Int := fun k => if k < i then laneB y seed (B + 1) k else laneB y seed B k
def comb (h x : Int) : Int := IntKind.u64.wrap (IntKind.u64.wrap (bits BinOp.xor IntKind.u64 h (stirV 0 x) * 11400714785074694791) + 9650029242287828579)
def foldL (L : Nat → Int) : Nat → Int → Int
  | 0, h => h
  | k + 1, h => comb (foldL L k h) (L k)
def byOf (i : Nat) : Nat := match i with | 0 => 1 | 1 => 7 | 2 => 12 | _ => 18
def sumL4 (L : Nat → Int) : Nat → Int
  | 0 => 0
  | k + 1 => IntKind.u64.wrap (sumL4 L k + rotl (L k) (byOf k))
def hB (y : Nat → Nat) (seed : Int) (B : Nat) : Int := foldL (laneB y seed B) 4 (sumL4 (laneB y seed B) 4)

def tab4 (F : Nat → Int) : Array Value := tab 4 (fun i => .int .u64 (F i))
theorem tab4_is (F : Nat → Int) : tab4 F = #[.int .u64 (F 0), .int .u64 (F 1), .int .u64 (F 2), .int .u64 (F 3)] := rfl

theorem idx0 (a b c d : Int) (w : World) : (Instr.index 47 (.agg #[.int .u64 a, .int .u64 b, .int .u64 c, .int .u64 d]) (.int .i64 0)).run Try.prog w = .ok (.int .u64 a) w := by
  simp [Instr.index, run_underlying Try.underlying47, asIntOf, go_sem]
theorem idx1 (a b c d : Int) (w : World) : (Instr.index 47 (.agg #[.int .u64 a, .int .u64 b, .int .u64 c, .int .u64 d]) (.int .i64 1)).run Try.prog w = .ok (.int .u64 b) w := by
  simp [Instr.index, run_underlying Try.underlying47, asIntOf, go_sem]
theorem idx2 (a b c d : Int) (w : World) : (Instr.index 47 (.agg #[.int .u64 a, .int .u64 b, .int .u64 c, .int .u64 d]) (.int .i64 2)).run Try.prog w = .ok (.int .u64 c) w := by
  simp [Instr.index, run_underlying Try.underlying47, asIntOf, go_sem]
theorem idx3 (a b c d : Int) (w : World) : (Instr.index 47 (.agg #[.int .u64 a, .int .u64 b, .int .u64 c, .int .u64 d]) (.int .i64 3)).run Try.prog w = .ok (.int .u64 d) w := by
  simp [Instr.index, run_underlying Try.underlying47, asIntOf, go_sem]

theorem begins_short (seed : Int) (a : Option Addr) (n c : Nat) (w : World) (hn : n < 32) : Calls Try.prog 15 #[.int .u64 seed, .slice a n c] w fun e w' => e = .returned (.tuple #[.int .u64 (IntKind.u64.wrap (seed + 2870177450012600261)), .slice a n c]) ∧ w = w' := by
  have q : decide ((n : Int) < 32) = true := by simp; omega
  go_enter Try.func15, Try.ntmps15
  go_wp2_with fail
  go_ret2
  exact ⟨rfl, rfl⟩

theorem Touch.drew_setCell {w w' : World} (ht : Touch (fun _ => False) w w') {p : Addr} (hp : w.heap.size ≤ p.block) (u : Value) : Touch (fun _ => False) w (w'.setCell p u).drew :=
  (ht.setCell (fun h => by omega) u).drew

set_option maxHeartbeats 2000000 in
theorem begins_long (seed : Int) (b off n c Bn r : Nat) (hnr : n = 32 * Bn + r) (hr : r < 32) (y : Nat → Nat) (hy : ∀ i, y i < 256) (w : World) (h : Ints .u8 w (some ⟨b, off, none⟩) b off n (nat8 y)) (hn : 32 ≤ n) (hn2 : n ≤ 100000) (hc : n ≤ c) :
    Calls Try.prog 15 #[.int .u64 seed, .slice (some ⟨b, off, none⟩) n c] w fun e w' => ∃ a' c', e = .returned (.tuple #[.int .u64 (hB y seed Bn), .slice a' r c']) ∧ r ≤ c' ∧ (0 < r → a' = some ⟨b, off + 32 * Bn, none⟩) ∧ Touch (fun _ => False) w w' := by
  have q : decide ((n : Int) < 32) = false := by simp; omega
  have H := Lib.hid h
  have HY := Lib.hid hy
  obtain ⟨X, hX⟩ : ∃ X, hB y seed Bn = X := ⟨_, rfl⟩
  rw [hX]
  have HX := Lib.hid hX
  have HNR := Lib.hid hnr
  clear h hy hX hnr
  go_enter Try.func15, Try.ntmps15
  go_wp2_with fail
  go_loopw [1, 8, 36] (fun s _ _ wr => ∃ B m c' : Nat, ∃ a' : Option Addr, n = 32 * B + m ∧ m ≤ c' ∧ s = .slice a' m c' ∧ (0 < m → a' = some ⟨b, off + 32 * B, none⟩) ∧ wr.heap[w.heap.size]? = some (.cells (tab4 (laneB y seed B)) 47 (0, 0)) ∧ Touch (fun _ => False) w wr) (fun s _ _ _ => match s with | .slice _ m _ => m | _ => 0)
  case atStart => exact ⟨0, n, c, _, by omega, hc, rfl, fun _ => rfl, by rw [tab4_is]; exact heap_alloc_new w _, Touch.new w _⟩
  case round =>
    obtain ⟨B, m, c', a', hm, hmc, rfl, ha', hh, ht⟩ := hrel
    have HH := Lib.hid hh
    have HM := Lib.hid hm
    clear hh hm
    by_cases hlt : 32 ≤ m
    · obtain rfl := ha' (by omega)
      clear ha'
      have h32 : decide ((32 : Int) ≤ (m : Int)) = true := by simp; omega
      go_wp2_with fail
      go_loopw [8, 36] (fun _ i w2 => ∃ k : Nat, k ≤ 4 ∧ i = .int .i64 k ∧ w2.heap[w.heap.size]? = some (.cells (tab4 (laneI y seed B k)) 47 (0, 0)) ∧ Touch (fun _ => False) w w2) (fun _ i _ => 4 - (intOf i).toNat)
      case atStart => exact ⟨0, by omega, rfl, HH.out, ht⟩
      case round =>
        obtain ⟨k, hk, rfl, hh, ht2⟩ := hrel
        have H2 := Lib.hid hh
        by_cases hk4 : k < 4
        · have hI : Ints .u8 wr.drew (some ⟨b, off + 32 * B + 8 * k, none⟩) b (off + 32 * B + 8 * k) 8 (nat8 (fun t => y (32 * B + 8 * k + t))) := ⟨fun _ => rfl, fun i hi => by
            have := (H.out.touch ht2.drew).cell (32 * B + 8 * k + i) (by have := HM.out; omega)
            rw [← Nat.add_assoc, ← Nat.add_assoc] at this
            exact this⟩
          have HI := Lib.hid hI
          obtain ⟨l, hl⟩ : ∃ l, laneI y seed B k k = l := ⟨_, rfl⟩
          obtain ⟨v, hv⟩ : ∃ v, leN (fun t => y (32 * B + 8 * k + t)) 8 = v := ⟨_, rfl⟩
          obtain ⟨s, hs⟩ : ∃ s, stirV l v = s := ⟨_, rfl⟩
          have hcell : wr.cell? ⟨w.heap.size, k, none⟩ = some (.int .u64 l) := by rw [← hl]; exact tab_cell H2.out hk4
          have hfree : wr.frozen? ⟨w.heap.size, k, none⟩ = false := tab_free H2.out k
          have f1 : IntKind.i64.wrap (8 * (k : Int)) = 8 * (k : Int) := IntWalk.i64_in _ (by omega)
          have f2 : IntKind.i64.wrap ((k : Int) + 1) = (k : Int) + 1 := IntWalk.i64_in _ (by omega)
          have f3 : IntKind.i64.wrap (8 * ((k : Int) + 1)) = 8 * (k : Int) + 8 := by rw [IntWalk.i64_in _ (by omega)]; omega
          have g1 : (0 : Int) ≤ 8 * (k : Int) := by omega
          have g2 : (8 : Int) * (k : Int) ≤ 8 * (k : Int) + 8 := by omega
          have g3 : (8 : Int) * (k : Int) + 8 ≤ c' := by omega
          have g4 : (8 * (k : Int)).toNat = 8 * k := by omega
          have g5 : (8 * (k : Int) + 8).toNat = 8 * k + 8 := by omega
          have g6 : ¬ c' = 8 * k := by omega
          clear hI hh
          go_wp2_with fail
          go_region_law (first | (go_simp; go_at_call 17; refine (stir_walk _ _ _).mono ?_; rintro e w5 ⟨rfl, rfl⟩) | (go_simp; go_at_call 18; refine (number_walk _ b (off + 32 * B + 8 * k) 8 _ (fun t => y (32 * B + 8 * k + t)) (fun _ => HY.out _) _ HI.out (by omega)).mono ?_; rintro e w4 ⟨rfl, rfl⟩))
          all_goals
            go_wp2_with fail
            go_roundw
            case rel =>
              refine ⟨k + 1, by omega, by go_num, ?_, Touch.drew_setCell ht2 (Nat.le_refl _) _⟩
              refine Eq.trans (tab_store H2.out k (.int .u64 s)) ?_
              unfold tab4
              congr 2
              apply tab_congr
              intro i _
              have : s = laneB y seed (B + 1) k := by
                rw [← hs, ← hl, ← hv]
                show _ = stirV (laneB y seed B k) _
                congr 1
                unfold laneI; rw [if_neg (by omega)]
              unfold laneI
              by_cases e : i = k
              · subst e; rw [if_pos rfl, if_pos (by omega), this]
              · rw [if_neg e]
                by_cases e2 : i < k
                · rw [if_pos e2, if_pos (by omega)]
                · rw [if_neg e2, if_neg (by omega)]
            case measure => simp [intOf]; omega
        · obtain rfl : k = 4 := by omega
          have h4 : wr.heap[w.heap.size]? = some (.cells (tab4 (laneB y seed (B + 1))) 47 (0, 0)) := hh
          have H4 := Lib.hid h4
          clear hh h4 H2
          by_cases hc32 : c' = 32
          · have hm32 : m = 32 := by omega
            subst hm32 hc32
            go_wp2_with fail
            go_roundw
            case rel => exact ⟨B + 1, 0, 0, _, by have := HM.out; omega, by omega, rfl, fun h => by omega, H4.out, ht2⟩
            case measure => simp
          · go_wp2_with fail
            go_roundw
            case rel => exact ⟨B + 1, m - 32, c' - 32, _, by have := HM.out; omega, by omega, rfl, fun _ => by rw [show off + 32 * (B + 1) = off + 32 * B + 32 by omega], H4.out, ht2⟩
            case measure => simp; omega
    · have h1 := HM.out
      have h2 := HNR.out
      obtain rfl : B = Bn := by omega
      obtain rfl : m = r := by omega
      clear h1 h2
      obtain ⟨L, hL⟩ : ∃ L, laneB y seed B = L := ⟨_, rfl⟩
      rw [hL] at HH
      have HHb := Lib.hid (show X = foldL L 4 (sumL4 L 4) by rw [← HX.out, ← hL]; rfl)
      have HL := Lib.hid hL
      clear hL
      have hbad : decide ((32 : Int) ≤ (m : Int)) = false := by simp; omega
      go_wp2_with fail
      go_loopw [9, 10, 11, 56] (fun h _ _ i w2 => ∃ k : Nat, ∃ ii : Int, k ≤ 4 ∧ ii = (k : Int) ∧ i = .int .i64 ii ∧ h = .int .u64 (sumL4 L k) ∧ w2.heap[w.heap.size]? = some (.cells (tab4 L) 47 (0, 0)) ∧ w2.heap[wr.heap.size]? = some (.cells #[.int .i64 1, .int .i64 7, .int .i64 12, .int .i64 18] 3 (0, 0)) ∧ Touch (fun _ => False) w w2) (fun _ _ _ i _ => 4 - (intOf i).toNat)
      case atStart => exact ⟨0, 0, by omega, rfl, rfl, rfl, ((Touch.refl (fun _ => False) wr).alloc _).heap HH.out id, heap_alloc_new wr _, ht.alloc _⟩
      case round =>
        obtain ⟨k, ii, hk, hii, rfl, rfl, h1, h2, ht2⟩ := hrel
        have K1 := Lib.hid h1
        have K2 := Lib.hid h2
        by_cases hk4 : k < 4
        · subst hii
          have e1 := tab_cell (show wr.heap[w.heap.size]? = some (.cells (tab 4 (fun i => .int .u64 (L i))) 47 (0, 0)) from h1) hk4
          have e2 := fun o => cell_of_row _ _ o _ _ _ h2
          have hby : (#[(.int .i64 1 : Value), .int .i64 7, .int .i64 12, .int .i64 18] : Array Value)[k]? = some (.int .i64 (byOf k : Nat)) := by
            have : k = 0 ∨ k = 1 ∨ k = 2 ∨ k = 3 := by omega
            rcases this with rfl | rfl | rfl | rfl <;> rfl
          have e3 := e2 k
          rw [hby] at e3
          have b1 : 1 ≤ byOf k ∧ byOf k ≤ 63 := by
            have : k = 0 ∨ k = 1 ∨ k = 2 ∨ k = 3 := by omega
            rcases this with rfl | rfl | rfl | rfl <;> decide
          obtain ⟨by_, hby_⟩ : ∃ b, byOf k = b := ⟨_, rfl⟩
          obtain ⟨l, hl⟩ : ∃ l, L k = l := ⟨_, rfl⟩
          obtain ⟨s, hs⟩ : ∃ s, sumL4 L k = s := ⟨_, rfl⟩
          obtain ⟨s', hs'⟩ : ∃ s, rotl l by_ = s := ⟨_, rfl⟩
          rw [hby_] at e3 b1
          rw [hl] at e1
          rw [hs]
          have hnew : sumL4 L (k + 1) = IntKind.u64.wrap (s + s') := by rw [sumL4, hs, hl, hby_, hs']
          have HN := Lib.hid hnew
          have HS := Lib.hid hs'
          clear h1 h2 e2 hby hby_ hl hs hs' hnew
          go_wp2_with fail
          refine (rot_walk l by_ by_ rfl _ b1.1 b1.2).mono ?_
          rintro e w5 ⟨rfl, rfl⟩
          rw [HS.out]
          go_wp2_with fail
          go_roundw
          case rel => exact ⟨k + 1, _, by omega, by omega, rfl, by rw [HN.out], K1.out, K2.out, ht2⟩
          case measure => simp [intOf]; omega
        · obtain rfl : k = 4 := by omega
          obtain rfl : ii = 4 := by omega
          clear hii
          have c := fun i (hi : i < 4) => tab_cell (show wr.heap[w.heap.size]? = some (.cells (tab 4 (fun i => .int .u64 (L i))) 47 (0, 0)) from h1) hi
          have c0 := c 0 (by omega)
          have c1 := c 1 (by omega)
          have c2 := c 2 (by omega)
          have c3 := c 3 (by omega)
          obtain ⟨s, hs⟩ : ∃ s, sumL4 L 4 = s := ⟨_, rfl⟩
          rw [hs]
          have hr : X = foldL L 4 s := by rw [HHb.out, hs]
          have HR := Lib.hid hr
          clear h1 h2 c hs hr K1 K2 HHb
          go_wp2_with fail
          go_loopw [9, 13, 70] (fun h _ i w2 => ∃ k : Nat, k ≤ 4 ∧ i = .int .i64 k ∧ h = .int .u64 (foldL L k s) ∧ Touch (fun _ => False) w w2) (fun _ _ i _ => 4 - (intOf i).toNat)
          case atStart => exact ⟨0, by omega, rfl, rfl, ht2⟩
          case round =>
            obtain ⟨k, hk, rfl, rfl, ht3⟩ := hrel
            by_cases hk4 : k < 4
            · obtain ⟨t, ht⟩ : ∃ t, foldL L k s = t := ⟨_, rfl⟩
              obtain ⟨q, hq⟩ : ∃ q, stirV 0 (L k) = q := ⟨_, rfl⟩
              have hnew : foldL L (k + 1) s = IntKind.u64.wrap (IntKind.u64.wrap (bits BinOp.xor IntKind.u64 t q * 11400714785074694791) + 9650029242287828579) := by rw [foldL, ht, comb, hq]
              have HN := Lib.hid hnew
              have HQ := Lib.hid hq
              rw [ht]
              have hk' : k = 0 ∨ k = 1 ∨ k = 2 ∨ k = 3 := by omega
              have j0 := fun w => idx0 (L 0) (L 1) (L 2) (L 3) w
              have j1 := fun w => idx1 (L 0) (L 1) (L 2) (L 3) w
              have j2 := fun w => idx2 (L 0) (L 1) (L 2) (L 3) w
              have j3 := fun w => idx3 (L 0) (L 1) (L 2) (L 3) w
              clear hnew hq ht
              rcases hk' with rfl | rfl | rfl | rfl
              all_goals
                go_wp2_with fail
                refine (stir_walk 0 _ _).mono ?_
                rintro e w5 ⟨rfl, rfl⟩
                rw [HQ.out]
                go_wp2_with fail
                go_roundw
                case rel => first | exact ⟨1, by omega, rfl, by rw [HN.out], ht3⟩ | exact ⟨2, by omega, rfl, by rw [HN.out], ht3⟩ | exact ⟨3, by omega, rfl, by rw [HN.out], ht3⟩ | exact ⟨4, by omega, rfl, by rw [HN.out], ht3⟩
                case measure => simp [intOf]
            · obtain rfl : k = 4 := by omega
              go_wp2_with fail
              go_ret2
              exact ⟨_, _, by rw [HR.out]; rfl, hmc, fun h => ha' h, ht3⟩
end Go.Proofs.Ytdhfepalphpabaa
