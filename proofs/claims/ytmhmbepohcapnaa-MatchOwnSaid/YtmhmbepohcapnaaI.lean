/- match: Literals. -/
import Derived.Test.YtmhmbepohcapnaaKB
namespace Go.Proofs.Ytmhmbepohcapnaa
open Go.RowKit Go.WideShapes
set_option linter.unusedVariables false
set_option linter.unusedSimpArgs false
set_option maxRecDepth 100000

/-- Numbers as bytes' cells. -/
def vals (l : List Int) : List Value := l.map (.int .u8)
theorem vals_append (l r : List Int) : vals (l ++ r) = vals l ++ vals r := by simp [vals]
theorem vals_length (l : List Int) : (vals l).length = l.length := by simp [vals]
theorem vals_is (l : List Int) : vals l = cellsZ .u8 (fun i => l.getD i 0) l.length := by
  apply List.ext_getElem?
  intro i
  by_cases h : i < l.length
  · rw [cellsZ_get h]; simp [vals, h]
  · rw [List.getElem?_eq_none (by rw [vals_length]; omega), List.getElem?_eq_none (by rw [cellsZ_length]; omega)]
def seg (z : Nat → Int) (p k : Nat) : List Int := (List.range k).map fun i => z (p + i)
theorem seg_length (z : Nat → Int) (p k : Nat) : (seg z p k).length = k := by simp [seg]
theorem vals_seg (z : Nat → Int) (p k : Nat) : cellsZ .u8 (fun i => z (p + i)) k = vals (seg z p k) := by simp [vals, seg, cellsZ]
theorem ints_vals {w : World} {e : TypeId} {v : Value} {l : List Int} (h : w.ownsRow 0 e 1 v l.length (vals l)) : ∃ a b c, v = .slice a l.length c ∧ Ints .u8 w a b 0 l.length (fun i => l.getD i 0) := by
  rw [vals_is] at h
  exact ints_row h
/-- Steps that fit n bytes from place p on; the bytes that stand as they are. -/
def fits (n : Nat) : Nat → List (Int × Int × Int) → Prop
  | p, [] => p ≤ n
  | p, q :: r => ∃ L M : Nat, q.1 = L ∧ q.2.2 = M ∧ p + L + M ≤ n ∧ fits n (p + L + M) r
def litL (z : Nat → Int) (n : Nat) : Nat → List (Int × Int × Int) → List Int
  | p, [] => seg z p (n - p)
  | p, q :: r => seg z p q.1.toNat ++ litL z n (p + q.1.toNat + q.2.2.toNat) r
theorem fits_le {n p : Nat} : ∀ {ps}, fits n p ps → p ≤ n
  | [], h => h
  | q :: r, h => by obtain ⟨L, M, _, _, h1, _⟩ := h; omega
theorem litL_len (z : Nat → Int) (n : Nat) : ∀ ps p, fits n p ps → (litL z n p ps).length + p ≤ n
  | [], p, h => by have h1 : p ≤ n := h; simp [litL, seg_length]; omega
  | q :: r, p, h => by
    obtain ⟨L, M, h1, h2, h3, h4⟩ := h
    have := litL_len z n r _ h4
    rw [litL, h1, h2, List.length_append, seg_length, Int.toNat_natCast, Int.toNat_natCast]
    omega

theorem own_lt {w : World} {B : Nat} {e : TypeId} {size : Nat} {v : Value} {n : Nat} {xs : List Value} (h : w.ownsRow B e size v n xs) : ∀ k, v.ownBlock = some k → k < w.heap.size := by
  intro k hk
  rcases h.2 with ⟨rfl, _⟩ | ⟨g, cap, cur, rfl, _, hg, _⟩
  · cases hk
  · cases hk; exact lt_of_block hg
/-- A box laid ahead of an append onto another row. -/
theorem box3 {wr w6 : World} {u x y z : Value} {e : TypeId} (ht : Touch (fun k => u.ownBlock = some k) (wr.alloc (.cells #[x, y, z] e)) w6) (hu : ∀ k, u.ownBlock = some k → k < wr.heap.size) :
    w6.cell? ⟨wr.heap.size, 0, none⟩ = some x ∧ w6.cell? ⟨wr.heap.size, 1, none⟩ = some y ∧ w6.cell? ⟨wr.heap.size, 2, none⟩ = some z := by
  have h := ht.heap (heap_alloc_new wr _) (fun h => by have := hu _ h; omega)
  refine ⟨?_, ?_, ?_⟩ <;> (rw [cell_of_row _ _ _ _ _ _ h]; rfl)

set_option maxHeartbeats 2000000 in
theorem lit_walk (w : World) (a : Option Addr) (b off n c : Nat) (z : Nat → Int) (h : Ints .u8 w a b off n z) (hnc : n ≤ c) (hn : n ≤ 100000) (xa : Option Addr) (xb xo xc : Nat) (ps : List (Int × Int × Int)) (hr : Recs w xa xb xo ps) (hps : ps.length ≤ 100000) (hf : fits n 0 ps) :
    Calls Try.prog 18 #[.slice a n c, .slice xa ps.length xc] w fun e w' => ∃ v, e = .returned (.tuple #[v, .bool true]) ∧ w'.ownsRow 0 5 1 v (litL z n 0 ps).length (vals (litL z n 0 ps)) ∧ OwnB w.heap.size v ∧ Touch (fun _ => False) w w' := by
  obtain ⟨j0, hj, hj0, hj1, hj2⟩ := info_parts Try.info5
  have hRl := litL_len z n ps 0 hf
  obtain ⟨R, hR⟩ : ∃ R, litL z n 0 ps = R := ⟨_, rfl⟩
  obtain ⟨N, hN⟩ : ∃ N, ps.length = N := ⟨_, rfl⟩
  rw [hR] at hRl ⊢
  rw [hN] at hps ⊢
  have H := Lib.hid h
  have HRc := Lib.hid hr
  have HR := Lib.hid hR
  have HN := Lib.hid hN
  have HF := Lib.hid hf
  clear h hr hR hN hf
  go_enter Try.func18, Try.ntmps18
  go_wp2_with fail
  go_loopw [0, 6, 8, 11] (fun s q _ i wr => ∃ k p c' : Nat, ∃ a' : Option Addr, ∃ acc : List Int, k ≤ N ∧ i = .int .i64 k ∧ s = .slice a' (n - p) c' ∧ (0 < n - p → a' = some ⟨b, off + p, none⟩) ∧ n - p ≤ c' ∧ p ≤ n ∧
      acc ++ litL z n p (ps.drop k) = R ∧ fits n p (ps.drop k) ∧ wr.ownsRow 0 5 1 q acc.length (vals acc) ∧ OwnB w.heap.size q ∧ Touch (fun _ => False) w wr) (fun _ _ _ i _ => N - (intOf i).toNat)
  case atStart => exact ⟨0, 0, c, a, [], by omega, rfl, rfl, H.out.at_, by omega, by omega, by simpa using HR.out, by simpa using HF.out, World.ownsRow_nil _ _ _ _, OwnB.nil _, Touch.refl _ _⟩
  case round =>
    obtain ⟨k, p, c', a', acc, hk, rfl, rfl, ha', hc', hp, hacc, hfit, hrow, hown, ht⟩ := hrel
    have Hrow := Lib.hid hrow
    have haccl : acc.length ≤ n := by have := congrArg List.length hacc; simp at this; omega
    by_cases hlt : k < N
    · obtain rfl := HRc.out.at_ (by rw [HN.out]; omega)
      have hk' : k < ps.length := by rw [HN.out]; exact hlt
      rw [List.drop_eq_getElem_cons hk'] at hacc hfit
      obtain ⟨L, M, hL, hM, hLM, hfit2⟩ := hfit
      rw [litL, hL, hM, Int.toNat_natCast, Int.toNat_natCast] at hacc
      obtain ⟨k1, k2, k3⟩ := (HRc.out.touch ht).cell k _ (List.getElem?_eq_getElem hk')
      rw [hL] at k1
      rw [hM] at k3
      obtain ⟨O, hO⟩ : ∃ O, (ps[k]).2.1 = O := ⟨_, rfl⟩
      rw [hO] at k2
      have HA := Lib.hid hacc
      have HF2 := Lib.hid hfit2
      have HA' := Lib.hid ha'
      have HI : Hid (∀ o, Ints .u8 (wr.alloc o) a' b (off + p) L (fun i => z (p + i))) := Lib.hid fun o => ⟨fun h => ha' (by omega), fun i hi => by
        have := (H.out.touch (ht.alloc o)).cell (p + i) (by omega)
        rw [← Nat.add_assoc] at this
        exact this⟩
      have f1 : IntKind.i64.wrap (((n - p : Nat) : Int) - (L : Int)) = ((n - p - L : Nat) : Int) := by rw [IntWalk.i64_in _ (by omega)]; omega
      have g0 : decide ((L : Int) < 0) = false := by simp
      have g1 : decide ((M : Int) < 0) = false := by simp
      have g2 : decide (((n - p : Nat) : Int) < (L : Int)) = false := by simp; omega
      have g2' : decide (n - p < L) = false := by simp; omega
      have g3 : decide (((n - p - L : Nat) : Int) < (M : Int)) = false := by simp; omega
      have g3' : decide (n - p - L < M) = false := by simp; omega
      clear hacc hfit2 ha' hrow hO hL hM
      have gc1 : L ≤ c' := by omega
      have gc2 : L + M ≤ n - p := by omega
      have g4 : (L : Int) + (M : Int) ≤ ((n - p : Nat) : Int) := by omega
      have g5 : (L : Int) + (M : Int) ≤ (c' : Int) := by omega
      have g6 : ((L : Int) + (M : Int)).toNat = L + M := by omega
      by_cases hcc : c' = L + M
      · go_wp2_with (refine wpList_append_mine rfl (.tmp 40) (.tmp 44) 22 22 rfl 5 j0 (.int .u8 0) 1 1 Try.underlying22 hj hj0 hj1 hj2 rfl u6 _ _ rfl (row_heap Hrow.out rfl) _ L _ rfl (src_ints _ Try.underlying22 (HI.out _)) (by unfold maxLen; omega) (by omega) ?_; intro a4 c4 w6 hown6 ht6 hf6 _; obtain ⟨bx0, bx1, bx2⟩ := box3 ht6 (own_lt Hrow.out))
        have t6 : Touch (fun k => u6.ownBlock = some k) wr w6 := ((Touch.refl _ wr).alloc _).trans ht6
        have T6 := own_app ht hown t6
        have own6 := hown.fresh hf6 (Nat.le_trans ht.size (by simp))
        rw [vals_seg, ← vals_append] at hown6
        have hal : (acc ++ seg z p L).length = acc.length + L := by simp [seg_length]
        rw [show n - p - (L + M) = n - (p + L + M) by omega]
        go_roundw
        case rel => exact ⟨k + 1, p + L + M, _, _, acc ++ seg z p L, by omega, by go_num, rfl, fun h => by first | omega | (rw [HA'.out (by omega), Nat.add_assoc p L M, ← Nat.add_assoc off p (L + M)]; first | rfl | exact congrArg some (add_pos rfl _)), by omega, by omega, by rw [List.append_assoc]; exact HA.out, HF2.out, by rw [hal]; exact hown6, own6, T6⟩
        case measure => simp [intOf]; omega
      · go_wp2_with (refine wpList_append_mine rfl (.tmp 40) (.tmp 44) 22 22 rfl 5 j0 (.int .u8 0) 1 1 Try.underlying22 hj hj0 hj1 hj2 rfl u6 _ _ rfl (row_heap Hrow.out rfl) _ L _ rfl (src_ints _ Try.underlying22 (HI.out _)) (by unfold maxLen; omega) (by omega) ?_; intro a4 c4 w6 hown6 ht6 hf6 _; obtain ⟨bx0, bx1, bx2⟩ := box3 ht6 (own_lt Hrow.out))
        have t6 : Touch (fun k => u6.ownBlock = some k) wr w6 := ((Touch.refl _ wr).alloc _).trans ht6
        have T6 := own_app ht hown t6
        have own6 := hown.fresh hf6 (Nat.le_trans ht.size (by simp))
        rw [vals_seg, ← vals_append] at hown6
        have hal : (acc ++ seg z p L).length = acc.length + L := by simp [seg_length]
        rw [show n - p - (L + M) = n - (p + L + M) by omega]
        go_roundw
        case rel => exact ⟨k + 1, p + L + M, _, _, acc ++ seg z p L, by omega, by go_num, rfl, fun h => by first | omega | (rw [HA'.out (by omega), Nat.add_assoc p L M, ← Nat.add_assoc off p (L + M)]; first | rfl | exact congrArg some (add_pos rfl _)), by omega, by omega, by rw [List.append_assoc]; exact HA.out, HF2.out, by rw [hal]; exact hown6, own6, T6⟩
        case measure => simp [intOf]; omega
    · obtain rfl : k = N := by omega
      have hd : ps.drop k = [] := List.drop_eq_nil_of_le (by rw [HN.out]; omega)
      rw [hd] at hacc hfit
      have HA : Hid (acc ++ seg z p (n - p) = R) := Lib.hid hacc
      have HI : Hid (Ints .u8 wr a' b (off + p) (n - p) (fun i => z (p + i))) := Lib.hid ⟨ha', fun i hi => by
        have := (H.out.touch ht).cell (p + i) (by omega)
        rw [← Nat.add_assoc] at this
        exact this⟩
      clear hacc hfit hd hrow
      go_wp2_with (refine wpList_append_mine rfl (.tmp 54) (.tmp 55) 22 22 rfl 5 j0 (.int .u8 0) 1 1 Try.underlying22 hj hj0 hj1 hj2 rfl u6 _ _ rfl Hrow.out _ (n - p) _ rfl (src_ints _ Try.underlying22 HI.out) (by unfold maxLen; omega) (by omega) ?_; intro a4 c4 w6 hown6 ht6 hf6 _)
      have T6 := own_app ht hown ht6
      have own6 := hown.fresh hf6 ht.size
      rw [vals_seg, ← vals_append, HA.out] at hown6
      have hal : acc.length + (n - p) = R.length := by rw [← HA.out]; simp [seg_length]
      rw [hal] at hown6 own6 ⊢
      go_ret2
      exact ⟨_, rfl, hown6, own6, T6⟩
end Go.Proofs.Ytmhmbepohcapnaa
