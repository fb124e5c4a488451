/- The law MatchNone, walked. -/
import Derived.Test.YtmhmbepohcapnaaKC
namespace Go.Proofs.Ytmhmbepohcapnaa
open Go.RowKit Go.WideShapes
set_option linter.unusedVariables false
set_option linter.unusedSimpArgs false
set_option maxRecDepth 100000

def noneZ (f : Nat) (i : Nat) : Int := ((f : Int) + i) % 256
theorem none_parse (f n : Nat) (hn : n ≤ 256) : parse (two 0 (fun _ => 0) (noneZ f)) (0 + n) 0 32 = [] := by
  unfold parse
  refine parseF_none _ _ 32 (by omega) (fun i j hj hi => ?_) _ _ _
  unfold two noneZ
  rw [if_neg (by omega), if_neg (by omega)]
  omega

set_option maxHeartbeats 1000000 in
theorem MatchNone_in (w : World) (n f : Nat) (hn : n ≤ 256) (hf : f ≤ 255) :
    Calls Try.prog 9 #[.int .i64 n, .int .i64 f] w fun e w' => e = .returned (.bool true) ∧ Below w.heap.size w w' := by
  obtain ⟨j0, hj, hj0, hj1, hj2⟩ := info_parts Try.info5
  have q0 : decide ((n : Int) < 0) = false := by simp
  have q1 : decide ((256 : Int) < (n : Int)) = false := by simp; omega
  have q2 : decide ((f : Int) < 0) = false := by simp
  have q3 : decide ((255 : Int) < (f : Int)) = false := by simp; omega
  go_enter Try.func9, Try.ntmps9
  go_wp2_with fail
  go_loopw [5, 6] (fun q i wr => ∃ k : Nat, k ≤ n ∧ i = .int .i64 k ∧ wr.ownsRow 0 5 1 q k (cellsZ .u8 (noneZ f) k) ∧ OwnB w.heap.size q ∧ Touch (fun _ => False) w wr) (fun _ i _ => n - (intOf i).toNat)
  case atStart => exact ⟨0, by omega, rfl, World.ownsRow_nil _ _ _ _, OwnB.nil _, Touch.refl _ _⟩
  case round =>
    obtain ⟨k, hk, rfl, hrow, hown, ht⟩ := hrel
    have Hrow := Lib.hid hrow
    by_cases hlt : k < n
    · clear hrow
      go_wp2_with (refine wpList_append_mine rfl (.tmp 28) (.tmp 33) 22 22 rfl 5 j0 (.int .u8 0) 1 1 Try.underlying22 hj hj0 hj1 hj2 rfl u5 _ _ rfl (row_heap Hrow.out rfl) _ 1 [_] rfl (src_at wr.heap.size Try.underlying22 _ rfl _ (heap_alloc_new wr _)) (by unfold maxLen; omega) (by omega) ?_; intro a7 c7 w8 hown8 ht8 hf8 _)
      have t8 : Touch (fun k => u5.ownBlock = some k) wr w8 := ((Touch.refl _ wr).alloc _).trans ht8
      have T8 := own_app ht hown t8
      have own8 := hown.fresh hf8 (Nat.le_trans ht.size (by simp))
      go_roundw
      case rel => exact ⟨k + 1, by omega, by go_num, by rw [cellsZ_succ]; exact hown8, own8, T8⟩
      case measure => simp [intOf]; omega
    · obtain rfl : k = n := by omega
      have hcap : ∃ a b c, u5 = .slice a k c ∧ Ints .u8 wr a b 0 k (noneZ f) ∧ k ≤ c := by
        obtain ⟨a, b, c, rfl, hx⟩ := ints_row hrow
        exact ⟨a, b, c, rfl, hx, row_capV hrow⟩
      obtain ⟨a, b, c, rfl, hx, hc⟩ := hcap
      have HX := Lib.hid hx
      have HL := Lib.hid (lit_walk wr a b 0 k c (noneZ f) hx hc (by omega) none 0 0 0 [] ⟨fun h => by simp at h, fun j p hj => by simp at hj⟩ (by simp) (show (0 : Nat) ≤ k by omega))
      clear hrow Hrow hx
      go_wp2_with fail
      refine HL.out.mono ?_
      rintro e w3 ⟨v3, rfl, hown3, ob3, t3⟩
      have T3 := Lib.hid (ht.trans t3)
      obtain ⟨ya, yb, yc, rfl, hy⟩ := ints_vals hown3
      have hp := parse_walk w3 none 0 0 0 0 (fun _ => 0) a b 0 k c (noneZ f) ⟨fun h => by omega, fun i hi => by omega⟩ (HX.out.touch t3) 32 (by omega) (by omega) (by omega) (by omega)
      rw [none_parse f k hn] at hp
      have HP := Lib.hid hp
      have HY := Lib.hid hy
      have HX3 := Lib.hid (HX.out.touch t3)
      have hll : litL (noneZ f) k 0 [] = seg (noneZ f) 0 k := rfl
      have hlen : (litL (noneZ f) k 0 []).length = k := by rw [hll, seg_length]
      rw [hlen] at HY ⊢
      clear hown3 ob3 t3 hy hp HL
      go_wp2_with fail
      refine HP.out.mono ?_
      rintro e w4 ⟨v4, rfl, hs4⟩
      have T4 := Lib.hid (T3.out.trans hs4.touch)
      obtain ⟨za, zb, zc, rfl, hr⟩ := recs_row hs4.row
      have cv1 := fun c => conv_ints (HX3.out.touch hs4.touch) c
      have cv2 := fun c => conv_ints (HY.out.touch hs4.touch) c
      have hsame : seg (fun i => (litL (noneZ f) k 0 []).getD i 0) 0 k = seg (noneZ f) 0 k := by
        have := seg_list (litL (noneZ f) k 0 []) 0
        rw [hlen, Nat.sub_zero, List.drop_zero] at this
        rw [this, hll]
      rw [hsame] at cv2
      clear hs4 hr hsame hll hlen
      go_wp2_with fail
      clear cv1 cv2
      refine (known_walk _).mono ?_
      rintro e w6 ⟨rfl, t6⟩
      go_wp2_with fail
      go_ret
      exact ⟨rfl, (T4.out.trans t6).owned⟩
theorem MatchNone_law (w : World) (a0 : Int) (w0 : (Lit.int .i64 a0).wf = true) (a1 : Int) (w1 : (Lit.int .i64 a1).wf = true) :
    Calls Try.prog 9 #[.int .i64 a0, .int .i64 a1] w fun e w' => e = .returned (.bool true) ∧ Below w.heap.size w w' := by
  clear w0 w1
  have hc : a0 < 0 ∨ (0 ≤ a0 ∧ 256 < a0) ∨ (0 ≤ a0 ∧ a0 ≤ 256 ∧ a1 < 0) ∨ (0 ≤ a0 ∧ a0 ≤ 256 ∧ 0 ≤ a1 ∧ 255 < a1) ∨ (∃ n d : Nat, a0 = n ∧ a1 = d ∧ n ≤ 256 ∧ d ≤ 255) := by
    by_cases h1 : a0 < 0
    · exact .inl h1
    by_cases h2 : 256 < a0
    · exact .inr (.inl ⟨by omega, h2⟩)
    by_cases h3 : a1 < 0
    · exact .inr (.inr (.inl ⟨by omega, by omega, h3⟩))
    by_cases h4 : 255 < a1
    · exact .inr (.inr (.inr (.inl ⟨by omega, by omega, by omega, h4⟩)))
    · exact .inr (.inr (.inr (.inr ⟨a0.toNat, a1.toNat, by omega, by omega, by omega, by omega⟩)))
  rcases hc with h | ⟨h, h'⟩ | ⟨h, h', h1⟩ | ⟨h, h', h1, h2⟩ | ⟨n, d, rfl, rfl, h, h1⟩
  rotate_left 4
  · exact MatchNone_in w n d h h1
  all_goals
    go_enter Try.func9, Try.ntmps9
    go_wp2_with fail
    go_ret
    exact ⟨rfl, Below.refl _ _⟩
end Go.Proofs.Ytmhmbepohcapnaa
