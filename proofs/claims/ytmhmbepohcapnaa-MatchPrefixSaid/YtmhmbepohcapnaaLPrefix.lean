/- The law MatchPrefix, walked. -/
import Derived.Test.YtmhmbepohcapnaaKB
namespace Go.Proofs.Ytmhmbepohcapnaa
open Go.RowKit Go.WideShapes
set_option linter.unusedVariables false
set_option maxRecDepth 100000

set_option maxHeartbeats 1000000 in
theorem MatchPrefix_in (w : World) (a0 : Option Addr) (b0 o0 l0 c0 : Nat) (z0 : Nat → Int) (w0 : IntsIn .u8 w a0 b0 o0 l0 c0 z0) (a1 : Option Addr) (b1 o1 l1 c1 : Nat) (z1 : Nat → Int) (w1 : IntsIn .u8 w a1 b1 o1 l1 c1 z1) (hl0 : l0 ≤ 200) (hl1 : l1 ≤ 200) (hl4 : 4 ≤ l1) :
    Calls Try.prog 6 #[.slice a0 l0 c0, .slice a1 l1 c1] w fun e w' => e = .returned (.bool true) ∧ Below w.heap.size w w' := by
  obtain ⟨j0, hj, hj0, hj1, hj2⟩ := info_parts Try.info5
  have q0 : decide ((200 : Int) < (l0 : Int)) = false := by simp; omega
  have q1 : decide ((200 : Int) < (l1 : Int)) = false := by simp; omega
  have q2 : decide ((l1 : Int) < 4) = false := by simp; omega
  have H1 := Lib.hid (ints_of w0)
  have H2 := Lib.hid (ints_of w1)
  clear w0 w1
  obtain ⟨z, hz⟩ : ∃ z, two l0 z0 z1 = z := ⟨_, rfl⟩
  have Hzz := Lib.hid hz
  obtain ⟨n, hn⟩ : ∃ n, l0 + l1 = n := ⟨_, rfl⟩
  have HN := Lib.hid hn
  have hn2 : n ≤ 400 := by omega
  have hln : l0 ≤ n := by omega
  have hpar : ∃ o M : Nat, ∃ r, parse (two n z z1) (n + l1) n 1 = (0, (o : Int), (M : Int)) :: r ∧ 1 ≤ o ∧ o ≤ l1 := by
    have hl : lcp (two n z z1) (n + l1) l0 n = l1 := lcp_end rfl fun t ht => by
      unfold two
      rw [if_pos (by omega), if_neg (by omega), ← hz]
      unfold two
      rw [if_neg (by omega), show l0 + t - l0 = t by omega, show n + t - n = t by omega]
    obtain ⟨o, M, r, h1, h2, h3⟩ := parse_near (two n z z1) (n + l1) n l0 (by omega) (by omega) (by omega)
    exact ⟨o, M, r, h1, h2, by omega⟩
  have HP := Lib.hid hpar
  clear hpar hz hn
  go_enter Try.func6, Try.ntmps6
  go_wp2_with (first
    | (refine wpList_append_mine rfl (.tmp 20) (.tmp 21) 22 22 rfl 5 j0 (.int .u8 0) 1 1 Try.underlying22 hj hj0 hj1 hj2 rfl (.slice (some ⟨w.heap.size, 0, none⟩) 0 0) 0 [] rfl (row_of_tab (m := 0) (F := fun _ => .int .u8 0) (heap_alloc_new _ _) (by unfold maxLen; omega)) _ l0 _ rfl (src_ints c0 Try.underlying22 (H1.out.touch (Touch.new w _))) (by unfold maxLen; omega) (by omega) ?_; intro a5 c5 w2 hown ht hf _; simp only [Nat.zero_add, List.nil_append] at hown hf ⊢; have t2 := own_app (Touch.new w _) (OwnB.here w 0) ht)
    | (refine wpList_append_mine rfl (.tmp 22) (.tmp 23) 22 22 rfl 5 j0 (.int .u8 0) 1 1 Try.underlying22 hj hj0 hj1 hj2 rfl (.slice a5 l0 c5) l0 _ rfl hown _ l1 _ rfl (src_ints c1 Try.underlying22 (H2.out.touch t2)) (by unfold maxLen; omega) (by omega) ?_; intro a6 c6 w3 hown3 ht3 hf3 _))
  have o5 := (OwnB.here w 0).fresh hf (Touch.new w _).size
  have T3 := Lib.hid (own_app t2 o5 ht3)
  rw [cellsZ_append] at hown3
  have hzz : (fun i => if i < l0 then z0 i else z1 (i - l0)) = z := Hzz.out
  rw [hzz, HN.out] at hown3
  rw [HN.out]
  obtain ⟨xa, xb, xc, hxv, hx⟩ := ints_row hown3
  simp at hxv
  obtain ⟨rfl, rfl⟩ := hxv
  have X := Lib.hid hx
  clear hown hown3 ht ht3 hf hf3 hx hzz t2 o5
  go_wp2_with fail
  refine (parse_walk _ _ _ _ n _ _ _ _ _ l1 _ _ X.out (H2.out.touch T3.out) 1 (by omega) (by omega) (by omega) (by omega)).mono ?_
  rintro e w4 ⟨v4, rfl, hs4⟩
  obtain ⟨o, M, r, hp, ho1, ho2⟩ := HP.out
  rw [hp] at hs4
  have T4 := Lib.hid (T3.out.trans hs4.touch)
  obtain ⟨ya, yb, yc, rfl, hr⟩ := recs_row hs4.row
  obtain rfl := hr.at_ (by simp)
  obtain ⟨k1, k2, _⟩ := hr.cell 0 _ rfl
  simp only [Nat.zero_add, Nat.zero_mul] at k1 k2
  obtain ⟨N, hN⟩ : ∃ N, ((0, (o : Int), (M : Int)) :: r : List (Int × Int × Int)).length = N := ⟨_, rfl⟩
  have hN1 : 0 < N := by rw [← hN]; simp
  rw [hN]
  have g1 : ((N : Int) == 0) = false := by simp; omega
  have g2 : decide ((o : Int) ≤ (l1 : Int)) = true := by simp; omega
  have g3 : decide ((1 : Int) ≤ (o : Int)) = true := by simp; omega
  clear hs4 hr hp hN
  go_wp2_with fail
  refine (known_walk _).mono ?_
  rintro e w5 ⟨rfl, ht5⟩
  go_wp2_with fail
  go_ret
  exact ⟨rfl, (T4.out.trans ht5).owned⟩
theorem MatchPrefix_law (w : World) (a0 : Option Addr) (b0 o0 l0 c0 : Nat) (z0 : Nat → Int) (w0 : IntsIn .u8 w a0 b0 o0 l0 c0 z0) (a1 : Option Addr) (b1 o1 l1 c1 : Nat) (z1 : Nat → Int) (w1 : IntsIn .u8 w a1 b1 o1 l1 c1 z1) :
    Calls Try.prog 6 #[.slice a0 l0 c0, .slice a1 l1 c1] w fun e w' => e = .returned (.bool true) ∧ Below w.heap.size w w' := by
  have hc : 200 < l0 ∨ (l0 ≤ 200 ∧ l1 < 4) ∨ (l0 ≤ 200 ∧ 4 ≤ l1 ∧ 200 < l1) ∨ (l0 ≤ 200 ∧ 4 ≤ l1 ∧ l1 ≤ 200) := by omega
  rcases hc with h | ⟨h, h'⟩ | ⟨h, h', h1⟩ | ⟨h, h', h1⟩
  rotate_left 3
  · exact MatchPrefix_in w a0 b0 o0 l0 c0 z0 w0 a1 b1 o1 l1 c1 z1 w1 h h1 h'
  all_goals
    clear w0 w1
    go_enter Try.func6, Try.ntmps6
    go_wp2_with fail
    go_ret
    exact ⟨rfl, Below.refl _ _⟩
end Go.Proofs.Ytmhmbepohcapnaa
