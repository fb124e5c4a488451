/- match: the document's Parse. -/
import Derived.Test.YtmhmbepohcapnaaF
namespace Go.Proofs.Ytmhmbepohcapnaa
open Go.RowKit Go.WideShapes
set_option linter.unusedVariables false
set_option maxRecDepth 100000

set_option maxHeartbeats 2000000 in
theorem ref_parse (w : World) (a1 : Option Addr) (b1 o1 l1 c1 : Nat) (z1 : Nat → Int) (a2 : Option Addr) (b2 o2 l2 c2 : Nat) (z2 : Nat → Int) (h1 : Ints .u8 w a1 b1 o1 l1 z1) (h2 : Ints .u8 w a2 b2 o2 l2 z2) (depth : Nat)
    (hl1 : l1 ≤ 100000) (hl2 : l2 ≤ 100000) (hd0 : 1 ≤ depth) (hd : depth ≤ 1000) :
    Calls Try.prog 16 #[.slice a1 l1 c1, .slice a2 l2 c2, .int .i64 depth] w fun e w' => ∃ v, e = .returned v ∧ Steps w w' v (parse (two l1 z1 z2) (l1 + l2) l1 depth) := by
  obtain ⟨i0, hi, hz0, hz1, hz2⟩ := info_parts Try.info29
  have H1 := Lib.hid h1
  have H2 := Lib.hid h2
  clear h1 h2
  obtain ⟨n, hn⟩ : ∃ n, l1 + l2 = n := ⟨_, rfl⟩
  obtain ⟨z, hz⟩ : ∃ z, two l1 z1 z2 = z := ⟨_, rfl⟩
  rw [hn, hz]
  have hn1 : l1 ≤ n := by omega
  have hn2 : n ≤ 200000 := by omega
  have Hn := Lib.hid hn
  have Hzz := Lib.hid hz
  clear hn hz
  go_enter Try.func16, Try.ntmps16
  obtain ⟨j0, hj, hj0, hj1, hj2⟩ := info_parts Try.info5
  go_wp2_with (first
    | (refine wpList_append_mine rfl (.tmp 13) (.tmp 14) 22 22 rfl 5 j0 (.int .u8 0) 1 1 Try.underlying22 hj hj0 hj1 hj2 rfl (.slice (some ⟨w.heap.size, 0, none⟩) 0 0) 0 [] rfl (row_of_tab (m := 0) (F := fun _ => .int .u8 0) (heap_alloc_new _ _) (by unfold maxLen; omega)) _ l1 _ rfl (src_ints c1 Try.underlying22 (H1.out.touch (Touch.new w _))) (by unfold maxLen; omega) (by omega) ?_; intro a5 c5 w2 hown ht hf _; simp only [Nat.zero_add, List.nil_append] at hown hf ⊢; have t2 := own_app (Touch.new w _) (OwnB.here w 0) ht)
    | (refine wpList_append_mine rfl (.tmp 15) (.tmp 16) 22 22 rfl 5 j0 (.int .u8 0) 1 1 Try.underlying22 hj hj0 hj1 hj2 rfl (.slice a5 l1 c5) l1 _ rfl hown _ l2 _ rfl (src_ints c2 Try.underlying22 (H2.out.touch t2)) (by unfold maxLen; omega) (by omega) ?_; intro a6 c6 w3 hown3 ht3 hf3 _))
  have o5 := (OwnB.here w 0).fresh hf (Touch.new w _).size
  have T3 := Lib.hid (own_app t2 o5 ht3)
  rw [cellsZ_append] at hown3
  have hzz : (fun i => if i < l1 then z1 i else z2 (i - l1)) = z := Hzz.out
  rw [hzz, Hn.out] at hown3
  rw [Hn.out]
  obtain ⟨xa, xb, xc, hxv, hx⟩ := ints_row hown3
  simp at hxv
  obtain ⟨rfl, rfl⟩ := hxv
  have X := Lib.hid hx
  clear hown hown3 ht ht3 hf hf3 hx hzz t2 o5
  go_wp2_with fail
  go_loopw [8, 9, 10, 11, 12] (fun q x y _ _ wr => ∃ f lit at_ : Nat, ∃ ps : List (Int × Int × Int), at_ ≤ n ∧ lit ≤ at_ ∧ n ≤ at_ + f ∧ x = .int .i64 lit ∧ y = .int .i64 at_ ∧ ps ++ parseF z n depth f lit at_ = parse z n l1 depth ∧ ps.length ≤ at_ ∧
      wr.ownsRow 0 29 3 q ps.length (recL ps) ∧ OwnB w3.heap.size q ∧ Touch (fun _ => False) w3 wr) (fun _ _ y _ _ _ => n - (intOf y).toNat)
  case atStart => exact ⟨n - l1, 0, l1, [], hn1, by omega, by omega, rfl, rfl, rfl, by simp, World.ownsRow_nil _ _ _ _, OwnB.nil _, Touch.refl _ _⟩
  case round =>
    obtain ⟨f, lit, at_, ps, hat, hlit, hf, rfl, rfl, hps, hlen, hrow, hown, ht⟩ := hrel
    have Hrow := Lib.hid hrow
    have Hps := Lib.hid hps
    clear hrow hps
    by_cases hlt : n < at_ + 4
    · have hp := Hps.out
      rw [parseF_end _ _ _ _ _ _ hlt, List.append_nil] at hp
      have Hp := Lib.hid hp
      clear hp
      go_wp2_with fail
      go_ret
      exact ⟨_, rfl, ⟨by rw [← Hp.out]; exact Hrow.out, hown.mono T3.out.size, T3.out.trans ht⟩⟩
    · obtain ⟨f, rfl⟩ : ∃ g, f = g + 1 := ⟨f - 1, by omega⟩
      have hp := Hps.out
      rw [parseF, if_neg hlt] at hp
      obtain ⟨hb1, hb2⟩ := best_le z n at_ depth
      have Hl := Lib.hid (fun w h => best_walk a6 xb 0 n c6 z w h at_ depth hat (by omega) hd)
      obtain ⟨R, hR⟩ : ∃ R, best z n at_ depth = R := ⟨_, rfl⟩
      rw [hR] at Hl hp hb1 hb2
      obtain ⟨r1, r2⟩ := R
      simp only at hp hb1 hb2 Hl
      have Hp := Lib.hid hp
      clear hp hR Hps
      go_wp2_with fail
      refine (Hl.out _ (X.out.touch ht)).mono ?_
      rintro e w4 ⟨rfl, m, rfl⟩
      by_cases h0 : r2 = 0
      · have hp := Hp.out
        rw [if_pos h0] at hp
        have Hp2 := Lib.hid hp
        clear hp Hp
        subst h0
        go_wp2_with fail
        go_roundw
        case rel => exact ⟨f, lit + 1, at_ + 1, ps, by omega, by omega, by omega, by go_num, by go_num, Hp2.out, by omega, (Touch.eq_drewN (S := fun _ => False) wr m).row Hrow.out (fun _ _ => id), hown, ht.drewN m⟩
        case measure => simp [intOf]; omega
      · have hp := Hp.out
        rw [if_neg h0] at hp
        obtain ⟨o, ho⟩ : ∃ o, offOf at_ (r1, r2) = o := ⟨_, rfl⟩
        rw [ho] at hp
        have hoo : (at_ : Int) - r1 = o := by rw [← ho]; unfold offOf; rw [if_neg h0]
        have Hp2 := Lib.hid hp
        have hne : ((r2 : Int) == 0) = false := by simp; omega
        have Hrow2 := Lib.hid ((Touch.eq_drewN (S := fun _ => False) wr m).row Hrow.out (fun _ _ => id))
        clear hp Hp ho
        go_wp2_with (refine wpList_append_mine rfl (.tmp 38) (.tmp 45) 24 24 rfl 29 i0 (.agg #[.int .i64 0, .int .i64 0, .int .i64 0]) 3 24 Try.underlying24 hi hz0 hz1 hz2 rfl u8 _ _ rfl (row_heap Hrow2.out rfl) _ 1 [.int .i64 lit, .int .i64 o, .int .i64 r2] rfl (src_cells wr.heap.size Try.underlying24 [.int .i64 lit, .int .i64 o, .int .i64 r2] (by simp [Value.oneCell']) _ (heap_alloc_new (wr.drewN m) _)) (by unfold maxLen; omega) (by omega) ?_; intro a4 c4 w6 hown6 ht6 hf6 _)
        have t6 : Touch (fun k => u8.ownBlock = some k) (wr.drewN m) w6 := ((Touch.refl _ (wr.drewN m)).alloc _).trans ht6
        have T6 := own_app (ht.drewN m) hown t6
        have own6 := hown.fresh hf6 (Nat.le_trans ht.size ((Touch.refl (fun _ => False) _).alloc _).size)
        go_wp2_with fail
        go_roundw
        case rel => exact ⟨f, 0, at_ + r2, ps ++ [((lit : Int), o, (r2 : Int))], by omega, by omega, by omega, rfl, by go_num, by rw [List.append_assoc]; exact Hp2.out, by simp; omega, by rw [recL_snoc, List.length_append]; exact hown6, own6, T6⟩
        case measure => simp [intOf]; omega
end Go.Proofs.Ytmhmbepohcapnaa
