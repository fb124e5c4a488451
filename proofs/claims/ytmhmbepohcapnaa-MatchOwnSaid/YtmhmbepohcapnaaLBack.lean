/- The law MatchBack, walked. -/
import Derived.Test.YtmhmbepohcapnaaKC
namespace Go.Proofs.Ytmhmbepohcapnaa
open Go.RowKit Go.WideShapes
set_option linter.unusedVariables false
set_option linter.unusedSimpArgs false
set_option maxRecDepth 100000

theorem exp_ints {w w' : World} {r : List Int} {pre : Nat} {x : Value} (h : ExpOut w w' r pre x) : ∃ a b c, x = .slice a (r.length - pre) c ∧ Ints .u8 w' a b pre (r.length - pre) (fun i => r.getD (pre + i) 0) := by
  obtain ⟨v, a, c', rfl, h1, _, h3⟩ := h
  by_cases h0 : 0 < r.length - pre
  · obtain ⟨g, hg, rfl⟩ := h3 h0
    have h1' := h1
    rw [vals_is] at h1
    rcases row_form h1 with ⟨_, hn⟩ | ⟨g', c, rfl⟩
    · omega
    · simp [Value.ownBlock] at hg
      subst hg
      exact ⟨_, g', c', rfl, fun _ => rfl, fun i hi => row_cell h1 rfl (cellsZ_get (z := fun i => r.getD i 0) (by omega))⟩
  · exact ⟨a, 0, c', rfl, fun h => absurd h h0, fun i hi => absurd hi (by omega)⟩
theorem seg_tail (z : Nat → Int) (l0 n : Nat) : seg (fun i => (seg z 0 (l0 + n)).getD (l0 + i) 0) 0 n = seg z l0 n :=
  seg_congr fun i hi => by
    show (seg z 0 (l0 + n)).getD (l0 + (0 + i)) 0 = _
    rw [seg_get (by omega)]; congr 1; omega

set_option maxHeartbeats 1000000 in
theorem MatchBack_in (w : World) (a0 : Option Addr) (b0 o0 l0 c0 : Nat) (z0 : Nat → Int) (w0 : IntsIn .u8 w a0 b0 o0 l0 c0 z0) (a1 : Option Addr) (b1 o1 l1 c1 : Nat) (z1 : Nat → Int) (w1 : IntsIn .u8 w a1 b1 o1 l1 c1 z1) (hl0 : l0 ≤ 300) (hl1 : l1 ≤ 300) (depth : Nat) (hd0 : 1 ≤ depth) (hd1 : depth ≤ 32) :
    Calls Try.prog 12 #[.slice a0 l0 c0, .slice a1 l1 c1, .int .i64 depth] w fun e w' => e = .returned (.bool true) ∧ Below w.heap.size w w' := by
  have q0 : decide ((300 : Int) < (l0 : Int)) = false := by simp; omega
  have q1 : decide ((300 : Int) < (l1 : Int)) = false := by simp; omega
  have q2 : decide ((depth : Int) < 1) = false := by simp; omega
  have q3 : decide ((32 : Int) < (depth : Int)) = false := by simp; omega
  have hlc := w1.le
  have W0 := Lib.hid (ints_of w0)
  have W1 := Lib.hid (ints_of w1)
  clear w0 w1
  go_enter Try.func12, Try.ntmps12
  go_wp2_with fail
  refine (parse_walk _ _ _ _ l0 _ _ _ _ _ l1 _ _ W0.out W1.out depth (by omega) (by omega) hd0 (by omega)).mono ?_
  rintro e w2 ⟨v2, rfl, hs2⟩
  have hok := parse_ok (two l0 z0 z1) (l0 + l1) l0 depth (by omega)
  have hlen := parse_len (two l0 z0 z1) (l0 + l1) l0 depth
  obtain ⟨ps, hps⟩ : ∃ ps, parse (two l0 z0 z1) (l0 + l1) l0 depth = ps := ⟨_, rfl⟩
  rw [hps] at hs2 hok hlen
  have hfit := ok_fits (two l0 z0 z1) l0 l1 ps 0 (by rw [Nat.add_zero]; exact hok)
  have T2 := Lib.hid hs2.touch
  obtain ⟨xa, xb, xc, rfl, hr⟩ := recs_row hs2.row
  have R := Lib.hid hr
  have HLit := Lib.hid (lit_walk w2 a1 b1 o1 l1 c1 z1 (W1.out.touch T2.out) hlc (by omega) xa xb 0 xc ps hr (by omega) hfit)
  have hex := fun most => exp_back l0 l1 z0 z1 (litL z1 l1 0 ps) most ps 0 0 (by rw [Nat.add_zero]; exact hok) rfl (by omega)
  have hll := litL_len z1 l1 ps 0 hfit
  obtain ⟨L, hL⟩ : ∃ L, litL z1 l1 0 ps = L := ⟨_, rfl⟩
  rw [hL] at HLit hex hll
  rw [Nat.add_zero] at hex
  obtain ⟨N, hN⟩ : ∃ N, ps.length = N := ⟨_, rfl⟩
  have hpsN : ps.length ≤ 100000 := by omega
  have HE := Lib.hid hex
  have HPN := Lib.hid hpsN
  have HN := Lib.hid hN
  rw [hN] at HLit hlen ⊢
  clear hs2 hr hps hok hfit hex hL hN hpsN
  go_wp2_with fail
  refine HLit.out.mono ?_
  rintro e w3 ⟨v3, rfl, hown3, ob3, t3⟩
  obtain ⟨ya, yb, yc, rfl, hy⟩ := ints_vals hown3
  have hyc := row_capV hown3
  have HY := Lib.hid hy
  have T3 := Lib.hid (T2.out.trans t3)
  have HX := Lib.hid (fun (w4 : World) (ht : Touch (fun _ => False) w3 w4) (most : Int) (h1 : -1 ≤ most) (h2 : most ≤ 100000) => exp_walk w4 a0 b0 o0 l0 c0 z0 ((W0.out.touch T3.out).touch ht) (by omega) ya yb 0 L.length yc _ (hy.touch ht) hyc (by omega) xa xb 0 xc ps ((R.out.touch t3).touch ht) HPN.out most h1 h2)
  rw [HN.out] at HX
  have hz0 : seg z0 0 l0 = seg (two l0 z0 z1) 0 l0 := seg_congr fun i hi => by unfold two; rw [if_pos (by omega)]
  rw [hz0] at HX
  obtain ⟨nl, hnl⟩ : ∃ n, L.length = n := ⟨_, rfl⟩
  have HNL := Lib.hid hnl
  rw [hnl] at HX HY
  have HE2 := HE.out
  rw [hnl] at HE2
  have HE3 := Lib.hid HE2
  rw [hnl]
  clear hown3 ob3 t3 hy hyc hz0 hnl HE2 HLit
  go_wp2_with fail
  refine (HX.out w3 (Touch.refl _ _) l1 (by omega) (by omega)).mono ?_
  rintro e w4 he
  rw [HE3.out, if_neg (by omega)] at he
  obtain ⟨x, rfl, hx, t4⟩ := he
  obtain ⟨qa, qb, qc, rfl, hq⟩ := exp_ints hx
  rw [seg_length, show l0 + l1 - l0 = l1 by omega] at hq ⊢
  have HQ := Lib.hid hq
  have T4 := Lib.hid t4
  clear hx hq t4
  go_wp2_with fail
  refine (HX.out w4 T4.out ((l1 : Int) - 1) (by omega) (by omega)).mono ?_
  rintro e w5 he
  rw [HE3.out, if_pos (by omega)] at he
  obtain ⟨rfl, t5⟩ := he
  have cv1 := fun c => conv_ints (HQ.out.touch t5) c
  have cv2 := fun c => conv_ints (W1.out.touch (T3.out.trans (T4.out.trans t5))) c
  have hsame : seg (fun i => (seg (two l0 z0 z1) 0 (l0 + l1)).getD (l0 + i) 0) 0 l1 = seg z1 0 l1 := by
    rw [seg_tail]
    exact seg_congr fun i hi => by unfold two; rw [if_neg (by omega)]; congr 1; omega
  rw [hsame] at cv1
  have T5 := Lib.hid (T3.out.trans (T4.out.trans t5))
  clear t5 hsame
  go_wp2_with fail
  clear cv1 cv2
  refine (known_walk _).mono ?_
  rintro e w6 ⟨rfl, t6⟩
  go_wp2_with fail
  go_ret
  exact ⟨rfl, (T5.out.trans t6).owned⟩

theorem MatchBack_law (w : World) (a0 : Option Addr) (b0 o0 l0 c0 : Nat) (z0 : Nat → Int) (w0 : IntsIn .u8 w a0 b0 o0 l0 c0 z0) (a1 : Option Addr) (b1 o1 l1 c1 : Nat) (z1 : Nat → Int) (w1 : IntsIn .u8 w a1 b1 o1 l1 c1 z1) (a2 : Int) (w2 : (Lit.int .i64 a2).wf = true) :
    Calls Try.prog 12 #[.slice a0 l0 c0, .slice a1 l1 c1, .int .i64 a2] w fun e w' => e = .returned (.bool true) ∧ Below w.heap.size w w' := by
  clear w2
  have hc : 300 < l0 ∨ (l0 ≤ 300 ∧ 300 < l1) ∨ (l0 ≤ 300 ∧ l1 ≤ 300 ∧ a2 < 1) ∨ (l0 ≤ 300 ∧ l1 ≤ 300 ∧ 1 ≤ a2 ∧ 32 < a2) ∨ (l0 ≤ 300 ∧ l1 ≤ 300 ∧ ∃ d : Nat, a2 = d ∧ 1 ≤ d ∧ d ≤ 32) := by
    by_cases h1 : 300 < l0
    · exact .inl h1
    by_cases h2 : 300 < l1
    · exact .inr (.inl ⟨by omega, h2⟩)
    by_cases h3 : a2 < 1
    · exact .inr (.inr (.inl ⟨by omega, by omega, h3⟩))
    by_cases h4 : 32 < a2
    · exact .inr (.inr (.inr (.inl ⟨by omega, by omega, by omega, h4⟩)))
    · exact .inr (.inr (.inr (.inr ⟨by omega, by omega, a2.toNat, by omega, by omega, by omega⟩)))
  rcases hc with h | ⟨h, h'⟩ | ⟨h, h', h1⟩ | ⟨h, h', h1, h2⟩ | ⟨h, h', d, rfl, h1, h2⟩
  rotate_left 4
  · exact MatchBack_in w a0 b0 o0 l0 c0 z0 w0 a1 b1 o1 l1 c1 z1 w1 h h' d h1 h2
  all_goals
    clear w0 w1
    go_enter Try.func12, Try.ntmps12
    go_wp2_with fail
    go_ret
    exact ⟨rfl, Below.refl _ _⟩
end Go.Proofs.Ytmhmbepohcapnaa
