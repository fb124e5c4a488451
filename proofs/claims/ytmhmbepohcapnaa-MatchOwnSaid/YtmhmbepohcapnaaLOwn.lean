/- The law MatchOwn, walked. -/
import Derived.Test.YtmhmbepohcapnaaLBack
namespace Go.Proofs.Ytmhmbepohcapnaa
open Go.RowKit Go.WideShapes
set_option linter.unusedVariables false
set_option linter.unusedSimpArgs false
set_option maxRecDepth 100000

/-- A block of bytes, the first T of which can be read and written. -/
def Bytes (w : World) (g T : Nat) : Prop := ∃ cur : Array Value, w.heap[g]? = some (.cells cur 5 (0, 0)) ∧ ∀ j, j < T → ∃ v : Int, cur[j]? = some (.int .u8 v)
theorem Bytes.set {w : World} {g T i : Nat} {v : Int} (h : Bytes w g T) : Bytes (w.setCell ⟨g, i, none⟩ (.int .u8 v)) g T := by
  obtain ⟨cur, h1, h2⟩ := h
  refine ⟨_, heap_setCell_same h1 _, fun j hj => ?_⟩
  obtain ⟨x, hx⟩ := h2 j hj
  rw [Array.getElem?_setIfInBounds]
  by_cases e : i = j
  · subst e
    have := (Array.getElem?_eq_some_iff.1 hx).1
    rw [if_pos rfl, if_pos this]; exact ⟨v, rfl⟩
  · rw [if_neg e]; exact ⟨x, hx⟩
theorem Bytes.get {w : World} {g T i : Nat} (h : Bytes w g T) (hi : i < T) : ∃ v : Int, w.cell? ⟨g, i, none⟩ = some (.int .u8 v) := by
  obtain ⟨cur, h1, h2⟩ := h
  obtain ⟨x, hx⟩ := h2 i hi
  exact ⟨x, by rw [cell_of_row _ _ _ _ _ _ h1]; exact hx⟩
theorem Bytes.free {w : World} {g T : Nat} (h : Bytes w g T) (i : Nat) : w.frozen? ⟨g, i, none⟩ = false := by
  obtain ⟨cur, h1, _⟩ := h
  simp [World.frozen?, h1]
theorem Bytes.touch {w w' : World} {g T : Nat} {S : Nat → Prop} (h : Bytes w g T) (ht : Touch S w w') (hs : ¬ S g) : Bytes w' g T := by
  obtain ⟨cur, h1, h2⟩ := h
  exact ⟨cur, ht.heap h1 hs, h2⟩
theorem row_bytes {w : World} {v : Value} {r : List Int} {g : Nat} (h : w.ownsRow 0 5 1 v r.length (vals r)) (hg : v.ownBlock = some g) : Bytes w g r.length := by
  rcases h.2 with ⟨rfl, _⟩ | ⟨g', cap, cur, rfl, _, h1, _, _, _, h5⟩
  · cases hg
  · simp [Value.ownBlock] at hg
    subst hg
    refine ⟨cur, h1, fun j hj => ?_⟩
    have := congrArg (·[j]?) h5
    simp only [Nat.mul_one] at this
    rw [List.getElem?_take_of_lt hj] at this
    exact ⟨r[j], by rw [← Array.getElem?_toList, this]; simp [vals, hj]⟩

/-- What a law that turns bytes of its own keeps: whatever lay in w, and two rows more. -/
structure Keep (w wr : World) (pb db l0 l1 : Nat) (pa da : Option Addr) (z0 z1 : Nat → Int) : Prop where
  p : Ints .u8 wr pa pb 0 l0 z0
  d : Ints .u8 wr da db 0 l1 z1
  t : Touch (fun _ => False) w wr

set_option maxHeartbeats 2000000 in
theorem MatchOwn_in (w : World) (a0 : Option Addr) (b0 o0 l0 c0 : Nat) (z0 : Nat → Int) (w0 : IntsIn .u8 w a0 b0 o0 l0 c0 z0) (a1 : Option Addr) (b1 o1 l1 c1 : Nat) (z1 : Nat → Int) (w1 : IntsIn .u8 w a1 b1 o1 l1 c1 z1) (hl0 : l0 ≤ 200) (hl1 : l1 ≤ 200) :
    Calls Try.prog 13 #[.slice a0 l0 c0, .slice a1 l1 c1] w fun e w' => e = .returned (.bool true) ∧ Below w.heap.size w w' := by
  obtain ⟨j0, hj, hj0, hj1, hj2⟩ := info_parts Try.info5
  have q0 : decide ((200 : Int) < (l0 : Int)) = false := by simp; omega
  have q1 : decide ((200 : Int) < (l1 : Int)) = false := by simp; omega
  have W0 := Lib.hid (ints_of w0)
  have W1 := Lib.hid (ints_of w1)
  clear w0 w1
  go_enter Try.func13, Try.ntmps13
  go_wp2_with (first
    | (refine wpList_append_mine rfl (.tmp 22) (.tmp 23) 22 22 rfl 5 j0 (.int .u8 0) 1 1 Try.underlying22 hj hj0 hj1 hj2 rfl (.slice (some ⟨w.heap.size, 0, none⟩) 0 0) 0 [] rfl (row_of_tab (m := 0) (F := fun _ => .int .u8 0) (heap_alloc_new _ _) (by unfold maxLen; omega)) _ l0 _ rfl (src_ints c0 Try.underlying22 (W0.out.touch (Touch.new w _))) (by unfold maxLen; omega) (by omega) ?_; intro a5 c5 w2 hown ht hf _; simp only [Nat.zero_add, List.nil_append] at hown hf ⊢; have t2 := Lib.hid (own_app (Touch.new w _) (OwnB.here w 0) ht); have o2 := (OwnB.here w 0).fresh hf (Touch.new w _).size; obtain ⟨pa, pb, pc, hpv, hp⟩ := ints_row hown; simp at hpv; obtain ⟨rfl, rfl⟩ := hpv; have HP := Lib.hid hp; clear hown ht hf hp)
    | (refine wpList_append_mine rfl (.tmp 25) (.tmp 26) 22 22 rfl 5 j0 (.int .u8 0) 1 1 Try.underlying22 hj hj0 hj1 hj2 rfl (.slice (some ⟨w2.heap.size, 0, none⟩) 0 0) 0 [] rfl (row_of_tab (m := 0) (F := fun _ => .int .u8 0) (heap_alloc_new _ _) (by unfold maxLen; omega)) _ l1 _ rfl (src_ints c1 Try.underlying22 (W1.out.touch (t2.out.trans (Touch.new w2 _)))) (by unfold maxLen; omega) (by omega) ?_; intro a6 c6 w3 hown ht hf _; simp only [Nat.zero_add, List.nil_append] at hown hf ⊢))
  have t3 := own_app (Touch.new w2 _) (OwnB.here w2 0) ht
  have o3 := (OwnB.here w2 0).fresh hf (Touch.new w2 _).size
  have hdc := row_capV hown
  obtain ⟨da, db, dc, hdv, hd⟩ := ints_row hown
  simp at hdv
  obtain ⟨rfl, rfl⟩ := hdv
  have T3 := Lib.hid (t2.out.trans t3)
  have HP3 := Lib.hid (HP.out.touch t3)
  have HD := Lib.hid hd
  clear hown ht hf hd t3
  go_wp2_with fail
  refine (parse_walk _ _ _ _ l0 _ _ _ _ _ l1 _ _ HP3.out HD.out 8 (by omega) (by omega) (by omega) (by omega)).mono ?_
  rintro e w4 ⟨v4, rfl, hs4⟩
  have hok := parse_ok (two l0 z0 z1) (l0 + l1) l0 8 (by omega)
  have hlen := parse_len (two l0 z0 z1) (l0 + l1) l0 8
  obtain ⟨ps, hps⟩ : ∃ ps, parse (two l0 z0 z1) (l0 + l1) l0 8 = ps := ⟨_, rfl⟩
  rw [hps] at hs4 hok hlen
  have hfit := ok_fits (two l0 z0 z1) l0 l1 ps 0 (by rw [Nat.add_zero]; exact hok)
  have T4 := Lib.hid hs4.touch
  obtain ⟨xa, xb, xc, rfl, hr⟩ := recs_row hs4.row
  have R := Lib.hid hr
  have HLit := Lib.hid (lit_walk w4 a6 db 0 l1 c6 z1 (HD.out.touch T4.out) hdc (by omega) xa xb 0 xc ps hr (by omega) hfit)
  have hex := fun most => exp_back l0 l1 z0 z1 (litL z1 l1 0 ps) most ps 0 0 (by rw [Nat.add_zero]; exact hok) rfl (by omega)
  have hll := litL_len z1 l1 ps 0 hfit
  obtain ⟨L, hL⟩ : ∃ L, litL z1 l1 0 ps = L := ⟨_, rfl⟩
  rw [hL] at HLit hex hll
  rw [Nat.add_zero] at hex
  obtain ⟨N, hN⟩ : ∃ N, ps.length = N := ⟨_, rfl⟩
  have hpsN : ps.length ≤ 100000 := by omega
  have HE := Lib.hid hex
  have HPN := Lib.hid hpsN
  have HN := Lib.hid hN
  rw [hN] at HLit hlen ⊢
  clear hs4 hr hps hok hfit hex hL hN hpsN
  go_wp2_with fail
  refine HLit.out.mono ?_
  rintro e w5 ⟨v5, rfl, hown5, ob5, t5⟩
  obtain ⟨ya, yb, yc, rfl, hy⟩ := ints_vals hown5
  have hyc := row_capV hown5
  have HLR := Lib.hid hown5
  have HLO := Lib.hid ob5
  have HY := Lib.hid hy
  have T5 := Lib.hid t5
  have HX := Lib.hid (exp_walk w5 a5 pb 0 l0 c5 z0 ((HP3.out.touch T4.out).touch t5) (by omega) ya yb 0 L.length yc _ hy hyc (by omega) xa xb 0 xc ps (R.out.touch t5) HPN.out 200 (by omega) (by omega))
  rw [HN.out] at HX
  have hz0 : seg z0 0 l0 = seg (two l0 z0 z1) 0 l0 := seg_congr fun i hi => by unfold two; rw [if_pos (by omega)]
  rw [hz0, HE.out, if_neg (by omega)] at HX
  obtain ⟨nl, hnl⟩ : ∃ n, L.length = n := ⟨_, rfl⟩
  rw [hnl] at hll
  rw [hnl] at HX HY HLR ⊢
  clear hown5 ob5 t5 hy hyc hz0 HLit
  go_wp2_with fail
  refine HX.out.mono ?_
  rintro e w6 ⟨x, rfl, hx, t6⟩
  obtain ⟨v, xa2, xc2, rfl, hrow6, ob6, hat6⟩ := hx
  rw [seg_length, show l0 + l1 - l0 = l1 by omega] at hat6 ⊢
  rw [seg_length] at hrow6
  have hsl : (seg (two l0 z0 z1) 0 (l0 + l1)).length = l0 + l1 := seg_length _ _ _
  have hg : ∃ g, w5.heap.size ≤ g ∧ (0 < l1 → xa2 = some ⟨g, l0, none⟩ ∧ Bytes w6 g (l0 + l1)) := by
    by_cases h0 : 0 < l1
    · obtain ⟨g, hg, he⟩ := hat6 h0
      refine ⟨g, ob6 g hg, fun _ => ⟨he, ?_⟩⟩
      have := row_bytes (r := seg (two l0 z0 z1) 0 (l0 + l1)) (by rw [hsl]; exact hrow6) hg
      rwa [hsl] at this
    · exact ⟨w5.heap.size, Nat.le_refl _, fun h => absurd h h0⟩
  obtain ⟨g, hg5, hgb⟩ := hg
  have hy : ∃ yg, w4.heap.size ≤ yg ∧ yg ≠ g ∧ (0 < nl → ya = some ⟨yg, 0, none⟩ ∧ Bytes w6 yg nl) := by
    by_cases h0 : 0 < nl
    · rcases row_form HLR.out with ⟨_, hn⟩ | ⟨yg, c, hv⟩
      · omega
      · cases hv
        have h1 := own_lt HLR.out yg rfl
        have hLl : L.length = nl := by have := HLR.out.1; simpa [vals] using this
        refine ⟨yg, HLO.out yg rfl, by omega, fun _ => ⟨rfl, ?_⟩⟩
        have := row_bytes (r := L) (by rw [hLl]; exact HLR.out) rfl
        rw [hLl] at this
        exact this.touch t6 id
    · exact ⟨g + 1 + w4.heap.size, by omega, by omega, fun h => absurd h h0⟩
  obtain ⟨yg, hyg, hyne, hyb⟩ := hy
  have s34 := T4.out.size
  have s45 := T5.out.size
  have hK : Touch (fun q => w3.heap.size ≤ q) w3 w6 := ((T4.out.trans T5.out).trans t6).none
  have HK := Lib.hid hK
  have HGB := Lib.hid hgb
  have HYB := Lib.hid hyb
  have hnlb : nl ≤ 200 := by
    have := HLR.out.1
    simp [vals] at this
    omega
  clear hrow6 hsl hat6 ob6 t6 hK hgb hyb HLR HX HY HE
  go_wp2_with fail
  go_loopw [12] (fun i wr => ∃ k : Nat, k ≤ l1 ∧ i = .int .i64 k ∧ Touch (fun q => w3.heap.size ≤ q) w3 wr ∧ (0 < l1 → Bytes wr g (l0 + l1)) ∧ (0 < nl → Bytes wr yg nl)) (fun i _ => l1 - (intOf i).toNat)
  case atStart => exact ⟨0, by omega, rfl, HK.out, fun h => (HGB.out h).2, fun h => (HYB.out h).2⟩
  case round =>
    obtain ⟨k, hk, rfl, htk, hb1, hb2⟩ := hrel
    by_cases hlt : k < l1
    · obtain ⟨rfl, _⟩ := HGB.out (by omega)
      have hbb := hb1 (by omega)
      obtain ⟨v0, hv0⟩ := hbb.get (i := l0 + k) (by omega)
      have hfr := hbb.free (l0 + k)
      have HB := Lib.hid hbb
      have HB2 := Lib.hid hb2
      clear hb1 hb2 hbb
      go_wp2_with fail
      go_roundw
      case rel => exact ⟨k + 1, by omega, by go_num, htk.setCell (fun _ => by show w3.heap.size ≤ g; omega) _, fun _ => HB.out.set, fun h => (HB2.out h).touch ((Touch.refl (· = g) _).setCell (p := ⟨g, l0 + k, none⟩) (fun _ => rfl) _) hyne⟩
      case measure => simp [intOf]; omega
    · obtain rfl : k = l1 := by omega
      have HB2 := Lib.hid hb2
      clear hb1 hb2
      go_wp2_with fail
      go_loopw [13] (fun i wr => ∃ k : Nat, k ≤ nl ∧ i = .int .i64 k ∧ Touch (fun q => w3.heap.size ≤ q) w3 wr ∧ (0 < nl → Bytes wr yg nl)) (fun i _ => nl - (intOf i).toNat)
      case atStart => exact ⟨0, by omega, rfl, htk, HB2.out⟩
      case round =>
        obtain ⟨j, hjn, rfl, htj, hb3⟩ := hrel
        by_cases hlt2 : j < nl
        · obtain ⟨rfl, _⟩ := HYB.out (by omega)
          have hbb := hb3 (by omega)
          obtain ⟨v0, hv0⟩ := hbb.get (i := j) (by omega)
          have hfr := hbb.free j
          have HB := Lib.hid hbb
          clear hb3 hbb
          go_wp2_with fail
          go_roundw
          case rel => exact ⟨j + 1, by omega, by go_num, htj.setCell (fun _ => by show w3.heap.size ≤ yg; omega) _, fun _ => HB.out.set⟩
          case measure => simp [intOf]; omega
        · obtain rfl : j = nl := by omega
          have keep : ∀ {k : IntKind} {a : Option Addr} {b off n : Nat} {z : Nat → Int}, Ints k w3 a b off n z → Ints k wr a b off n z := fun h => h.touchS htj (fun h0 hb => by
            have := World.block_lt_of_cell? _ _ (h.cell 0 h0)
            have h' : w3.heap.size ≤ _ := hb
            simp at this
            omega)
          have cv1 := fun c => conv_ints (keep HP3.out) c
          have cv2 := fun c => conv_ints (keep HD.out) c
          have cv3 := fun c => conv_ints (keep (W0.out.touch T3.out)) c
          have cv4 := fun c => conv_ints (keep (W1.out.touch T3.out)) c
          have TF : Hid (Touch (fun q => w.heap.size ≤ q) w wr) := Lib.hid (T3.out.none.then htj (fun i hi h => by have h' : w3.heap.size ≤ i := h; have := T3.out.size; omega))
          clear keep hb3 htj htk
          go_wp2_with fail
          clear cv1 cv2 cv3 cv4
          refine (known_walk _).mono ?_
          rintro e w8 ⟨rfl, t8⟩
          go_wp2_with fail
          go_ret
          exact ⟨rfl, (TF.out.trans t8.none).below (Nat.le_refl _)⟩
theorem MatchOwn_law (w : World) (a0 : Option Addr) (b0 o0 l0 c0 : Nat) (z0 : Nat → Int) (w0 : IntsIn .u8 w a0 b0 o0 l0 c0 z0) (a1 : Option Addr) (b1 o1 l1 c1 : Nat) (z1 : Nat → Int) (w1 : IntsIn .u8 w a1 b1 o1 l1 c1 z1) :
    Calls Try.prog 13 #[.slice a0 l0 c0, .slice a1 l1 c1] w fun e w' => e = .returned (.bool true) ∧ Below w.heap.size w w' := by
  have hc : 200 < l0 ∨ (l0 ≤ 200 ∧ 200 < l1) ∨ (l0 ≤ 200 ∧ l1 ≤ 200) := by omega
  rcases hc with h | ⟨h, h'⟩ | ⟨h, h'⟩
  rotate_left 2
  · exact MatchOwn_in w a0 b0 o0 l0 c0 z0 w0 a1 b1 o1 l1 c1 z1 w1 h h'
  all_goals
    clear w0 w1
    go_enter Try.func13, Try.ntmps13
    go_wp2_with fail
    go_ret
    exact ⟨rfl, Below.refl _ _⟩
end Go.Proofs.Ytmhmbepohcapnaa
