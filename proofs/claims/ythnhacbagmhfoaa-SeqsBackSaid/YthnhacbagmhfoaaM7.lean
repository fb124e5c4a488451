/- seqs: bytes that came in, appended to nothing; what stands behind what was packed; what was cut short; the law SeqsTakes. No condition. -/
import Derived.Test.YthnhacbagmhfoaaM5
/- seqs: bytes that came in, appended to nothing; what stands behind what was packed; what was cut short. -/
namespace Go.Proofs.Ythnhacbagmhfoaa
open Go.RowKit Go.WideShapes Go.Shelf Fs
set_option linter.unusedVariables false
set_option linter.unusedSimpArgs false
set_option maxRecDepth 100000

/-- Bytes that came in, as a list. -/
def listB (n : Nat) (z : Nat → Int) : List Nat := (List.range n).map fun i => (z i).toNat
theorem listB_len (n : Nat) (z : Nat → Int) : (listB n z).length = n := by simp [listB]
theorem bytes_in {w : World} {a : Option Addr} {b o n c : Nat} {z : Nat → Int} (h : IntsIn .u8 w a b o n c z) : BytesAt w a b o (listB n z) ∧ ∀ x ∈ listB n z, x < 256 := by
  refine ⟨⟨fun hp => h.at_ (by rw [listB_len] at hp; exact hp), fun i hi => ?_⟩, fun x hx => ?_⟩
  · rw [listB_len] at hi
    rw [h.cell i hi]
    have := u8_wf (h.wf i)
    simp [listB, hi]
    omega
  · simp only [listB, List.mem_map] at hx
    obtain ⟨i, _, rfl⟩ := hx
    have := u8_wf (h.wf i)
    omega
theorem empty_row (w : World) : (w.alloc (.cells #[] 5)).ownsRow 0 5 1 (.slice (some ⟨w.heap.size, 0, none⟩) 0 0) 0 (u8L []) := row_of_tab (m := 0) (F := fun _ => .int .u8 0) (heap_alloc_new _ _) (by unfold maxLen; omega)
theorem row_bytes {w : World} {a : Option Addr} {n c : Nat} {l : List Nat} (h : w.ownsRow 0 5 1 (.slice a n c) n (u8L l)) (hl : l.length = n) : ∃ b, BytesAt w a b 0 l ∧ n ≤ c ∧ (0 < n → b < w.heap.size) := by
  subst hl
  obtain ⟨a', b, c', hv, hb⟩ := RowU.bytes (v := .slice a l.length c) (l := l) h
  cases hv
  refine ⟨b, hb, ?_, fun hp => ints_lt hb hp⟩
  rcases h.2 with ⟨_, h0⟩ | ⟨g, cap, cur, hv, _, _, h1, _⟩
  · rw [h0]; exact Nat.zero_le _
  · cases hv; exact h1
/-- Bytes in new memory. -/
structure AppR (w0 : World) (n : Nat) (L : List Nat) (a : Option Addr) (c : Nat) (w : World) : Prop where
  t : Touch (fun _ => False) w0 w
  row : w.ownsRow 0 5 1 (.slice a n c) n (u8L L)
  own : OwnB w0.heap.size (.slice a n c)
theorem AppR.touch {w0 w w' : World} {n c : Nat} {L : List Nat} {a : Option Addr} (h : AppR w0 n L a c w) (t : Touch (fun _ => False) w w') : AppR w0 n L a c w' :=
  ⟨h.t.trans t, t.row h.row (fun _ _ => id), h.own⟩
/-- Nothing, in new memory. -/
theorem AppR.start {w0 w : World} (t : Touch (fun _ => False) w0 w) : AppR w0 0 [] (some ⟨w.heap.size, 0, none⟩) 0 (w.alloc (.cells #[] 5)) :=
  ⟨t.alloc _, empty_row w, fun k hk => by
    have := t.size
    simp [Value.ownBlock] at hk; omega⟩
theorem AppR.app {w0 wx w5 : World} {n m c c5 : Nat} {L M : List Nat} {a a5 : Option Addr} (h : AppR w0 n L a c wx) (hown : w5.ownsRow 0 5 1 (.slice a5 (n + m) c5) (n + m) (u8L L ++ u8L M)) (ht : Touch (fun k => (Value.slice a n c).ownBlock = some k) wx w5) (hf : Fresh wx.heap.size (.slice a n c) (.slice a5 (n + m) c5)) : AppR w0 (n + m) (L ++ M) a5 c5 w5 :=
  ⟨own_app h.t h.own ht, by rw [u8L_app]; exact hown, h.own.fresh hf h.t.size⟩
theorem AppR.first {w0 w5 : World} {m c5 : Nat} {M : List Nat} {a5 : Option Addr} (h : AppR w0 (0 + m) ([] ++ M) a5 c5 w5) : AppR w0 m M a5 c5 w5 := by
  rw [Nat.zero_add, List.nil_append] at h; exact h

theorem bytes_head {w : World} {a : Option Addr} {b k : Nat} {L : List Nat} (h : BytesAt w a b 0 L) : BytesAt w a b 0 (L.take k) := by
  refine ⟨fun hp => h.at_ ?_, fun i hi => ?_⟩
  · rw [List.length_take] at hp; omega
  · rw [List.length_take] at hi
    rw [h.cell i (by omega)]
    congr 3
    rw [List.getD_eq_getElem?_getD, List.getD_eq_getElem?_getD, List.getElem?_take_of_lt (by omega)]
theorem pack_le2 {z : Nat → Nat → Int} {h : H3} {n : Nat} (hp : packOk z n = true) : (packB z h n).length ≤ 9000 := by
  unfold packB
  by_cases h0 : n = 0
  · rw [if_pos h0]; simp [two2]
  · rw [if_neg h0]
    have hn := Nat.pos_of_ne_zero h0
    have h5 := (pack_ok hp).1
    have h1 := rowB_len hn h5 (fun i hi => (pack_lt (h := h) hp hi).1)
    have h2 := rowB_len (v := vOff z h) hn h5 (fun i hi => (pack_lt hp hi).2.1)
    have h3 := rowB_len hn h5 (fun i hi => (pack_lt (h := h) hp hi).2.2)
    have h4 := extB_len (vl := vLit z) (vo := vOff z h) (vm := vMore z) h5
    simp only [List.length_append]
    simp only [two2, List.length_cons, List.length_nil] at *
    omega
/-- Whatever stands behind what was packed: the same comes back. -/
theorem unp_more {z : Nat → Nat → Int} {h : H3} {n : Nat} (hp : packOk z n = true) (R : List Nat) : unpN (packB z h n ++ R) h = n ∧ unpH (packB z h n ++ R) h = packH z h n ∧ unpS (packB z h n ++ R) h = (packB z h n).length ∧ (unpQ (packB z h n ++ R) h).isSome = true ∧ Agree (qz (packB z h n ++ R) h) z n := by
  obtain ⟨hq, ha⟩ := unp_back (h := h) (B := packB z h n ++ R) hp (List.prefix_append _ _)
  unfold unpN unpH unpS packH
  rw [hq, if_pos hp]
  refine ⟨rfl, hist_congr3 ha, ?_, rfl, ha⟩
  show (packB (qz (packB z h n ++ R) h) h n).length = _
  rw [packB_congr ha]
/-- Cut short, nothing comes back. -/
theorem unp_cut {z : Nat → Nat → Int} {h : H3} {n k : Nat} (hp : packOk z n = true) (hk : k < (packB z h n).length) : unpQ ((packB z h n).take k) h = none := by
  cases hq : unpQ ((packB z h n).take k) h with
  | none => rfl
  | some m =>
    exfalso
    have key : packOk (qz ((packB z h n).take k) h) m = true ∧ packB (qz ((packB z h n).take k) h) h m <+: (packB z h n).take k := by
      unfold unpQ at hq
      split at hq
      · cases hq
      · split at hq
        · rename_i hh
          injection hq with e
          subst e
          exact hh
        · cases hq
    obtain ⟨k1, k2⟩ := key
    obtain ⟨R, e1, e2, _, _⟩ := steps_back k1 (k2.trans (List.take_prefix _ _))
    obtain ⟨R2, f1, f2, _, _⟩ := steps_back hp (List.prefix_refl (packB z h n))
    rw [e2] at f2
    obtain rfl : R = R2 := by injection f2 with e; injection e
    have l1 := congrArg List.length e1
    have l2 := congrArg List.length f1
    have l3 := k2.length_le
    rw [List.length_append] at l1 l2
    rw [List.length_take] at l3
    omega
theorem cut_out {z : Nat → Nat → Int} {h : H3} {n k : Nat} (hp : packOk z n = true) (hk : k < (packB z h n).length) : unpN ((packB z h n).take k) h = 0 ∧ unpH ((packB z h n).take k) h = h ∧ unpS ((packB z h n).take k) h = 0 ∧ (unpQ ((packB z h n).take k) h).isSome = false := by
  have hq := unp_cut (h := h) hp hk
  unfold unpN unpH unpS
  rw [hq]
  exact ⟨rfl, rfl, rfl, rfl⟩
theorem none_unp {h : H3} {R : List Nat} : unpN ([0, 0] ++ R) h = 0 ∧ unpH ([0, 0] ++ R) h = h ∧ unpS ([0, 0] ++ R) h = 2 ∧ (unpQ ([0, 0] ++ R) h).isSome = true := by
  obtain ⟨a, b, c, d, _⟩ := unp_more (z := fun _ _ => 0) (h := h) (n := 0) rfl R
  exact ⟨a, b, c, d⟩
/-- What the three noughts' block and the last three are worth while a drawn region runs. -/
theorem Arr.app {w w' : World} {p g n c : Nat} {h : H3} (k : Arr w p h) (t : Touch (fun k => (Value.slice (some ⟨g, 0, none⟩) n c).ownBlock = some k) w w') (hg : p ≠ g) : Arr w' p h :=
  k.touch t (fun e => by simp [Value.ownBlock] at e; exact hg e.symm)
theorem Arr.app2 {w0 w w' : World} {p n c : Nat} {L : List Nat} {a : Option Addr} {h : H3} (k : Arr w p h) (r : AppR w0 n L a c w) (t : Touch (fun k => (Value.slice a n c).ownBlock = some k) w w') : Arr w' p h :=
  k.touch t (fun e => own_ne r.row k (by decide) e)
def C3 (w : World) (b : Nat) (h : H3) : Prop := w.cell? ⟨b, 0, none⟩ = some (.int .i64 h.a) ∧ w.cell? ⟨b, 1, none⟩ = some (.int .i64 h.b) ∧ w.cell? ⟨b, 2, none⟩ = some (.int .i64 h.c)
theorem C3.touch {w w' : World} {b : Nat} {h : H3} (k : C3 w b h) (t : Touch (fun _ => False) w w') : C3 w' b h := And.intro (t.cell (And.left k) id) (And.intro (t.cell (And.left (And.right k)) id) (t.cell (And.right (And.right k)) id))
theorem C3.put {w : World} {b p : Nat} {h g : H3} (k : C3 w b h) (hp : b ≠ p) : C3 (put3 w p g) b h := And.intro ((touch_put3 w p g).cell (And.left k) hp) (And.intro ((touch_put3 w p g).cell (And.left (And.right k)) hp) ((touch_put3 w p g).cell (And.right (And.right k)) hp))
theorem neP {a b c : Nat} (h : a < b) (k : b ≤ c) : a ≠ c := by omega
theorem z3_new (w : World) : Arr (w.alloc (.cells #[.int .i64 0, .int .i64 0, .int .i64 0] 31)) w.heap.size ⟨0, 0, 0⟩ := heap_alloc_new _ _
theorem z3_new1 (w : World) : Arr ((w.alloc (.cells #[] 5)).alloc (.cells #[.int .i64 0, .int .i64 0, .int .i64 0] 31)) (w.heap.size + 1) ⟨0, 0, 0⟩ := heap_alloc_2 _ _ _
theorem z3_then (w : World) : Arr ((w.alloc (.cells #[.int .i64 0, .int .i64 0, .int .i64 0] 31)).alloc (.cells #[] 5)) w.heap.size ⟨0, 0, 0⟩ := (z3_new w).touch (Touch.new _ _) id
theorem start1 (w : World) : AppR w 0 [] (some ⟨w.heap.size, 0, none⟩) 0 (w.alloc (.cells #[] 5)) := AppR.start (Touch.refl _ w)
theorem start2 (w : World) : AppR w 0 [] (some ⟨w.heap.size, 0, none⟩) 0 ((w.alloc (.cells #[] 5)).alloc (.cells #[.int .i64 0, .int .i64 0, .int .i64 0] 31)) := (start1 w).touch (Touch.new _ _)
theorem start3 (w : World) : AppR w 0 [] (some ⟨w.heap.size + 1, 0, none⟩) 0 ((w.alloc (.cells #[.int .i64 0, .int .i64 0, .int .i64 0] 31)).alloc (.cells #[] 5)) := by
  have := AppR.start (Touch.new w (.cells #[.int .i64 0, .int .i64 0, .int .i64 0] 31))
  rwa [show (w.alloc (.cells #[.int .i64 0, .int .i64 0, .int .i64 0] 31)).heap.size = w.heap.size + 1 from by show (w.heap.push _).size = _; exact Array.size_push _] at this
/-- What an Unpack gives, and where it lies. -/
theorem unp_out3 {B : List Nat} {h : H3} (hw : WfH h) {w w' : World} {e : Ending} (hp : UnpPost B h w e w') :
    ∃ a b c, e = .returned (.tuple #[.slice a (unpN B h) c, (unpH B h).val, .int .i64 (unpS B h : Nat), .bool (unpQ B h).isSome]) ∧ RecsIn 3 w' a b 0 (unpN B h) c (qz B h) ∧ (0 < unpN B h → w.heap.size ≤ b) ∧ Touch (fun _ => False) w w' := by
  obtain ⟨ht, hm⟩ := hp
  unfold unpN unpH unpS
  cases hq : unpQ B h with
  | none =>
    rw [hq] at hm
    exact ⟨none, 0, 0, hm, recs_none _ _ (Nat.zero_le _) _ (qz_wf hw) _, fun hh => absurd hh (Nat.lt_irrefl _), ht⟩
  | some n =>
    rw [hq] at hm
    obtain ⟨a, b, c, he, hr, hb⟩ := hm
    exact ⟨a, b, c, he, hr, hb, ht⟩
/-- Behind a region that calls Unpack and lays the last three into a block of its own. -/
structure UnpF (wd : World) (n : Nat) (z : Nat → Nat → Int) (g : H3) (W : World) (p : Nat) (ap : Option Addr) (bp cp : Nat) : Prop where
  t : Touch (fun _ => False) wd W
  arr : Arr W p g
  recs : RecsIn 3 W ap bp 0 n cp z
theorem UnpF.pre {wd w5 w6 : World} {n p bp cp : Nat} {z : Nat → Nat → Int} {g : H3} {ap : Option Addr} (t : Touch (fun _ => False) wd w5) (ht : Touch (fun _ => False) w5 w6) (hz : Arr w5 p ⟨0, 0, 0⟩) (hp : wd.heap.size ≤ p) (hr : RecsIn 3 w6 ap bp 0 n cp z) (hb : 0 < n → w5.heap.size ≤ bp) : UnpF wd n z g (put3 w6 p g) p ap bp cp :=
  ⟨(t.trans ht).then (touch_put3 w6 p g) (fun i hi e => by subst e; omega), (hz.touch ht id).put g, recs_put hr (touch_put3 w6 p g) (fun h0 e => by
    have := hb h0
    have := lt_of_block hz
    omega)⟩
theorem UnpF.post {wd w6 : World} {n bp cp : Nat} {z : Nat → Nat → Int} {g : H3} {ap : Option Addr} (t : Touch (fun _ => False) wd w6) (hr : RecsIn 3 w6 ap bp 0 n cp z) : UnpF wd n z g (w6.alloc (.cells #[.int .i64 g.a, .int .i64 g.b, .int .i64 g.c] 31)) w6.heap.size ap bp cp :=
  ⟨t.trans (Touch.new w6 _), arr_new w6 g, recs_touch hr (Touch.new w6 _)⟩
theorem tail_once {G X : Prop} (h : Hid X → G) (x : X) : G := h (Lib.hid x)
end Go.Proofs.Ythnhacbagmhfoaa

/- seqs: the law SeqsTakes. -/
namespace Go.Proofs.Ythnhacbagmhfoaa
open Go.RowKit Go.WideShapes Go.Shelf Fs
set_option linter.unusedVariables false
set_option linter.unusedSimpArgs false
set_option maxRecDepth 100000

set_option maxHeartbeats 8000000 in
theorem SeqsTakes_in (w : World) (a0 : Option Addr) (b0 o0 l0 c0 : Nat) (z0 : Nat → Int) (w0 : IntsIn .u8 w a0 b0 o0 l0 c0 z0) (h : H3) (hw : WfH h) (hl : l0 ≤ 1000) :
    Calls Try.prog 11 #[.slice a0 l0 c0, h.val] w fun e w' => e = .returned (.bool true) ∧ Below w.heap.size w w' := by
  obtain ⟨j0, hj, hj0, hj1, hj2⟩ := info_parts Try.info5c
  have hdl : decide ((1000 : Int) < l0) = false := decide_eq_false (by omega)
  obtain ⟨hbi, h8⟩ := bytes_in w0
  have hcap := w0.le
  have hblk := w0.lt
  have hA := arr_new w h
  have t0 := Touch.new w (.cells #[.int .i64 h.a, .int .i64 h.b, .int .i64 h.c] 31)
  obtain ⟨wa, hwa⟩ : ∃ W, w.alloc (.cells #[.int .i64 h.a, .int .i64 h.b, .int .i64 h.c] 31) = W := ⟨_, rfl⟩
  rw [hwa] at hA t0
  have HWA := Lib.hid hwa
  have td := (Touch.refl (fun _ => False) wa).drew
  have HA := Lib.hid (hA.touch td id)
  have HLN := Lib.hid (listB_len l0 z0)
  obtain ⟨ML, hML⟩ : ∃ l, listB l0 z0 = l := ⟨_, rfl⟩
  rw [hML] at hbi h8 HLN
  have HZA := Lib.hid (show w.heap.size < wa.heap.size from lt_of_block hA)
  have T0 := Lib.hid (t0.trans td)
  have HW := Lib.hid hw
  have HX1 := Lib.hid (max_len (n := 0 + l0) (by omega))
  have HUP := Lib.hid (fun W a c (r : AppR wa.drew l0 ML a c W) => (show Calls Try.prog 22 #[.slice a l0 c, h.val] W (UnpPost ML h W) from by
    obtain ⟨b, hb, hc, hlt⟩ := row_bytes r.row HLN.out
    have := HLN.out
    subst this
    exact punp_walk W a b 0 c ML h hw hb hc hlt h8 (by omega)))
  have HUC := Lib.hid (fun W (tw : Touch (fun _ => False) wa.drew W) => (show Calls Try.prog 26 #[.slice a0 l0 c0, h.val] W (UnpPost ML h W) from by
    have tw := td.trans tw
    have hb := (hbi.touch t0).touch tw
    have := cunp_walk W a0 b0 o0 c0 ML h hw hb (by rw [HLN.out]; exact hcap) (fun hp => Nat.lt_of_lt_of_le (hblk (by rw [HLN.out] at hp; exact hp)) (Nat.le_trans t0.size tw.size)) h8 (by rw [HLN.out]; omega)
    rw [HLN.out] at this; exact this))
  have HSRC := Lib.hid (fun W (tw : Touch (fun _ => False) wa.drew W) => (by
    have := (((hbi.touch t0).touch td).touch tw : BytesAt W a0 b0 o0 ML)
    have hs := BytesAt.src this c0
    rw [HLN.out] at hs; exact hs : Src Try.prog 1 28 (.slice a0 l0 c0) l0 (u8L ML) W))
  have HQ := Lib.hid (show C3 wa.drew w.heap.size h from (hA.touch td id).cells)
  have R1 := Lib.hid (start1 wa.drew)
  have R2 := Lib.hid (start2 wa.drew)
  have R3 := Lib.hid (start3 wa.drew)
  obtain ⟨nU, hnU⟩ : ∃ x, unpN ML h = x := ⟨_, rfl⟩
  obtain ⟨HU, hHU⟩ : ∃ x, unpH ML h = x := ⟨_, rfl⟩
  obtain ⟨sU, hsU⟩ : ∃ x, unpS ML h = x := ⟨_, rfl⟩
  obtain ⟨kU, hkU⟩ : ∃ x, (unpQ ML h).isSome = x := ⟨_, rfl⟩
  have hn5 := unpN_le (B := ML) (h := h)
  rw [hnU] at hn5
  have HN5 := Lib.hid hn5
  have HEQ := Lib.hid (And.intro hnU (And.intro (show (unpH ML h).val = .agg #[.int .i64 HU.a, .int .i64 HU.b, .int .i64 HU.c] from by rw [hHU]; rfl) (And.intro hsU hkU)))
  clear hnU hHU hsU hkU hn5
  clear w0 hbi h8 hw hML hcap hblk hA t0 hwa td hl
  unfold H3.val arr3 at HUP HUC ⊢
  go_enter Try.func11, Try.ntmps11
  go_wp2_with fail
  rw [HWA.out]
  apply tail_once
  case h =>
    intro TL
    go_region_held3 (fun wx => wx.cell? ⟨w.heap.size, 0, none⟩ = some (.int .i64 h.a) ∧ wx.cell? ⟨w.heap.size, 1, none⟩ = some (.int .i64 h.b) ∧ wx.cell? ⟨w.heap.size, 2, none⟩ = some (.int .i64 h.c)) (first | exact HQ.out | exact HQ.out.touch (Touch.new _ _) | exact HQ.out.touch ((Touch.new wa.drew _).alloc _) | exact HS5.out | exact HS5.out.touch (Touch.new _ _) | exact HS6.out | exact HS6.out.touch (Touch.new _ _) | exact HS6.out.put (neP HZA.out (Nat.le_refl _)) | exact HS6.out.put (neP HZA.out (Nat.le_succ _)) | exact HS6.out.put (neP HZA.out HZ5.out) | exact (HS6.out.touch (Touch.new _ _)).put (neP HZA.out HZ6.out)) (first
      | (refine step_append_mine rfl (.tmp 17) (.tmp 18) 28 28 rfl 5 j0 (.int .u8 0) 1 1 Try.underlying28 hj hj0 hj1 hj2 rfl _ 0 (u8L []) rfl (by first | exact R1.out.row | exact R2.out.row | exact R3.out.row) _ l0 (u8L ML) rfl (by first | exact HSRC.out _ R1.out.t | exact HSRC.out _ R2.out.t | exact HSRC.out _ R3.out.t) HX1.out.1 HX1.out.2 ?_; intro a5 c5 w5 hown5 ht5 hf5 _; have R5 := (by first | exact Lib.hid (R1.out.app hown5 ht5 hf5).first | exact Lib.hid (R2.out.app hown5 ht5 hf5).first | exact Lib.hid (R3.out.app hown5 ht5 hf5).first : Hid (AppR wa.drew l0 ML a5 c5 w5)); have HS5 := Lib.hid (HQ.out.touch R5.out.t); have HZ5 := Lib.hid (show wa.heap.size ≤ w5.heap.size from R5.out.t.size); (first | have Z5 := (Lib.hid ((z3_then wa.drew).app ht5 (by simp)) : Hid (Arr w5 wa.heap.size ⟨0, 0, 0⟩)) | have Z5 := (Lib.hid ((z3_new1 wa.drew).app ht5 (by simp)) : Hid (Arr w5 (wa.heap.size + 1) ⟨0, 0, 0⟩)) | skip))
      | (go_at_call 22; refine (HUP.out _ _ _ (by first | exact R5.out | exact R5.out.touch (Touch.new _ _))).mono ?_; intro e w6 hp; obtain ⟨ap, bp, cp, rfl, hrp, hbp, tp⟩ := unp_out3 HW.out hp; rw [HEQ.out.1] at hrp hbp; rw [HEQ.out.1, HEQ.out.2.1, HEQ.out.2.2.1, HEQ.out.2.2.2]; have T6 := (by first | exact Lib.hid (R5.out.t.trans tp) | exact Lib.hid ((R5.out.t.trans (Touch.new _ _)).trans tp) : Hid (Touch (fun _ => False) wa.drew w6)); have HS6 := Lib.hid (HQ.out.touch T6.out); have HZ6 := Lib.hid (show wa.heap.size ≤ w6.heap.size from T6.out.size); obtain ⟨d0, d1, d2⟩ := (z3_new w6).cells; have df0 := (z3_new w6).free 0; have df1 := (z3_new w6).free 1; have df2 := (z3_new w6).free 2; (first | have Z6 := Lib.hid (Z5.out.touch tp id) | have Z6 := Lib.hid ((z3_new w5).touch tp id) | skip); (first | (obtain ⟨z0', z1', z2'⟩ := Z6.out.cells; have zf0 := Z6.out.free 0; have zf1 := Z6.out.free 1; have zf2 := Z6.out.free 2) | skip); have HRP := Lib.hid hrp; have HBP := Lib.hid hbp; have TP := Lib.hid tp; clear hp hrp hbp tp))
    · have F := (UnpF.post T6.out HRP.out (g := HU))
      generalize (w6.alloc (.cells #[.int .i64 HU.a, .int .i64 HU.b, .int .i64 HU.c] 31)) = W at F ⊢
      generalize w6.heap.size = p at F ⊢
      generalize wa.heap.size = g
      generalize a5 = Va5
      generalize c5 = Vc5
      generalize ap = Vap at F ⊢
      generalize bp = Vbp at F ⊢
      generalize cp = Vcp at F ⊢
      revert F; revert Vcp; revert Vbp; revert Vap; revert Vc5; revert Va5; revert g; revert p; revert W
      exact TL.out
    · have F := (UnpF.pre (g := HU) (R5.out.t.trans (Touch.new _ _)) TP.out (z3_new w5) HZ5.out HRP.out HBP.out)
      unfold put3 at F
      generalize (((w6.setCell ⟨w5.heap.size, 0, none⟩ (.int .i64 HU.a)).setCell ⟨w5.heap.size, 1, none⟩ (.int .i64 HU.b)).setCell ⟨w5.heap.size, 2, none⟩ (.int .i64 HU.c)) = W at F ⊢
      generalize w5.heap.size = p at F ⊢
      generalize wa.heap.size = g
      generalize a5 = Va5
      generalize c5 = Vc5
      generalize ap = Vap at F ⊢
      generalize bp = Vbp at F ⊢
      generalize cp = Vcp at F ⊢
      revert F; revert Vcp; revert Vbp; revert Vap; revert Vc5; revert Va5; revert g; revert p; revert W
      exact TL.out
    · have F := (UnpF.pre (g := HU) R5.out.t TP.out Z5.out (Nat.le_succ _) HRP.out HBP.out)
      unfold put3 at F
      generalize (((w6.setCell ⟨(wa.heap.size + 1), 0, none⟩ (.int .i64 HU.a)).setCell ⟨(wa.heap.size + 1), 1, none⟩ (.int .i64 HU.b)).setCell ⟨(wa.heap.size + 1), 2, none⟩ (.int .i64 HU.c)) = W at F ⊢
      generalize wa.heap.size + 1 = p at F ⊢
      generalize wa.heap.size = g
      generalize a5 = Va5
      generalize c5 = Vc5
      generalize ap = Vap at F ⊢
      generalize bp = Vbp at F ⊢
      generalize cp = Vcp at F ⊢
      revert F; revert Vcp; revert Vbp; revert Vap; revert Vc5; revert Va5; revert g; revert p; revert W
      exact TL.out
    · have F := (UnpF.pre (g := HU) R5.out.t TP.out Z5.out (Nat.le_refl _) HRP.out HBP.out)
      unfold put3 at F
      generalize (((w6.setCell ⟨wa.heap.size, 0, none⟩ (.int .i64 HU.a)).setCell ⟨wa.heap.size, 1, none⟩ (.int .i64 HU.b)).setCell ⟨wa.heap.size, 2, none⟩ (.int .i64 HU.c)) = W at F ⊢
      generalize wa.heap.size + 1 = g
      generalize wa.heap.size = p at F ⊢
      generalize a5 = Va5
      generalize c5 = Vc5
      generalize ap = Vap at F ⊢
      generalize bp = Vbp at F ⊢
      generalize cp = Vcp at F ⊢
      revert F; revert Vcp; revert Vbp; revert Vap; revert Vc5; revert Va5; revert g; revert p; revert W
      exact TL.out
  case x =>
    intro W p g a5 c5 ap bp cp F
    have T5 := Lib.hid F.t
    obtain ⟨x0, x1, x2⟩ := (HA.out.touch F.t id).cells
    have HP11 := Lib.hid F.arr
    have HRP := Lib.hid F.recs
    clear F hj hj0 hj1 hj2 HX1 HUP HSRC HQ R1 R2 R3 HZA HLN
    go_wp2_with fail
    refine (HUC.out _ T5.out).mono ?_
    intro e w6 hp
    obtain ⟨aq, bq, cq, rfl, hrq, tq⟩ := unp_out HW.out hp
    obtain ⟨e1, e2, e3, e4⟩ := HEQ.out
    rw [e1] at hrq
    rw [e1, e2, e3, e4]
    have tn := Touch.new w6 (.cells #[.int .i64 HU.a, .int .i64 HU.b, .int .i64 HU.c] 31)
    have T7 := Lib.hid (((T0.out.trans T5.out).trans tq).trans tn)
    have HP7 := Lib.hid ((HP11.out.touch tq id).touch tn id)
    have HP15 := Lib.hid (arr_new w6 HU)
    have HRP7 := Lib.hid (recs_touch (recs_touch HRP.out tq) tn)
    have HRQ7 := Lib.hid (recs_touch hrq tn)
    have heq := fun w => eq31 HU.a HU.b HU.c HU.a HU.b HU.c w
    clear hp hrq tq tn e1 e2 e3 e4 HEQ x0 x1 x2
    go_wp2_with fail
    refine (sameS_walk ap bp 0 cp aq bq 0 cq nU (qz ML h) (qz ML h) _ HRP7.out HRQ7.out (agree_refl _ _) HN5.out).mono ?_
    rintro e w8 ⟨rfl, m, rfl⟩
    have tm := Touch.eq_drewN (S := fun _ => False) (w6.alloc (.cells #[.int .i64 HU.a, .int .i64 HU.b, .int .i64 HU.c] 31)) m
    obtain ⟨u0, u1, u2⟩ := (HP7.out.touch tm id).cells
    obtain ⟨v0, v1, v2⟩ := (HP15.out.touch tm id).cells
    have T8 := Lib.hid (T7.out.trans tm)
    clear tm
    go_wp2_with fail
    refine (known_walk _).mono ?_
    rintro e w9 ⟨rfl, t9⟩
    have T9 := Lib.hid (T8.out.trans t9)
    clear t9
    go_wp2_with fail
    try go_ret
    exact ⟨rfl, T9.out.owned⟩
theorem SeqsTakes_law (w : World) (a0 : Option Addr) (b0 o0 l0 c0 : Nat) (z0 : Nat → Int) (w0 : IntsIn .u8 w a0 b0 o0 l0 c0 z0) (x1 y1 z1 : Int) (wx1 : (Lit.int .i64 x1).wf = true) (wy1 : (Lit.int .i64 y1).wf = true) (wz1 : (Lit.int .i64 z1).wf = true) :
    Calls Try.prog 11 #[.slice a0 l0 c0, .agg #[.int .i64 x1, .int .i64 y1, .int .i64 z1]] w fun e w' => e = .returned (.bool true) ∧ Below w.heap.size w w' := by
  by_cases h1 : 1000 < l0
  · have hdl : decide ((1000 : Int) < (l0 : Int)) = true := decide_eq_true (by omega)
    go_enter Try.func11, Try.ntmps11
    go_wp2_with fail
    try go_ret
    exact ⟨rfl, (Touch.new w _).owned⟩
  exact SeqsTakes_in w a0 b0 o0 l0 c0 z0 w0 ⟨x1, y1, z1⟩ ⟨wx1, wy1, wz1⟩ (by omega)
end Go.Proofs.Ythnhacbagmhfoaa
