/- seqs: the laws SeqsNone and SeqsBack. No condition. -/
import Derived.Test.YthnhacbagmhfoaaM7
/- seqs: the law SeqsNone. -/
namespace Go.Proofs.Ythnhacbagmhfoaa
open Go.RowKit Go.WideShapes Go.Shelf Fs
set_option linter.unusedVariables false
set_option linter.unusedSimpArgs false
set_option maxRecDepth 100000

theorem str_two : strL [0, 0] = ⟨#[0, 0]⟩ := by rfl
set_option maxHeartbeats 8000000 in
theorem SeqsNone_in (w : World) (h : H3) (hw : WfH h) (a1 : Option Addr) (b1 o1 l1 c1 : Nat) (z1 : Nat → Int) (w1 : IntsIn .u8 w a1 b1 o1 l1 c1 z1) (hl : l1 ≤ 100) :
    Calls Try.prog 14 #[h.val, .slice a1 l1 c1] w fun e w' => e = .returned (.bool true) ∧ Below w.heap.size w w' := by
  obtain ⟨j0, hj, hj0, hj1, hj2⟩ := info_parts Try.info5c
  have HJ := Lib.hid (And.intro hj (And.intro hj0 (And.intro hj1 hj2)))
  have hdl : decide ((100 : Int) < l1) = false := decide_eq_false (by omega)
  obtain ⟨hbi, h8⟩ := bytes_in w1
  have HBI := Lib.hid hbi
  have H8 := Lib.hid h8
  have HW := Lib.hid hw
  have HA := Lib.hid (arr_new w h)
  have TT := Lib.hid (Touch.new w (.cells #[.int .i64 h.a, .int .i64 h.b, .int .i64 h.c] 31))
  have HP := Lib.hid (fun w => pack_zero w none 0 (fun _ _ => 0) h)
  have HX1 := Lib.hid (max_len (n := 0 + 2) (by omega))
  have HX2 := Lib.hid (max_len (n := 2 + l1) (by omega))
  have HLN := Lib.hid (listB_len l1 z1)
  have HL := Lib.hid hl
  obtain ⟨ML, hML⟩ : ∃ l, listB l1 z1 = l := ⟨_, rfl⟩
  rw [hML] at HBI H8 HLN
  clear w1 hbi h8 hw hML hl hj hj0 hj1 hj2
  unfold H3.val arr3 at HP ⊢
  go_enter Try.func14, Try.ntmps14
  go_wp2_with fail
  refine (HP.out _).mono ?_
  intro e w2 hp
  obtain ⟨a, b, c, rfl, hb, hbo, ht⟩ := pack_out hp
  rw [show packL (fun _ _ => 0) h 0 = [0, 0] from rfl] at hb ⊢
  rw [show packH (fun _ _ => 0) h 0 = h from rfl, show packOk (fun _ _ => 0) 0 = true from rfl]
  have tn := Touch.new w2 (.cells #[.int .i64 h.a, .int .i64 h.b, .int .i64 h.c] 31)
  have HA3 := Lib.hid ((HA.out.touch ht id).touch tn id)
  have HP6 := Lib.hid (arr_new w2 h)
  have TW := Lib.hid (Touch.trans TT.out ht)
  have T3 := Lib.hid ((TT.out.trans ht).trans tn)
  have HB3 := Lib.hid (hb.touch tn)
  have HBI3 := Lib.hid (HBI.out.touch T3.out)
  obtain ⟨w3, hw3⟩ : ∃ w3, w2.alloc (.cells #[.int .i64 h.a, .int .i64 h.b, .int .i64 h.c] 31) = w3 := ⟨_, rfl⟩
  rw [hw3] at HA3 HP6 T3 HB3 HBI3
  obtain ⟨P6, hP6⟩ : ∃ p, w2.heap.size = p := ⟨_, rfl⟩
  rw [hP6] at HP6
  have HW3 := Lib.hid hw3
  have HPE := Lib.hid hP6
  have HZA := Lib.hid (show w.heap.size < w3.heap.size from lt_of_block HA3.out)
  have td := (Touch.refl (fun _ => False) w3).drew
  have HA3d := Lib.hid (HA3.out.touch td id)
  have HP6d := Lib.hid (HP6.out.touch td id)
  have T3d := Lib.hid (T3.out.trans td)
  have HB3d := Lib.hid (HB3.out.touch td)
  have HS1 := Lib.hid (fun W (tw : Touch (fun _ => False) w3.drew W) => (BytesAt.src (HB3d.out.touch tw) c : Src Try.prog 1 28 (.slice a 2 c) 2 (u8L [0, 0]) W))
  have HS2 := Lib.hid (fun W (tw : Touch (fun _ => False) w3.drew W) => (by
    have := ((HBI3.out.touch td).touch tw : BytesAt W a1 b1 o1 ML)
    have hs := BytesAt.src this c1
    rw [HLN.out] at hs; exact hs : Src Try.prog 1 28 (.slice a1 l1 c1) l1 (u8L ML) W))
  have HUP := Lib.hid (fun W n a c (r : AppR w3.drew n ([0, 0] ++ ML) a c W) (hn : 2 + l1 = n) => (show Calls Try.prog 22 #[.slice a n c, h.val] W (UnpPost ([0, 0] ++ ML) h W) from by
    have hlen : ([0, 0] ++ ML).length = n := by rw [List.length_append, HLN.out]; simpa using hn
    obtain ⟨b, hb, hc, hlt⟩ := row_bytes r.row hlen
    subst hlen
    exact punp_walk W a b 0 c ([0, 0] ++ ML) h HW.out hb hc hlt (app_256 (by decide) H8.out) (by have := HL.out; have := HLN.out; rw [List.length_append]; simp; omega)))
  have HQ := Lib.hid (show C3 w3.drew w.heap.size h from HA3d.out.cells)
  have R1 := Lib.hid (start1 w3.drew)
  have R2 := Lib.hid (start2 w3.drew)
  have R3 := Lib.hid (start3 w3.drew)
  have HEQ := Lib.hid (And.intro (none_unp (h := h) (R := ML)).1 (And.intro (show (unpH ([0, 0] ++ ML) h).val = .agg #[.int .i64 h.a, .int .i64 h.b, .int .i64 h.c] from by rw [none_unp.2.1]; rfl) (And.intro (none_unp (h := h) (R := ML)).2.2.1 (none_unp (h := h) (R := ML)).2.2.2)))
  clear hp ht hbo hb tn hw3 hP6 td HA HP HA3 HP6 T3 HB3 HBI3 HBI TT
  unfold H3.val arr3 at HUP
  unfold H3.val arr3
  show _
  simp only [List.length_cons, List.length_nil, Nat.reduceAdd]
  go_wp2_with fail
  rw [HW3.out, HPE.out]
  obtain ⟨hj, hj0, hj1, hj2⟩ := HJ.out
  apply tail_once
  case h =>
    intro TL
    go_region_held3 (fun wx => wx.cell? ⟨w.heap.size, 0, none⟩ = some (.int .i64 h.a) ∧ wx.cell? ⟨w.heap.size, 1, none⟩ = some (.int .i64 h.b) ∧ wx.cell? ⟨w.heap.size, 2, none⟩ = some (.int .i64 h.c)) (first | exact HQ.out | exact HQ.out.touch (Touch.new _ _) | exact HQ.out.touch ((Touch.new w3.drew _).alloc _) | exact HS5.out | exact HS5.out.touch (Touch.new _ _) | exact HS6.out | exact HS6.out.touch (Touch.new _ _) | exact HS7.out | exact HS7.out.touch (Touch.new _ _) | exact HS7.out.put (neP HZA.out (Nat.le_refl _)) | exact HS7.out.put (neP HZA.out (Nat.le_succ _)) | exact HS7.out.put (neP HZA.out HZ5.out) | exact HS7.out.put (neP HZA.out HZ6.out) | exact (HS7.out.touch (Touch.new _ _)).put (neP HZA.out HZ7.out)) (first
      | (refine step_append_mine rfl (.tmp 22) (.tmp 23) 28 28 rfl 5 j0 (.int .u8 0) 1 1 Try.underlying28 hj hj0 hj1 hj2 rfl _ 0 (u8L []) rfl (by first | exact R1.out.row | exact R2.out.row | exact R3.out.row) _ 2 (u8L [0, 0]) rfl (by first | exact HS1.out _ R1.out.t | exact HS1.out _ R2.out.t | exact HS1.out _ R3.out.t) HX1.out.1 HX1.out.2 ?_; intro a5 c5 w5 hown5 ht5 hf5 _; have R5 := (by first | exact Lib.hid (R1.out.app hown5 ht5 hf5).first | exact Lib.hid (R2.out.app hown5 ht5 hf5).first | exact Lib.hid (R3.out.app hown5 ht5 hf5).first : Hid (AppR w3.drew 2 [0, 0] a5 c5 w5)); have HS5 := Lib.hid (HQ.out.touch R5.out.t); have HZ5 := Lib.hid (show w3.heap.size ≤ w5.heap.size from R5.out.t.size); (first | have Z5 := (Lib.hid ((z3_then w3.drew).app ht5 (by simp)) : Hid (Arr w5 w3.heap.size ⟨0, 0, 0⟩)) | have Z5 := (Lib.hid ((z3_new1 w3.drew).app ht5 (by simp)) : Hid (Arr w5 (w3.heap.size + 1) ⟨0, 0, 0⟩)) | skip); rw [Nat.zero_add]; clear hown5 ht5 hf5)
      | (refine step_append_mine rfl (.tmp 24) (.tmp 25) 28 28 rfl 5 j0 (.int .u8 0) 1 1 Try.underlying28 hj hj0 hj1 hj2 rfl _ 2 (u8L [0, 0]) rfl (by first | exact R5.out.row | exact (R5.out.touch (Touch.new _ _)).row) _ l1 (u8L ML) rfl (by first | exact HS2.out _ R5.out.t | exact HS2.out _ (R5.out.t.trans (Touch.new _ _))) HX2.out.1 HX2.out.2 ?_; intro a6 c6 w6 hown6 ht6 hf6 _; have R6 := (by first | exact Lib.hid (R5.out.app hown6 ht6 hf6) | exact Lib.hid ((R5.out.touch (Touch.new _ _)).app hown6 ht6 hf6) : Hid (AppR w3.drew (2 + l1) ([0, 0] ++ ML) a6 c6 w6)); have HS6 := Lib.hid (HQ.out.touch R6.out.t); have HZ6 := Lib.hid (show w3.heap.size ≤ w6.heap.size from R6.out.t.size); (first | have Z6 := Lib.hid (Z5.out.app2 R5.out ht6) | have Z6 := Lib.hid ((z3_new w5).app2 (R5.out.touch (Touch.new _ _)) ht6) | skip); clear hown6 ht6 hf6)
      | (go_at_call 22; refine (HUP.out _ _ _ _ (by first | exact R6.out | exact R6.out.touch (Touch.new _ _)) rfl).mono ?_; intro e w7 hp; obtain ⟨ap, bp, cp, rfl, hrp, hbp, tp⟩ := unp_out3 HW.out hp; rw [HEQ.out.1] at hrp hbp; rw [HEQ.out.1, HEQ.out.2.1, HEQ.out.2.2.1, HEQ.out.2.2.2]; have T7 := (by first | exact Lib.hid (R6.out.t.trans tp) | exact Lib.hid ((R6.out.t.trans (Touch.new _ _)).trans tp) : Hid (Touch (fun _ => False) w3.drew w7)); have HS7 := Lib.hid (HQ.out.touch T7.out); have HZ7 := Lib.hid (show w3.heap.size ≤ w7.heap.size from T7.out.size); obtain ⟨d0, d1, d2⟩ := (z3_new w7).cells; have df0 := (z3_new w7).free 0; have df1 := (z3_new w7).free 1; have df2 := (z3_new w7).free 2; (first | have Z7 := Lib.hid (Z6.out.touch tp id) | have Z7 := Lib.hid ((z3_new w6).touch tp id) | skip); (first | (obtain ⟨z0', z1', z2'⟩ := Z7.out.cells; have zf0 := Z7.out.free 0; have zf1 := Z7.out.free 1; have zf2 := Z7.out.free 2) | skip); have HRP := Lib.hid hrp; have HBP := Lib.hid hbp; have TP := Lib.hid tp; clear hp hrp hbp tp))
    · have F := (UnpF.post T7.out HRP.out (g := h))
      generalize (w7.alloc (.cells #[.int .i64 h.a, .int .i64 h.b, .int .i64 h.c] 31)) = W at F ⊢
      generalize w7.heap.size = p at F ⊢
      generalize w3.heap.size = g
      generalize a5 = Va5
      generalize c5 = Vc5
      generalize a6 = Va6
      generalize c6 = Vc6
      generalize ap = Vap at F ⊢
      generalize bp = Vbp at F ⊢
      generalize cp = Vcp at F ⊢
      revert F; revert Vcp; revert Vbp; revert Vap; revert Vc6; revert Va6; revert Vc5; revert Va5; revert g; revert p; revert W
      exact TL.out
    · have F := (UnpF.pre (g := h) (R6.out.t.trans (Touch.new _ _)) TP.out (z3_new w6) HZ6.out HRP.out HBP.out)
      unfold put3 at F
      generalize (((w7.setCell ⟨w6.heap.size, 0, none⟩ (.int .i64 h.a)).setCell ⟨w6.heap.size, 1, none⟩ (.int .i64 h.b)).setCell ⟨w6.heap.size, 2, none⟩ (.int .i64 h.c)) = W at F ⊢
      generalize w6.heap.size = p at F ⊢
      generalize w3.heap.size = g
      generalize a5 = Va5
      generalize c5 = Vc5
      generalize a6 = Va6
      generalize c6 = Vc6
      generalize ap = Vap at F ⊢
      generalize bp = Vbp at F ⊢
      generalize cp = Vcp at F ⊢
      revert F; revert Vcp; revert Vbp; revert Vap; revert Vc6; revert Va6; revert Vc5; revert Va5; revert g; revert p; revert W
      exact TL.out
    · have F := (UnpF.pre (g := h) R6.out.t TP.out Z6.out HZ5.out HRP.out HBP.out)
      unfold put3 at F
      generalize (((w7.setCell ⟨w5.heap.size, 0, none⟩ (.int .i64 h.a)).setCell ⟨w5.heap.size, 1, none⟩ (.int .i64 h.b)).setCell ⟨w5.heap.size, 2, none⟩ (.int .i64 h.c)) = W at F ⊢
      generalize w5.heap.size = p at F ⊢
      generalize w3.heap.size = g
      generalize a5 = Va5
      generalize c5 = Vc5
      generalize a6 = Va6
      generalize c6 = Vc6
      generalize ap = Vap at F ⊢
      generalize bp = Vbp at F ⊢
      generalize cp = Vcp at F ⊢
      revert F; revert Vcp; revert Vbp; revert Vap; revert Vc6; revert Va6; revert Vc5; revert Va5; revert g; revert p; revert W
      exact TL.out
    · have F := (UnpF.pre (g := h) R6.out.t TP.out Z6.out (Nat.le_succ _) HRP.out HBP.out)
      unfold put3 at F
      generalize (((w7.setCell ⟨(w3.heap.size + 1), 0, none⟩ (.int .i64 h.a)).setCell ⟨(w3.heap.size + 1), 1, none⟩ (.int .i64 h.b)).setCell ⟨(w3.heap.size + 1), 2, none⟩ (.int .i64 h.c)) = W at F ⊢
      generalize w3.heap.size + 1 = p at F ⊢
      generalize w3.heap.size = g
      generalize a5 = Va5
      generalize c5 = Vc5
      generalize a6 = Va6
      generalize c6 = Vc6
      generalize ap = Vap at F ⊢
      generalize bp = Vbp at F ⊢
      generalize cp = Vcp at F ⊢
      revert F; revert Vcp; revert Vbp; revert Vap; revert Vc6; revert Va6; revert Vc5; revert Va5; revert g; revert p; revert W
      exact TL.out
    · have F := (UnpF.pre (g := h) R6.out.t TP.out Z6.out (Nat.le_refl _) HRP.out HBP.out)
      unfold put3 at F
      generalize (((w7.setCell ⟨w3.heap.size, 0, none⟩ (.int .i64 h.a)).setCell ⟨w3.heap.size, 1, none⟩ (.int .i64 h.b)).setCell ⟨w3.heap.size, 2, none⟩ (.int .i64 h.c)) = W at F ⊢
      generalize w3.heap.size + 1 = g
      generalize w3.heap.size = p at F ⊢
      generalize a5 = Va5
      generalize c5 = Vc5
      generalize a6 = Va6
      generalize c6 = Vc6
      generalize ap = Vap at F ⊢
      generalize bp = Vbp at F ⊢
      generalize cp = Vcp at F ⊢
      revert F; revert Vcp; revert Vbp; revert Vap; revert Vc6; revert Va6; revert Vc5; revert Va5; revert g; revert p; revert W
      exact TL.out
  case x =>
    intro W p g a5 c5 a6 c6 ap bp cp F
    have T5 := Lib.hid (T3d.out.trans F.t)
    obtain ⟨x0, x1, x2⟩ := (HA3d.out.touch F.t id).cells
    obtain ⟨y0, y1, y2⟩ := (HP6d.out.touch F.t id).cells
    obtain ⟨v0, v1, v2⟩ := F.arr.cells
    have hcv : (convert 28 9 (.slice a 2 c)).run Try.prog W = .ok (.string ⟨#[0, 0]⟩) W := by
      have := conv_list (n := 2) (HB3d.out.touch F.t) c rfl
      rw [str_two] at this
      exact this
    have heq := fun w => eq31 h.a h.b h.c h.a h.b h.c w
    clear F hj hj0 hj1 hj2 HX1 HX2 HUP HS1 HS2 HQ R1 R2 R3 HZA HLN HEQ HJ
    go_wp2_with fail
    refine (known_walk _).mono ?_
    rintro e w9 ⟨rfl, t9⟩
    have T9 := Lib.hid (T5.out.trans t9)
    clear t9
    go_wp2_with fail
    try go_ret
    exact ⟨rfl, T9.out.owned⟩
theorem SeqsNone_law (w : World) (x0 y0 z0 : Int) (wx0 : (Lit.int .i64 x0).wf = true) (wy0 : (Lit.int .i64 y0).wf = true) (wz0 : (Lit.int .i64 z0).wf = true) (a1 : Option Addr) (b1 o1 l1 c1 : Nat) (z1 : Nat → Int) (w1 : IntsIn .u8 w a1 b1 o1 l1 c1 z1) :
    Calls Try.prog 14 #[.agg #[.int .i64 x0, .int .i64 y0, .int .i64 z0], .slice a1 l1 c1] w fun e w' => e = .returned (.bool true) ∧ Below w.heap.size w w' := by
  by_cases h1 : 100 < l1
  · have hdl : decide ((100 : Int) < (l1 : Int)) = true := decide_eq_true (by omega)
    go_enter Try.func14, Try.ntmps14
    go_wp2_with fail
    try go_ret
    exact ⟨rfl, (Touch.new w _).owned⟩
  exact SeqsNone_in w ⟨x0, y0, z0⟩ ⟨wx0, wy0, wz0⟩ a1 b1 o1 l1 c1 z1 w1 (by omega)
end Go.Proofs.Ythnhacbagmhfoaa

/- seqs: the law SeqsBack. -/
namespace Go.Proofs.Ythnhacbagmhfoaa
open Go.RowKit Go.WideShapes Go.Shelf Fs
set_option linter.unusedVariables false
set_option linter.unusedSimpArgs false
set_option maxRecDepth 100000

structure Tl (X : Prop) : Prop where
  out : X
theorem tail_once2 {G X : Prop} (h : Tl X → G) (x : X) : G := h ⟨x⟩
set_option maxHeartbeats 8000000 in
theorem SeqsBack_in (w : World) (a0 : Option Addr) (b0 o0 l0 c0 : Nat) (z0 : Nat → Nat → Int) (w0 : RecsIn 3 w a0 b0 o0 l0 c0 z0) (h : H3) (hw : WfH h) (a2 : Option Addr) (b2 o2 l2 c2 : Nat) (z2 : Nat → Int) (w2 : IntsIn .u8 w a2 b2 o2 l2 c2 z2) (cut : Int) (hl : l0 ≤ 200) :
    Calls Try.prog 12 #[.slice a0 l0 c0, h.val, .slice a2 l2 c2, .int .i64 cut] w fun e w' => e = .returned (.bool true) ∧ Below w.heap.size w w' := by
  obtain ⟨j0, hj, hj0, hj1, hj2⟩ := info_parts Try.info5c
  have HJ := Lib.hid (And.intro hj (And.intro hj0 (And.intro hj1 hj2)))
  have hdl : decide ((200 : Int) < l0) = false := decide_eq_false (by omega)
  obtain ⟨hbi, h8⟩ := bytes_in w2
  have HBI := Lib.hid hbi
  have H8 := Lib.hid h8
  have HW := Lib.hid hw
  have W0 := Lib.hid w0
  have HL0 := Lib.hid hl
  have HA := Lib.hid (arr_new w h)
  have TT := Lib.hid (Touch.new w (.cells #[.int .i64 h.a, .int .i64 h.b, .int .i64 h.c] 31))
  have HMAY := Lib.hid (fun w h => lawmay_walk a0 b0 o0 c0 l0 z0 w h (Nat.le_trans hl (by decide)))
  have HPK := Lib.hid (fun w w0 => pack_walk w a0 b0 o0 l0 c0 z0 w0 h (Nat.le_trans hl (by decide)))
  have HLN := Lib.hid (listB_len l2 z2)
  obtain ⟨qa, hqa, hqle⟩ := and_mask cut
  obtain ⟨ML, hML⟩ : ∃ l, listB l2 z2 = l := ⟨_, rfl⟩
  rw [hML] at HBI H8 HLN
  obtain ⟨wa, hwa⟩ : ∃ W, w.alloc (.cells #[.int .i64 h.a, .int .i64 h.b, .int .i64 h.c] 31) = W := ⟨_, rfl⟩
  rw [hwa] at HA TT
  have HWA := Lib.hid hwa
  clear w0 w2 hbi h8 hw hML hl hwa hqle hj hj0 hj1 hj2
  unfold H3.val arr3 at HPK ⊢
  go_enter Try.func12, Try.ntmps12
  go_wp2_with fail
  rw [HWA.out]
  refine (HMAY.out _ (recs_touch W0.out TT.out)).mono ?_
  rintro e w1 ⟨rfl, t1⟩
  have T1 := Lib.hid (TT.out.trans t1)
  have HA1 := Lib.hid (HA.out.touch t1 id)
  obtain ⟨y0, y1, y2⟩ := HA1.out.cells
  obtain ⟨AM, hAM⟩ : ∃ x, allM z0 l0 = x := ⟨_, rfl⟩
  rw [hAM]
  have HAM := Lib.hid hAM
  clear t1 hAM
  cases AM with
  | false =>
    go_wp2_with fail
    try go_ret
    exact ⟨rfl, T1.out.owned⟩
  | true =>
    have hpk : packOk z0 l0 = true := by unfold packOk; rw [HAM.out, decide_eq_true (Nat.le_trans HL0.out (by decide))]; rfl
    have HPOK := Lib.hid hpk
    clear hpk
    by_cases hl2 : 50 < l2
    · have hd2 : decide ((50 : Int) < l2) = true := decide_eq_true (by omega)
      clear hl2
      go_wp2_with fail
      try go_ret
      exact ⟨rfl, T1.out.owned⟩
    have hd2 : decide ((50 : Int) < l2) = false := decide_eq_false (by omega)
    have HL2 := Lib.hid (Nat.le_of_not_lt hl2)
    clear hl2
    by_cases k0 : h.a < 1
    · have d0 : decide (h.a < 1) = true := decide_eq_true k0
      go_wp2_with fail
      try go_ret
      exact ⟨rfl, T1.out.owned⟩
    have d0 : decide (h.a < 1) = false := decide_eq_false k0
    by_cases k1 : h.b < 1
    · have d1 : decide (h.b < 1) = true := decide_eq_true k1
      go_wp2_with fail
      try go_ret
      exact ⟨rfl, T1.out.owned⟩
    have d1 : decide (h.b < 1) = false := decide_eq_false k1
    by_cases k2 : h.c < 1
    · have d2 : decide (h.c < 1) = true := decide_eq_true k2
      go_wp2_with fail
      try go_ret
      exact ⟨rfl, T1.out.owned⟩
    have d2 : decide (h.c < 1) = false := decide_eq_false k2
    clear k0 k1 k2
    go_wp2_with fail
    refine (HPK.out _ (recs_touch W0.out T1.out)).mono ?_
    intro e w3 hp
    obtain ⟨a, b, c, rfl, hb, hc, hblk, ht⟩ := pack_out2 hp
    obtain ⟨H2, hH2⟩ : ∃ H2, packH z0 h l0 = H2 := ⟨_, rfl⟩
    have hLe : packL z0 h l0 = packB z0 h l0 := by unfold packL; rw [if_pos HPOK.out]
    have h256 := pack_256 (h := h) HPOK.out
    have hle := pack_le2 (h := h) HPOK.out
    have h2le := (pack_le (h := h) HPOK.out).1
    obtain ⟨u1, u2, u3, u4, u5⟩ := unp_more (h := h) HPOK.out ML
    have hcut := fun k hk => cut_out (h := h) (k := k) HPOK.out hk
    rw [HPOK.out]
    rw [hLe] at hb hc hblk ⊢
    rw [hH2] at u2 ⊢
    obtain ⟨L, hL⟩ : ∃ L, packB z0 h l0 = L := ⟨_, rfl⟩
    rw [hL] at hb hc hblk h256 hle h2le u1 u2 u3 u4 u5 hcut ⊢
    obtain ⟨hb1, hb2, rfl, cur, hcur⟩ := hblk (by omega)
    have tn := Touch.new w3 (.cells #[.int .i64 H2.a, .int .i64 H2.b, .int .i64 H2.c] 31)
    obtain ⟨nl, hnl⟩ : ∃ n, L.length = n := ⟨_, rfl⟩
    rw [hnl] at hc hle h2le u3 hcut ⊢
    have hi : qa % nl < nl := Nat.mod_lt _ (by omega)
    have hmod : (qa : Int).tmod (nl : Int) = ((qa % nl : Nat) : Int) := by rw [Int.tmod_eq_emod_of_nonneg (by omega)]; rfl
    have hmod2 : (qa : Int) % (nl : Int) = ((qa % nl : Nat) : Int) := rfl
    have hnz : ((nl : Int) == 0) = false := by simp; omega
    have hnz2 : ¬ nl = 0 := by omega
    obtain ⟨ix, hix⟩ : ∃ x, qa % nl = x := ⟨_, rfl⟩
    rw [hix] at hi hmod hmod2
    have HIX := Lib.hid hi
    have hi0 : (0 : Int) ≤ (ix : Int) := by omega
    have hic : (ix : Int) ≤ (c : Int) := by omega
    have HMOD := Lib.hid (And.intro hmod (And.intro hmod2 (And.intro hnz2 (And.intro hi0 hic))))
    have HX1 := Lib.hid (max_len (n := 0 + nl) (by omega))
    have HX2 := Lib.hid (max_len (n := nl + l2) (by have := HL2.out; omega))
    have HA3 := Lib.hid ((HA1.out.touch ht id).touch tn id)
    have HP10 := Lib.hid (arr_new w3 H2)
    have T3 := Lib.hid ((T1.out.trans ht).trans tn)
    have HB3 := Lib.hid (hb.touch tn)
    have HBI3 := Lib.hid (HBI.out.touch T3.out)
    have HBL := Lib.hid (Nat.lt_of_lt_of_le hb1 tn.size)
    obtain ⟨w4, hw4⟩ : ∃ W, w3.alloc (.cells #[.int .i64 H2.a, .int .i64 H2.b, .int .i64 H2.c] 31) = W := ⟨_, rfl⟩
    rw [hw4] at HA3 HP10 T3 HB3 HBI3 HBL
    obtain ⟨P10, hP10⟩ : ∃ p, w3.heap.size = p := ⟨_, rfl⟩
    rw [hP10] at HP10
    have HW4 := Lib.hid hw4
    have HPE := Lib.hid hP10
    have HZA := Lib.hid (show w.heap.size < w4.heap.size from lt_of_block HA3.out)
    have td := (Touch.refl (fun _ => False) w4).drew
    have HA4 := Lib.hid (HA3.out.touch td id)
    have HP10d := Lib.hid (HP10.out.touch td id)
    have T4 := Lib.hid (T3.out.trans td)
    have HBd := Lib.hid (HB3.out.touch td)
    have HLL := Lib.hid hnl
    have HS1 := Lib.hid (fun W (tw : Touch (fun _ => False) w4.drew W) => (by
      have hs := BytesAt.src (HBd.out.touch tw) c
      rw [HLL.out] at hs; exact hs : Src Try.prog 1 28 (.slice (some ⟨b, 0, none⟩) nl c) nl (u8L L) W))
    have HS2 := Lib.hid (fun W (tw : Touch (fun _ => False) w4.drew W) => (by
      have := ((HBI3.out.touch td).touch tw : BytesAt W a2 b2 o2 ML)
      have hs := BytesAt.src this c2
      rw [HLN.out] at hs; exact hs : Src Try.prog 1 28 (.slice a2 l2 c2) l2 (u8L ML) W))
    have HUP := Lib.hid (fun W n a c (r : AppR w4.drew n (L ++ ML) a c W) (hn : nl + l2 = n) => (show Calls Try.prog 22 #[.slice a n c, h.val] W (UnpPost (L ++ ML) h W) from by
      have hlen : (L ++ ML).length = n := by rw [List.length_append, HLN.out, hnl]; exact hn
      obtain ⟨b, hb, hc, hlt⟩ := row_bytes r.row hlen
      subst hlen
      exact punp_walk W a b 0 c (L ++ ML) h HW.out hb hc hlt (app_256 h256 H8.out) (by have := HL2.out; have := HLN.out; rw [List.length_append]; omega)))
    have HUK := Lib.hid (fun W (tw : Touch (fun _ => False) w4.drew W) => (show Calls Try.prog 22 #[.slice (some ⟨b, 0, none⟩) ix c, h.val] W (UnpPost (L.take ix) h W) from by
      have hlen : (L.take ix).length = ix := by rw [List.length_take, hnl]; omega
      have := punp_walk W (some ⟨b, 0, none⟩) b 0 c (L.take ix) h HW.out (bytes_head (HBd.out.touch tw)) (by rw [hlen]; omega) (fun _ => Nat.lt_of_lt_of_le HBL.out (Nat.le_trans td.size tw.size)) (fun x hx => h256 x (List.mem_of_mem_take hx)) (by rw [hlen]; omega)
      rwa [hlen] at this))
    have HQ := Lib.hid (show C3 w4.drew w.heap.size h from HA4.out.cells)
    have R1 := Lib.hid (start1 w4.drew)
    have R2 := Lib.hid (start2 w4.drew)
    have R3 := Lib.hid (start3 w4.drew)
    have HEQ := Lib.hid (And.intro u1 (And.intro (show (unpH (L ++ ML) h).val = .agg #[.int .i64 H2.a, .int .i64 H2.b, .int .i64 H2.c] from by rw [u2]; rfl) (And.intro u3 u4)))
    have HAG := Lib.hid u5
    have HCUT := Lib.hid (And.intro (hcut ix hi).1 (And.intro (show (unpH (L.take ix) h).val = .agg #[.int .i64 h.a, .int .i64 h.b, .int .i64 h.c] from by rw [(hcut ix hi).2.1]; rfl) (And.intro (hcut ix hi).2.2.1 (hcut ix hi).2.2.2)))
    clear hp hb hc hblk ht tn hLe h256 hle h2le hH2 hL hnl u1 u2 u3 u4 u5 hcut hcur hb1 hb2 hmod hmod2 hnz2 hi hix hi0 hic hw4 hP10 td HA HPK HMAY HA1 HA3 HP10 T3 HB3 HBI3 HBI TT T1 HWA y0 y1 y2 d0 d1 d2
    unfold H3.val arr3 at HUP HUK
    unfold H3.val arr3
    go_wp2_with fail
    rw [HW4.out, HPE.out]
    obtain ⟨hj, hj0, hj1, hj2⟩ := HJ.out
    apply tail_once2
    case h =>
      intro TL
      go_region_held3 (fun wx => wx.cell? ⟨w.heap.size, 0, none⟩ = some (.int .i64 h.a) ∧ wx.cell? ⟨w.heap.size, 1, none⟩ = some (.int .i64 h.b) ∧ wx.cell? ⟨w.heap.size, 2, none⟩ = some (.int .i64 h.c)) (first | exact HQ.out | exact HQ.out.touch (Touch.new _ _) | exact HQ.out.touch ((Touch.new w4.drew _).alloc _) | exact HS5.out | exact HS5.out.touch (Touch.new _ _) | exact HS6.out | exact HS6.out.touch (Touch.new _ _) | exact HS7.out | exact HS7.out.touch (Touch.new _ _) | exact HS7.out.put (neP HZA.out (Nat.le_refl _)) | exact HS7.out.put (neP HZA.out (Nat.le_succ _)) | exact HS7.out.put (neP HZA.out HZ5.out) | exact HS7.out.put (neP HZA.out HZ6.out) | exact (HS7.out.touch (Touch.new _ _)).put (neP HZA.out HZ7.out)) (first
        | (refine step_append_mine rfl (.tmp 63) (.tmp 64) 28 28 rfl 5 j0 (.int .u8 0) 1 1 Try.underlying28 hj hj0 hj1 hj2 rfl _ 0 (u8L []) rfl (by first | exact R1.out.row | exact R2.out.row | exact R3.out.row) _ nl (u8L L) rfl (by first | exact HS1.out _ R1.out.t | exact HS1.out _ R2.out.t | exact HS1.out _ R3.out.t) HX1.out.1 HX1.out.2 ?_; intro a5 c5 w5 hown5 ht5 hf5 _; have R5 := (by first | exact Lib.hid (R1.out.app hown5 ht5 hf5).first | exact Lib.hid (R2.out.app hown5 ht5 hf5).first | exact Lib.hid (R3.out.app hown5 ht5 hf5).first : Hid (AppR w4.drew nl L a5 c5 w5)); have HS5 := Lib.hid (HQ.out.touch R5.out.t); have HZ5 := Lib.hid (show w4.heap.size ≤ w5.heap.size from R5.out.t.size); (first | have Z5 := (Lib.hid ((z3_then w4.drew).app ht5 (by simp)) : Hid (Arr w5 w4.heap.size ⟨0, 0, 0⟩)) | have Z5 := (Lib.hid ((z3_new1 w4.drew).app ht5 (by simp)) : Hid (Arr w5 (w4.heap.size + 1) ⟨0, 0, 0⟩)) | skip); rw [Nat.zero_add]; clear hown5 ht5 hf5)
        | (refine step_append_mine rfl (.tmp 65) (.tmp 66) 28 28 rfl 5 j0 (.int .u8 0) 1 1 Try.underlying28 hj hj0 hj1 hj2 rfl _ nl (u8L L) rfl (by first | exact R5.out.row | exact (R5.out.touch (Touch.new _ _)).row) _ l2 (u8L ML) rfl (by first | exact HS2.out _ R5.out.t | exact HS2.out _ (R5.out.t.trans (Touch.new _ _))) HX2.out.1 HX2.out.2 ?_; intro a6 c6 w6 hown6 ht6 hf6 _; have R6 := (by first | exact Lib.hid (R5.out.app hown6 ht6 hf6) | exact Lib.hid ((R5.out.touch (Touch.new _ _)).app hown6 ht6 hf6) : Hid (AppR w4.drew (nl + l2) (L ++ ML) a6 c6 w6)); have HS6 := Lib.hid (HQ.out.touch R6.out.t); have HZ6 := Lib.hid (show w4.heap.size ≤ w6.heap.size from R6.out.t.size); (first | have Z6 := Lib.hid (Z5.out.app2 R5.out ht6) | have Z6 := Lib.hid ((z3_new w5).app2 (R5.out.touch (Touch.new _ _)) ht6) | skip); clear hown6 ht6 hf6)
        | (go_at_call 22; refine (HUP.out _ _ _ _ (by first | exact R6.out | exact R6.out.touch (Touch.new _ _)) rfl).mono ?_; intro e w7 hp; obtain ⟨ap, bp, cp, rfl, hrp, hbp, tp⟩ := unp_out3 HW.out hp; rw [HEQ.out.1] at hrp hbp; rw [HEQ.out.1, HEQ.out.2.1, HEQ.out.2.2.1, HEQ.out.2.2.2]; have T7 := (by first | exact Lib.hid (R6.out.t.trans tp) | exact Lib.hid ((R6.out.t.trans (Touch.new _ _)).trans tp) : Hid (Touch (fun _ => False) w4.drew w7)); have HS7 := Lib.hid (HQ.out.touch T7.out); have HZ7 := Lib.hid (show w4.heap.size ≤ w7.heap.size from T7.out.size); obtain ⟨d0, d1, d2⟩ := (z3_new w7).cells; have df0 := (z3_new w7).free 0; have df1 := (z3_new w7).free 1; have df2 := (z3_new w7).free 2; (first | have Z7 := Lib.hid (Z6.out.touch tp id) | have Z7 := Lib.hid ((z3_new w6).touch tp id) | skip); (first | (obtain ⟨z0', z1', z2'⟩ := Z7.out.cells; have zf0 := Z7.out.free 0; have zf1 := Z7.out.free 1; have zf2 := Z7.out.free 2) | skip); have HRP := Lib.hid hrp; have HBP := Lib.hid hbp; have TP := Lib.hid tp; clear hp hrp hbp tp))
      · have F := (UnpF.post T7.out HRP.out (g := H2))
        generalize (w7.alloc (.cells #[.int .i64 H2.a, .int .i64 H2.b, .int .i64 H2.c] 31)) = W at F ⊢
        generalize w7.heap.size = p at F ⊢
        generalize w4.heap.size = g
        generalize a5 = Va5
        generalize c5 = Vc5
        generalize a6 = Va6
        generalize c6 = Vc6
        generalize ap = Vap at F ⊢
        generalize bp = Vbp at F ⊢
        generalize cp = Vcp at F ⊢
        revert F; revert Vcp; revert Vbp; revert Vap; revert Vc6; revert Va6; revert Vc5; revert Va5; revert g; revert p; revert W
        exact TL.out
      · have F := (UnpF.pre (g := H2) (R6.out.t.trans (Touch.new _ _)) TP.out (z3_new w6) HZ6.out HRP.out HBP.out)
        unfold put3 at F
        generalize (((w7.setCell ⟨w6.heap.size, 0, none⟩ (.int .i64 H2.a)).setCell ⟨w6.heap.size, 1, none⟩ (.int .i64 H2.b)).setCell ⟨w6.heap.size, 2, none⟩ (.int .i64 H2.c)) = W at F ⊢
        generalize w6.heap.size = p at F ⊢
        generalize w4.heap.size = g
        generalize a5 = Va5
        generalize c5 = Vc5
        generalize a6 = Va6
        generalize c6 = Vc6
        generalize ap = Vap at F ⊢
        generalize bp = Vbp at F ⊢
        generalize cp = Vcp at F ⊢
        revert F; revert Vcp; revert Vbp; revert Vap; revert Vc6; revert Va6; revert Vc5; revert Va5; revert g; revert p; revert W
        exact TL.out
      · have F := (UnpF.pre (g := H2) R6.out.t TP.out Z6.out HZ5.out HRP.out HBP.out)
        unfold put3 at F
        generalize (((w7.setCell ⟨w5.heap.size, 0, none⟩ (.int .i64 H2.a)).setCell ⟨w5.heap.size, 1, none⟩ (.int .i64 H2.b)).setCell ⟨w5.heap.size, 2, none⟩ (.int .i64 H2.c)) = W at F ⊢
        generalize w5.heap.size = p at F ⊢
        generalize w4.heap.size = g
        generalize a5 = Va5
        generalize c5 = Vc5
        generalize a6 = Va6
        generalize c6 = Vc6
        generalize ap = Vap at F ⊢
        generalize bp = Vbp at F ⊢
        generalize cp = Vcp at F ⊢
        revert F; revert Vcp; revert Vbp; revert Vap; revert Vc6; revert Va6; revert Vc5; revert Va5; revert g; revert p; revert W
        exact TL.out
      · have F := (UnpF.pre (g := H2) R6.out.t TP.out Z6.out (Nat.le_succ _) HRP.out HBP.out)
        unfold put3 at F
        generalize (((w7.setCell ⟨(w4.heap.size + 1), 0, none⟩ (.int .i64 H2.a)).setCell ⟨(w4.heap.size + 1), 1, none⟩ (.int .i64 H2.b)).setCell ⟨(w4.heap.size + 1), 2, none⟩ (.int .i64 H2.c)) = W at F ⊢
        generalize w4.heap.size + 1 = p at F ⊢
        generalize w4.heap.size = g
        generalize a5 = Va5
        generalize c5 = Vc5
        generalize a6 = Va6
        generalize c6 = Vc6
        generalize ap = Vap at F ⊢
        generalize bp = Vbp at F ⊢
        generalize cp = Vcp at F ⊢
        revert F; revert Vcp; revert Vbp; revert Vap; revert Vc6; revert Va6; revert Vc5; revert Va5; revert g; revert p; revert W
        exact TL.out
      · have F := (UnpF.pre (g := H2) R6.out.t TP.out Z6.out (Nat.le_refl _) HRP.out HBP.out)
        unfold put3 at F
        generalize (((w7.setCell ⟨w4.heap.size, 0, none⟩ (.int .i64 H2.a)).setCell ⟨w4.heap.size, 1, none⟩ (.int .i64 H2.b)).setCell ⟨w4.heap.size, 2, none⟩ (.int .i64 H2.c)) = W at F ⊢
        generalize w4.heap.size + 1 = g
        generalize w4.heap.size = p at F ⊢
        generalize a5 = Va5
        generalize c5 = Vc5
        generalize a6 = Va6
        generalize c6 = Vc6
        generalize ap = Vap at F ⊢
        generalize bp = Vbp at F ⊢
        generalize cp = Vcp at F ⊢
        revert F; revert Vcp; revert Vbp; revert Vap; revert Vc6; revert Va6; revert Vc5; revert Va5; revert g; revert p; revert W
        exact TL.out
    case x =>
      intro W p g a5 c5 a6 c6 ap bp cp F
      have HA5 := Lib.hid (HA4.out.touch F.t id)
      have HP10W := Lib.hid (HP10d.out.touch F.t id)
      have HP13 := Lib.hid F.arr
      have HRP := Lib.hid F.recs
      have HZW := Lib.hid (show w.heap.size < W.heap.size from lt_of_block HA5.out)
      have tdW := (Touch.refl (fun _ => False) W).drew
      have HQW := Lib.hid (show C3 W.drew w.heap.size h from (HA5.out.touch tdW id).cells)
      have TWd := Lib.hid (F.t.trans tdW)
      have TDW := Lib.hid tdW
      clear F tdW hj hj0 hj1 hj2 HX1 HX2 HUP HS1 HS2 HQ R1 R2 R3 HZA HJ HBd HBL HLL HEQ HW4 HPE H8 HLN HL2 HAM
      obtain ⟨hmod, hmod2, hnz2, hi0, hic⟩ := HMOD.out
      go_wp2_with fail
      apply tail_once2
      case h =>
        intro TL2
        go_region_held3 (fun wx => wx.cell? ⟨w.heap.size, 0, none⟩ = some (.int .i64 h.a) ∧ wx.cell? ⟨w.heap.size, 1, none⟩ = some (.int .i64 h.b) ∧ wx.cell? ⟨w.heap.size, 2, none⟩ = some (.int .i64 h.c)) (first | exact HQW.out | exact HQW.out.touch (Touch.new _ _) | exact HS8.out | exact HS8.out.touch (Touch.new _ _) | exact HS8.out.put (neP HZW.out (Nat.le_refl _)) | exact (HS8.out.touch (Touch.new _ _)).put (neP HZW.out HZ8.out)) (first
          | (go_at_call 22; refine (HUK.out _ (by first | exact TWd.out | exact TWd.out.trans (Touch.new _ _))).mono ?_; intro e w8 hp; obtain ⟨aq, bq, cq, rfl, hrq, hbq, tq⟩ := unp_out3 HW.out hp; rw [HCUT.out.1] at hrq hbq; rw [HCUT.out.1, HCUT.out.2.1, HCUT.out.2.2.1, HCUT.out.2.2.2]; have T8 := (by first | exact Lib.hid tq | exact Lib.hid ((Touch.new _ _).trans tq) : Hid (Touch (fun _ => False) W.drew w8)); have HS8 := Lib.hid (HQW.out.touch T8.out); have HZ8 := Lib.hid (show W.heap.size ≤ w8.heap.size from T8.out.size); obtain ⟨d0, d1, d2⟩ := (z3_new w8).cells; have df0 := (z3_new w8).free 0; have df1 := (z3_new w8).free 1; have df2 := (z3_new w8).free 2; (first | have Z8 := (Lib.hid ((z3_new W.drew).touch tq id) : Hid (Arr w8 W.heap.size ⟨0, 0, 0⟩)) | skip); (first | (obtain ⟨z0', z1', z2'⟩ := Z8.out.cells; have zf0 := Z8.out.free 0; have zf1 := Z8.out.free 1; have zf2 := Z8.out.free 2) | skip); have HRQ := Lib.hid hrq; have HBQ := Lib.hid hbq; have TQ := Lib.hid tq; clear hp hrq hbq tq))
        · have F := (UnpF.post T8.out HRQ.out (g := h)).t
          generalize (w8.alloc (.cells #[.int .i64 h.a, .int .i64 h.b, .int .i64 h.c] 31)) = W2 at F ⊢
          generalize w8.heap.size = p2
          generalize aq = Vaq
          generalize cq = Vcq
          revert F; revert Vcq; revert Vaq; revert p2; revert W2
          exact TL2.out
        · have F := (UnpF.pre (g := h) (Touch.new W.drew _) TQ.out (show Arr (W.drew.alloc (.cells #[.int .i64 0, .int .i64 0, .int .i64 0] 31)) W.heap.size ⟨0, 0, 0⟩ from z3_new W.drew) (Nat.le_refl _) HRQ.out HBQ.out).t
          unfold put3 at F
          generalize ((((w8.setCell ⟨W.heap.size, 0, none⟩ (.int .i64 h.a)).setCell ⟨W.heap.size, 1, none⟩ (.int .i64 h.b)).setCell ⟨W.heap.size, 2, none⟩ (.int .i64 h.c))) = W2 at F ⊢
          generalize W.heap.size = p2
          generalize aq = Vaq
          generalize cq = Vcq
          revert F; revert Vcq; revert Vaq; revert p2; revert W2
          exact TL2.out
      case x =>
        intro W2 p2 aq cq F2
        have T9 := Lib.hid (((T4.out.trans TWd.out)).trans F2)
        have HP10V := Lib.hid ((HP10W.out.touch TDW.out id).touch F2 id)
        have HP13V := Lib.hid ((HP13.out.touch TDW.out id).touch F2 id)
        have HRPV := Lib.hid (recs_touch (recs_touch HRP.out TDW.out) F2)
        have HR0V := Lib.hid (recs_touch W0.out T9.out)
        have heq := fun w => eq31 H2.a H2.b H2.c H2.a H2.b H2.c w
        clear F2 hmod hmod2 hnz2 hi0 hic HMOD HUK HQW HCUT HIX
        go_wp2_with fail
        refine (sameS_walk ap bp 0 cp a0 b0 o0 c0 l0 (qz (L ++ ML) h) z0 _ HRPV.out HR0V.out HAG.out (Nat.le_trans HL0.out (by decide))).mono ?_
        rintro e w10 ⟨rfl, m, rfl⟩
        have tm := Touch.eq_drewN (S := fun _ => False) W2 m
        obtain ⟨u0, u1, u2⟩ := (HP10V.out.touch tm id).cells
        obtain ⟨v0, v1, v2⟩ := (HP13V.out.touch tm id).cells
        have T10 := Lib.hid (T9.out.trans tm)
        clear tm
        go_wp2_with fail
        refine (known_walk _).mono ?_
        rintro e w11 ⟨rfl, t11⟩
        have T11 := Lib.hid (T10.out.trans t11)
        clear t11
        go_wp2_with fail
        try go_ret
        exact ⟨rfl, T11.out.owned⟩
theorem SeqsBack_law (w : World) (a0 : Option Addr) (b0 o0 l0 c0 : Nat) (z0 : Nat → Nat → Int) (w0 : RecsIn 3 w a0 b0 o0 l0 c0 z0) (x1 y1 z1 : Int) (wx1 : (Lit.int .i64 x1).wf = true) (wy1 : (Lit.int .i64 y1).wf = true) (wz1 : (Lit.int .i64 z1).wf = true) (a2 : Option Addr) (b2 o2 l2 c2 : Nat) (z2 : Nat → Int) (w2 : IntsIn .u8 w a2 b2 o2 l2 c2 z2) (a3 : Int) (w3 : (Lit.int .i64 a3).wf = true) :
    Calls Try.prog 12 #[.slice a0 l0 c0, .agg #[.int .i64 x1, .int .i64 y1, .int .i64 z1], .slice a2 l2 c2, .int .i64 a3] w fun e w' => e = .returned (.bool true) ∧ Below w.heap.size w w' := by
  by_cases h1 : 200 < l0
  · have hdl : decide ((200 : Int) < (l0 : Int)) = true := decide_eq_true (by omega)
    go_enter Try.func12, Try.ntmps12
    go_wp2_with fail
    try go_ret
    exact ⟨rfl, (Touch.new w _).owned⟩
  exact SeqsBack_in w a0 b0 o0 l0 c0 z0 w0 ⟨x1, y1, z1⟩ ⟨wx1, wy1, wz1⟩ a2 b2 o2 l2 c2 z2 w2 a3 (by omega)
end Go.Proofs.Ythnhacbagmhfoaa
