/- fse: the law FseTurned. -/
import Derived.Test.YtaacphmbkieacaaGaA
namespace Go.Proofs.Ytaacphmbkieacaa
open Go.RowKit Go.WideShapes Fs
set_option linter.unusedVariables false
set_option linter.unusedSimpArgs false
set_option maxRecDepth 100000

theorem and_15 (n : Int) : ∃ q : Nat, bits BinOp.and IntKind.i64 n 15 = q ∧ q < 16 := by
  have h1 : (BitVec.ofInt 64 15).toNat = 2 ^ 4 - 1 := by decide
  have key : (BitVec.ofInt 64 n &&& BitVec.ofInt 64 15).toNat = (n % ((2 ^ 64 : Nat) : Int)).toNat % 2 ^ 4 := by
    rw [BitVec.toNat_and, BitVec.toNat_ofInt, h1, Nat.and_two_pow_sub_one_eq_mod]
  refine ⟨(n % ((2 ^ 64 : Nat) : Int)).toNat % 2 ^ 4, ?_, Nat.mod_lt _ (by decide)⟩
  show IntKind.i64.wrap ((BitVec.ofInt 64 n &&& BitVec.ofInt 64 15).toNat : Nat) = _
  rw [key, IntKind.wrap_i64]
  omega
theorem and_65535 (n : Int) : ∃ q : Nat, bits BinOp.and IntKind.i64 n 65535 = q ∧ q < 65536 := by
  have h1 : (BitVec.ofInt 64 65535).toNat = 2 ^ 16 - 1 := by decide
  have key : (BitVec.ofInt 64 n &&& BitVec.ofInt 64 65535).toNat = (n % ((2 ^ 64 : Nat) : Int)).toNat % 2 ^ 16 := by
    rw [BitVec.toNat_and, BitVec.toNat_ofInt, h1, Nat.and_two_pow_sub_one_eq_mod]
  refine ⟨(n % ((2 ^ 64 : Nat) : Int)).toNat % 2 ^ 16, ?_, Nat.mod_lt _ (by decide)⟩
  show IntKind.i64.wrap ((BitVec.ofInt 64 n &&& BitVec.ofInt 64 65535).toNat : Nat) = _
  rw [key, IntKind.wrap_i64]
  omega
theorem make16 (w : World) : (Instr.makeSlice 22 (.int .i64 16) (.int .i64 16)).run Try.prog w = .ok (.slice (some ⟨w.heap.size, 0, none⟩) 16 16) (w.alloc (.cells (tabI 16 (fun _ => 0)) 3)) := by
  have := make_ints 16 (by omega) w
  simpa using this
theorem tab_rowAt5 {w : World} {g n : Nat} {F : Nat → Value} (h : w.heap[g]? = some (.cells (tab n F) 5 (0, 0))) : RowAt w g 5 n F :=
  ⟨_, h, fun i hi => by simp [tab, hi]⟩
theorem app_300 {k nn : Nat} (hk : k < nn) (hnn : nn ≤ 300) : k + 1 ≤ maxLen ∧ (k + 1) * 8 ≤ 140737488355328 := by unfold maxLen; omega
theorem cnt_small {y : Nat → Int} {k s nn : Nat} (hk : k < nn) (hnn : nn ≤ 300) : (cntZ y k s).toNat ≤ 100000 := by
  have := cntZ_bd y s k; omega
/-- One more appended behind the counts. -/
theorem turn_after {w w1 w6 : World} {G k q : Nat} {y : Nat → Int} {vo : Value} {F : Nat → Value} {m : Nat} {a6 : Option Addr} {c6 : Nat} (hG : w.heap.size ≤ G) (hG1 : G < w1.heap.size) (hrow : w1.ownsRow 0 3 1 vo k (cellsZ .i64 y k)) (hown : OwnB (G + 1) vo) (hc : RowAt w1 G 3 m F) (t1 : Touch (fun _ => False) w w1) (hq : y k = q)
    (hown6 : w6.ownsRow 0 3 1 (.slice a6 (k + 1) c6) (k + 1) (cellsZ .i64 y k ++ [.int .i64 q])) (ht6 : Touch (fun k => vo.ownBlock = some k) (w1.alloc (.cells #[.int .i64 q] 3)) w6) (hf6 : Fresh (w1.alloc (.cells #[.int .i64 q] 3)).heap.size vo (.slice a6 (k + 1) c6)) (u : Value) (s : Nat) :
    RowAt w6 G 3 m F ∧ (w6.setCell ⟨G, s, none⟩ u).ownsRow 0 3 1 (.slice a6 (k + 1) c6) (k + 1) (cellsZ .i64 y (k + 1)) ∧ OwnB (G + 1) (.slice a6 (k + 1) c6) ∧ Touch (fun _ => False) w w6 := by
  have tn := Touch.new w1 (.cells #[.int .i64 q] 3)
  have o6 := hown.fresh hf6 (Nat.le_trans hG1 tn.size)
  refine ⟨RowAt.touch (RowAt.touch hc tn id) ht6 (fun e => by have := hown G e; omega), ?_, o6, own_app (t1.trans tn) (hown.mono (by omega)) ht6⟩
  have hr : w6.ownsRow 0 3 1 (.slice a6 (k + 1) c6) (k + 1) (cellsZ .i64 y (k + 1)) := by rw [cellsZ_succ, hq]; exact hown6
  exact ((Touch.refl (· = G) w6).setCell (p := ⟨G, s, none⟩) (fun _ => rfl) u).row hr (fun k hk e => by subst e; have := o6 k hk; omega)

set_option maxHeartbeats 4000000 in
theorem FseTurned_in (w : World) (a0 : Option Addr) (b0 o0 l0 c0 : Nat) (z0 : Nat → Int) (w0 : IntsIn .i64 w a0 b0 o0 l0 c0 z0) (hl1 : 1 ≤ l0) (hl : l0 ≤ 300) (a1 : Int) (ch : Nat) (hch : ch < 256) :
    Calls Try.prog 11 #[.slice a0 l0 c0, .int .i64 a1, .int .u8 ch] w fun e w' => e = .returned (.bool true) ∧ Below w.heap.size w w' := by
  have q0 : decide ((l0 : Int) < 1) = false := by simp; omega
  have q1 : decide ((300 : Int) < (l0 : Int)) = false := by simp; omega
  have W0 := Lib.hid (ints_of w0)
  have hmk := fun w => make16 w
  have hat := w0.at_ (by omega)
  clear w0
  subst hat
  obtain ⟨q2, hq2, _⟩ := and_65535 a1
  obtain ⟨y, hy⟩ : ∃ y : Nat → Int, ∀ i, y i = bits BinOp.and IntKind.i64 (z0 i) 15 := ⟨_, fun i => rfl⟩
  have hyq : ∀ i, ∃ q : Nat, y i = q ∧ q < 16 := fun i => by rw [hy]; exact and_15 _
  have hok := cnt_ok (y := y) (n := l0) (L := 6) (m := 16) (by omega) (by omega) hl1 (by omega) (by omega) (fun i _ => by obtain ⟨q, h1, h2⟩ := hyq i; omega)
  have hiso := (norm_spec _ _ _ hok).2.2.2
  obtain ⟨t, l, he, ht2, hl9, _⟩ := back_all (y := y) (ns := l0) hok (fun i hi => by obtain ⟨q, h1, h2⟩ := hyq i; exact ⟨q, h1, h2, cntZ_pos y q l0 i hi h1⟩)
  have hlen := bytes_len (l := l) ht2 (by omega)
  have hrenc := fun w b a2 b2 c2 h h2 => renc_yes (some ⟨b, 0, none⟩) a2 b 0 16 16 6 b2 0 l0 c2 (normZ (cntZ y l0) 16 6) y w h h2 (by omega) hiso
  rw [he] at hrenc
  obtain ⟨l3, hl3⟩ : ∃ l3, putL (t : Int) ((6 : Nat) : Int) l = l3 := ⟨_, rfl⟩
  rw [hl3] at hlen
  obtain ⟨K, hK⟩ : ∃ K, l3.length / 8 + 1 = K := ⟨_, rfl⟩
  have hK1 : K ≤ 100000 := by omega
  have hK0 : 0 < K := by omega
  obtain ⟨ix, hix⟩ : ∃ ix, q2 % K = ix := ⟨_, rfl⟩
  have hixK : ix < K := by rw [← hix]; exact Nat.mod_lt _ hK0
  have hixI : (q2 : Int) % (K : Int) = (ix : Int) := by rw [← hix]; simp
  obtain ⟨R, hd, hr, hol⟩ := dec_both 16 6 K (normZ (cntZ y l0) 16 6) (fun i => if i = ix then ch else byteAt (l3 ++ [true]) i) l0 hiso hK1 (by omega)
  have hrnorm := fun w b h => rnorm_yes (some ⟨b, 0, none⟩) b 0 16 16 6 (cntZ y l0) w h hok
  obtain ⟨zn, hzn⟩ : ∃ zn, normZ (cntZ y l0) 16 6 = zn := ⟨_, rfl⟩
  rw [hzn] at hrenc hrnorm hd hr
  have HR := Lib.hid hr
  have HD := Lib.hid hd
  have HOL := Lib.hid hol
  have HRN := Lib.hid hrnorm
  have HRE := Lib.hid hrenc
  have HL3 := Lib.hid hl3
  have HK := Lib.hid hK
  have HQ := Lib.hid hyq
  have HY := Lib.hid hy
  have HL300 := Lib.hid hl
  have HIXI := Lib.hid hixI
  have HQ2 := Lib.hid hq2
  have HIXK := Lib.hid hixK
  have HKp := Lib.hid hK0
  have HCH := Lib.hid hch
  have TT := Lib.hid (Touch.new w (.cells (tabI 16 (fun _ => 0)) 3))
  have HR0 := Lib.hid (tab_rowAt (heap_alloc_new w (.cells (tabI 16 (fun _ => 0)) 3)))
  have hGs : w.heap.size < (w.alloc (.cells (tabI 16 (fun _ => 0)) 3)).heap.size := by simp
  obtain ⟨i0, hi, hz0, hz1, hz2⟩ := info_parts Try.info3
  clear hr hd hol hrnorm hrenc hl3 hK hyq hy hixI hq2 hixK hK0 hK1 hix hok hiso he ht2 hl9 hlen hzn hch
  go_enter Try.func11, Try.ntmps11
  go_wp2_with fail
  obtain ⟨wa, hwa⟩ : ∃ wa, w.alloc (.cells (tabI 16 (fun _ => 0)) 3) = wa := ⟨_, rfl⟩
  rw [hwa] at HR0 TT hGs ⊢
  obtain ⟨G, hG⟩ : ∃ G, w.heap.size = G := ⟨_, rfl⟩
  rw [hG] at HR0 hGs ⊢
  have hGw : w.heap.size ≤ G := by omega
  have HGW := Lib.hid hGw
  have HGS := Lib.hid hGs
  clear hG hwa hmk q0 q1 hGw hGs hl1 hl
  go_loopw [8, 9] (fun out_ i wr => ∃ (k : Nat) (vo : Value), k ≤ l0 ∧ i = .int .i64 k ∧ out_ = vo ∧ wr.ownsRow 0 3 1 vo k (cellsZ .i64 y k) ∧ OwnB (G + 1) vo ∧ RowAt wr G 3 16 (fun j => .int .i64 (cntZ y k j)) ∧ G < wr.heap.size ∧ Touch (fun _ => False) w wr) (fun _ i _ => l0 - (intOf i).toNat)
  case atStart => exact ⟨0, _, by omega, rfl, rfl, World.ownsRow_nil _ _ _ _, OwnB.nil _, HR0.out, HGS.out, TT.out⟩
  case round =>
    obtain ⟨k, vo, hk, rfl, rfl, hrow, hown, hcnt, hGr, ht⟩ := hrel
    have HRow := Lib.hid hrow
    have HCnt := Lib.hid hcnt
    have HGR := Lib.hid hGr
    clear hrow hcnt HR0 TT hGr
    by_cases hlt : k < l0
    · have e1 := ht.cell (W0.out.cell k hlt) id
      obtain ⟨q, hq, hq16⟩ := HQ.out k
      have hqb := HY.out k
      rw [hq] at hqb
      obtain ⟨x, hx⟩ : ∃ x, z0 k = x := ⟨_, rfl⟩
      rw [hx] at e1 hqb
      have fqb : bits BinOp.and IntKind.i64 x 15 = (q : Int) := hqb.symm
      have c1 := RowAt.get HCnt.out hq16
      have hcb := cntZ_bd y q k
      have hcs := cnt_small (y := y) (s := q) hlt HL300.out
      obtain ⟨cc, hcc⟩ : ∃ c : Nat, cntZ y k q = c := ⟨(cntZ y k q).toNat, by omega⟩
      rw [hcc] at hcs
      simp only [hcc] at c1
      have fc := wrap_suc cc hcs
      have hset2 : ∀ i, i < 16 → (if i = q then Value.int .i64 ((cc : Int) + 1) else .int .i64 (cntZ y k i)) = .int .i64 (cntZ y (k + 1) i) := fun i hi => by
        simp only [cntZ]
        rw [hq]
        by_cases e : i = q
        · subst e; rw [if_pos rfl, if_pos rfl, hcc]
        · rw [if_neg e, if_neg (by omega)]
      have HS2 := Lib.hid hset2
      have HAP := Lib.hid (app_300 hlt HL300.out)
      have HQK := Lib.hid hq
      have HX := Lib.hid hx
      have HCC := Lib.hid hcc
      have hm : l0 - (intOf (Value.int .i64 ((k : Int) + 1))).toNat < l0 - (intOf (Value.int .i64 (k : Int))).toNat := meas_u hlt
      have HM := Lib.hid hm
      have fu1 := wrap_suc k (k_small hlt HL300.out)
      clear hqb hx hcb hcc hset2 hm hq hcs
      go_wp2_with (refine wpList_append_mine rfl (.tmp 33) (.tmp 39) 22 22 rfl 3 i0 (.int .i64 0) 1 8 Try.underlying22 hi hz0 hz1 hz2 rfl u8 _ _ rfl ((Touch.new wr (.cells #[.int .i64 q] 3)).row HRow.out (fun _ _ => id)) (.slice (some ⟨wr.heap.size, 0, none⟩) 1 1) 1 [.int .i64 q] rfl (src_one wr Try.underlying22 _ rfl _ rfl) HAP.out.1 HAP.out.2 ?_; intro a6 c6 w6 hown6 ht6 hf6 _; have HA := Lib.hid (turn_after HGW.out HGR.out HRow.out hown HCnt.out ht HQK.out hown6 ht6 hf6 (.int .i64 ((cc : Int) + 1)) q); have e6 := HA.out.2.2.2.cell (W0.out.cell k hlt) id; rw [HX.out] at e6; have c6' := RowAt.get HA.out.1 hq16; simp only [HCC.out] at c6'; have f6' := RowAt.free HA.out.1 q)
      clear hown6 ht6 hf6 e6 c6' f6'
      go_roundw
      case rel =>
        obtain ⟨r1, r2, r3, r4⟩ := HA.out
        have r5 := (RowAt.set r1 q (.int .i64 ((cc : Int) + 1))).congr (G := fun j => .int .i64 (cntZ y (k + 1) j)) HS2.out
        exact ⟨k + 1, _, hlt, by first | rfl | (rw [fu1]; go_num) | go_num, rfl, r2, r3, r5, RowAt.lt r5, r4.setCell (fun h => absurd h (Nat.not_lt.2 HGW.out)) _⟩
      case measure => first | exact HM.out | (rw [fu1]; exact HM.out)
    · obtain rfl : k = l0 := by omega
      obtain ⟨xa, xb, xc, hxv, hx⟩ := ints_row HRow.out
      subst hxv
      have HX := Lib.hid hx
      have HT := Lib.hid ht
      have fqb2 := HQ2.out
      have fixI := HIXI.out
      have hixK := HIXK.out
      have hKp := HKp.out
      clear hx ht hlt hk
      go_wp2_with fail
      refine (HRN.out _ _ (RowAt.ints HCnt.out)).mono ?_
      rintro e w3 ⟨rfl, hh3, t3⟩
      have T3 := Lib.hid (HT.out.trans t3)
      have HI3 := Lib.hid (tab_ints hh3)
      have HX3 := Lib.hid (HX.out.touch t3)
      obtain ⟨G3, hG3⟩ : ∃ g, wr.heap.size = g := ⟨_, rfl⟩
      rw [hG3] at HI3 ⊢
      have HG3 := Lib.hid (ints_lt HI3.out (by omega))
      clear t3 hh3 hG3
      go_wp2_with fail
      refine (HRE.out _ _ xa xb xc HI3.out HX3.out).mono ?_
      rintro e w4 ⟨⟨g4, rfl, hg4, hh4⟩, t4⟩
      rw [HL3.out, HK.out] at hh4 ⊢
      have T4 := Lib.hid (T3.out.trans t4)
      have HI4 := Lib.hid (HI3.out.touch t4)
      have rb := tab_rowAt5 hh4
      have f4 := RowAt.free rb ix
      have c4 := RowAt.get rb hixK
      have hne : ¬ G3 = g4 := by have := HG3.out; omega
      have ts : Touch (· = g4) w4 (w4.setCell ⟨g4, ix, none⟩ (.int .u8 ch)) := (Touch.refl (· = g4) w4).setCell (p := ⟨g4, ix, none⟩) (fun _ => rfl) _
      have HI5 := Lib.hid (show Ints .i64 (w4.setCell ⟨g4, ix, none⟩ (.int .u8 ch)) (some ⟨G3, 0, none⟩) G3 0 16 zn from ⟨HI4.out.at_, fun i hi => ts.cell (HI4.out.cell i hi) hne⟩)
      have rb2 := RowAt.set rb ix (.int .u8 ch)
      have HS5 := Lib.hid (show Seen (w4.setCell ⟨g4, ix, none⟩ (.int .u8 ch)) (some ⟨g4, 0, none⟩) g4 0 K (fun i => if i = ix then ch else byteAt (l3 ++ [true]) i) from ⟨fun _ => rfl, fun i hi => by
        rw [Nat.zero_add, RowAt.get rb2 hi]
        by_cases e : i = ix
        · rw [if_pos e, if_pos e]
        · rw [if_neg e, if_neg e]; rfl, fun i => by
        show (if i = ix then ch else byteAt (l3 ++ [true]) i) < 256
        split
        · exact HCH.out
        · exact byteAt_lt _ _⟩)
      have hwg : w.heap.size ≤ g4 := Nat.le_trans T3.out.size hg4
      have T5 := Lib.hid (T4.out.setCell (p := ⟨g4, ix, none⟩) (fun h => absurd h (Nat.not_lt.2 hwg)) (.int .u8 ch))
      have HL5 := Lib.hid (show 0 < K → g4 < (w4.setCell ⟨g4, ix, none⟩ (.int .u8 ch)).heap.size from fun _ => RowAt.lt rb2)
      clear t4 hh4 rb rb2 ts hne hwg hg4
      cases R with
      | none =>
        go_wp2_with fail
        refine (HD.out _ _ 0 _ _ _ 0 _ _ HI5.out HS5.out).mono ?_
        rintro e w6 ⟨rfl, t6⟩
        have T6 := Lib.hid (T5.out.trans t6)
        have HI6 := Lib.hid (HI5.out.touch t6)
        have HS6 := Lib.hid (HS5.out.touch t6 id)
        have HL6 := Lib.hid (fun h => Nat.lt_of_lt_of_le (HL5.out h) t6.size)
        clear t6
        go_wp2_with fail
        refine (HR.out _ _ 0 _ _ _ 0 _ _ HI6.out HS6.out HL6.out).mono ?_
        rintro e w7 ⟨rfl, t7⟩
        have T7 := Lib.hid (T6.out.trans t7)
        clear t7
        go_wp2_with fail
        refine (same_ints none 0 0 0 none 0 0 0 0 (fun _ => 0) _ ⟨fun h => by omega, fun i hi => by omega⟩ ⟨fun h => by omega, fun i hi => by omega⟩ (by omega)).mono ?_
        rintro e w8 ⟨rfl, m, rfl⟩
        go_wp2_with fail
        refine (known_walk _).mono ?_
        rintro e w9 ⟨rfl, t9⟩
        go_wp2_with fail
        go_ret
        exact ⟨rfl, ((T7.out.drewN m).trans t9).owned⟩
      | some o =>
        go_wp2_with fail
        refine (HD.out _ _ 0 _ _ _ 0 _ _ HI5.out HS5.out).mono ?_
        rintro e w6 ⟨⟨ra, rb, rc, rfl, hri⟩, t6⟩
        have T6 := Lib.hid (T5.out.trans t6)
        have HI6 := Lib.hid (HI5.out.touch t6)
        have HS6 := Lib.hid (HS5.out.touch t6 id)
        have HL6 := Lib.hid (fun h => Nat.lt_of_lt_of_le (HL5.out h) t6.size)
        have HRI := Lib.hid hri
        clear t6 hri
        go_wp2_with fail
        refine (HR.out _ _ 0 _ _ _ 0 _ _ HI6.out HS6.out HL6.out).mono ?_
        rintro e w7 ⟨⟨sa, sb, sc, rfl, hsi⟩, t7⟩
        have T7 := Lib.hid (T6.out.trans t7)
        have HRI7 := Lib.hid (HRI.out.touch t7)
        have HSI := Lib.hid hsi
        have HLO := Lib.hid (Nat.le_trans (HOL.out o rfl) (by decide : 100000 ≤ 1000000))
        clear t7 hsi
        go_wp2_with fail
        refine (same_ints ra rb 0 rc sa sb 0 sc o.length _ _ HRI7.out HSI.out HLO.out).mono ?_
        rintro e w8 ⟨rfl, m, rfl⟩
        go_wp2_with fail
        refine (known_walk _).mono ?_
        rintro e w9 ⟨rfl, t9⟩
        go_wp2_with fail
        go_ret
        exact ⟨rfl, ((T7.out.drewN m).trans t9).owned⟩
theorem FseTurned_law (w : World) (a0 : Option Addr) (b0 o0 l0 c0 : Nat) (z0 : Nat → Int) (w0 : IntsIn .i64 w a0 b0 o0 l0 c0 z0) (a1 : Int) (w1 : (Lit.int .i64 a1).wf = true) (a2 : Int) (w2 : (Lit.int .u8 a2).wf = true) :
    Calls Try.prog 11 #[.slice a0 l0 c0, .int .i64 a1, .int .u8 a2] w fun e w' => e = .returned (.bool true) ∧ Below w.heap.size w w' := by
  by_cases h1 : l0 < 1
  · clear w0 w1 w2
    have q0 : decide ((l0 : Int) < 1) = true := by simp; omega
    go_enter Try.func11, Try.ntmps11
    go_wp2_with fail
    go_ret
    exact ⟨rfl, Below.refl _ _⟩
  · by_cases hl : 300 < l0
    · clear w0 w1 w2
      have q0 : decide ((l0 : Int) < 1) = false := by simp; omega
      have q1 : decide ((300 : Int) < (l0 : Int)) = true := by simp; omega
      go_enter Try.func11, Try.ntmps11
      go_wp2_with fail
      go_ret
      exact ⟨rfl, Below.refl _ _⟩
    · obtain ⟨h0, h256⟩ := u8_wf w2
      obtain ⟨ch, rfl⟩ := Int.eq_ofNat_of_zero_le h0
      exact FseTurned_in w a0 b0 o0 l0 c0 z0 w0 (by omega) (by omega) a1 ch (by omega)
end Go.Proofs.Ytaacphmbkieacaa
