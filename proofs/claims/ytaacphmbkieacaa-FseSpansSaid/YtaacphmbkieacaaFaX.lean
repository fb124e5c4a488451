/- fse: the law FseReads. -/
import Derived.Test.YtaacphmbkieacaaFaW
namespace Go.Proofs.Ytaacphmbkieacaa
open Go.RowKit Go.WideShapes Fs
set_option linter.unusedVariables false
set_option linter.unusedSimpArgs false
set_option maxRecDepth 100000

theorem seen_ints {w : World} {a : Option Addr} {b off n : Nat} {z : Nat → Int} (h : Ints .u8 w a b off n z) (hz : ∀ i, 0 ≤ z i ∧ z i < 256) : Seen w a b off n (fun i => (z i).toNat) :=
  ⟨h.at_, fun i hi => by rw [h.cell i hi, Int.toNat_of_nonneg (hz i).1], fun i => by have := hz i; omega⟩
theorem decF_len {Sy Bi : Nat → Nat} {Ba : Nat → Int} {N L n : Nat} (T : TabOk N Sy Bi Ba) (hN : 2 ^ L = N) {l : List Bool} {o : List Nat} (h : decF Sy Bi Ba L n l = some o) : o.length = n := by
  unfold decF at h
  split at h
  · cases hd : decK Sy Bi Ba (some (takenV l (L : Int), takenL l (L : Int), [])) n with
    | none => rw [hd] at h; cases h
    | some st =>
      obtain ⟨u, l', o'⟩ := st
      rw [hd] at h
      have := (decK_bd T (by rw [← hN]; exact takenV_lt l L) n hd).2.2.1
      simp only [decE] at h
      split at h
      · cases h; exact this
      · cases h
  · cases h
/-- Both read the same. -/
theorem dec_both (n L lb : Nat) (z : Nat → Int) (zb : Nat → Nat) (q : Int) (hok : isOk z n (L : Int) = true) (hlb : lb ≤ 100000) (hq : q ≤ 100000) :
    ∃ R, (∀ a b off c ab bb ob cb w, Ints .i64 w a b off n z → Seen w ab bb ob lb zb → Calls Try.prog 26 #[.slice a n c, .int .i64 L, .slice ab lb cb, .int .i64 q] w (DecPost w R)) ∧
      (∀ a b off c ab bb ob cb w, Ints .i64 w a b off n z → Seen w ab bb ob lb zb → (0 < lb → bb < w.heap.size) → Calls Try.prog 27 #[.slice a n c, .int .i64 L, .slice ab lb cb, .int .i64 q] w (DecPost w R)) ∧
      ∀ o, R = some o → o.length ≤ 100000 := by
  obtain ⟨h5, h9, hn32, hn0, hzm, hsum⟩ := isOk_nat hok
  cases hb : bitsIn zb lb with
  | none =>
    have hm : manyIn zb lb = none := by
      rw [bitsIn_many] at hb
      cases hm : manyIn zb lb with
      | none => rfl
      | some M => rw [hm] at hb; cases hb
    exact ⟨none, fun a b off c ab bb ob cb w h hs => dec_bad a ab b off n c bb ob lb cb L z zb q w h hs hlb hok (.inl hb), fun a b off c ab bb ob cb w h hs _ => rdec_bad a ab b off n c bb ob lb cb L z zb q w h hs hlb hok (.inl hm), fun o h => by cases h⟩
  | some l0 =>
    by_cases hq0 : q < 0
    · exact ⟨none, fun a b off c ab bb ob cb w h hs => dec_bad a ab b off n c bb ob lb cb L z zb q w h hs hlb hok (.inr hq0), fun a b off c ab bb ob cb w h hs _ => rdec_bad a ab b off n c bb ob lb cb L z zb q w h hs hlb hok (.inr hq0), fun o h => by cases h⟩
    · obtain ⟨nn, rfl⟩ := Int.eq_ofNat_of_zero_le (show 0 ≤ q by omega)
      exact ⟨_, fun a b off c ab bb ob cb w h hs => dec_yes a ab b off n c bb ob lb cb L nn z zb l0 w h hs hlb hok hb (by omega), fun a b off c ab bb ob cb w h hs hbw => rdec_yes a ab b off n c bb ob lb cb L nn z zb l0 w h hs hbw hlb hok hb (by omega),
        fun o h => by have := decF_len (tabOk_is h5 h9 (natM z) hsum hn32) rfl h; omega⟩
theorem Try.info5b : (Try.prog.info? 5).map (fun i => (i.zero, i.size, i.bytes)) = some (some (.int .u8 0), 1, 1) := by kernel_rfl
theorem u8_all {z : Nat → Int} (h : ∀ i, (Lit.int .u8 (z i)).wf = true) (i : Nat) : 0 ≤ z i ∧ z i < 256 := u8_wf (h i)

set_option maxHeartbeats 2000000 in
theorem FseReads_in (w : World) (a0 : Option Addr) (b0 o0 l0 c0 : Nat) (z0 : Nat → Int) (w0 : IntsIn .i64 w a0 b0 o0 l0 c0 z0) (hl : l0 ≤ 40) (a1 : Int) (a2 : Option Addr) (b2 o2 l2 c2 : Nat) (z2 : Nat → Int) (w2 : IntsIn .u8 w a2 b2 o2 l2 c2 z2) (hl2 : l2 ≤ 300) (a3 : Int) (h3 : a3 ≤ 2000) :
    Calls Try.prog 10 #[.slice a0 l0 c0, .int .i64 a1, .slice a2 l2 c2, .int .i64 a3] w fun e w' => e = .returned (.bool true) ∧ Below w.heap.size w w' := by
  have q0 : decide ((40 : Int) < (l0 : Int)) = false := by simp; omega
  have q2 : decide ((300 : Int) < (l2 : Int)) = false := by simp; omega
  have q3 : decide ((2000 : Int) < a3) = false := by simp; omega
  have W0 := Lib.hid (ints_of w0)
  have W2 := Lib.hid (ints_of w2)
  have HZ := Lib.hid (u8_all w2.wf)
  have L2 := Lib.hid w2.lt
  clear w0 w2
  cases hok : normOk z0 l0 a1 with
  | false =>
    have HOK := Lib.hid hok
    clear hok
    go_enter Try.func10, Try.ntmps10
    go_wp2_with fail
    refine (rnorm_no a0 b0 o0 l0 c0 z0 a1 _ W0.out (by omega) HOK.out).mono ?_
    rintro e w3 ⟨rfl, rfl⟩
    go_wp2_with fail
    go_ret
    exact ⟨rfl, Below.refl _ _⟩
  | true =>
    obtain ⟨L, rfl, h5, h9, hn⟩ := normOk_log hok
    obtain ⟨R, hd, hr, hol⟩ := dec_both l0 L l2 (normZ z0 l0 L) (fun i => (z2 i).toNat) a3 (norm_spec _ _ _ hok).2.2.2 (by omega) (by omega)
    have HD := Lib.hid hd
    have HR := Lib.hid hr
    have HOL := Lib.hid hol
    have HOK := Lib.hid hok
    obtain ⟨i0, hi, hz0, hz1, hz2⟩ := info_parts Try.info5b
    have hap : l2 ≤ maxLen ∧ l2 * 1 ≤ 140737488355328 := by unfold maxLen; omega
    have HAP := Lib.hid hap
    clear hok hd hr hol hap
    cases R with
    | none =>
      go_enter Try.func10, Try.ntmps10
      go_wp2_with fail
      refine (rnorm_yes a0 b0 o0 l0 c0 L z0 _ W0.out HOK.out).mono ?_
      rintro e w3 ⟨rfl, hh3, t3⟩
      have T3 := Lib.hid t3
      have HI3 := Lib.hid (tab_ints hh3)
      clear t3 hh3
      go_wp2_with (refine wpList_append_mine rfl (.tmp 38) (.tmp 39) 37 37 rfl 5 i0 (.int .u8 0) 1 1 Try.underlying37 hi hz0 hz1 hz2 rfl (.slice (some ⟨w3.heap.size, 0, none⟩) 0 0) 0 [] rfl (row_of_tab (m := 0) (F := fun _ => .int .u8 0) (heap_alloc_new _ _) (by unfold maxLen; omega)) _ l2 _ rfl (src_ints c2 Try.underlying37 ((W2.out.touch T3.out).touch (Touch.new w3 _))) (by unfold maxLen; omega) (by omega) ?_; intro a5 c5 w4 hown ht hf _; simp only [Nat.zero_add, List.nil_append] at hown hf ⊢)
      have t4 := own_app (Touch.new w3 _) (OwnB.here w3 0) ht
      obtain ⟨xa, xb, xc, hxv, hx⟩ := ints_row hown
      simp at hxv
      obtain ⟨rfl, rfl⟩ := hxv
      have T4 := Lib.hid (T3.out.trans t4)
      have HI4 := Lib.hid (HI3.out.touch t4)
      have HX := Lib.hid (seen_ints hx HZ.out)
      clear hown ht hf hx t4
      refine (HD.out _ _ 0 _ _ xb 0 c5 _ HI4.out HX.out).mono ?_
      rintro e w5 ⟨rfl, t5⟩
      have T5 := Lib.hid (T4.out.trans t5)
      have HI5 := Lib.hid (HI4.out.touch t5)
      clear t5
      go_wp2_with fail
      refine (HR.out _ _ 0 _ _ b2 o2 c2 _ HI5.out (seen_ints (W2.out.touch T5.out) HZ.out) (fun h => Nat.lt_of_lt_of_le (L2.out h) T5.out.size)).mono ?_
      rintro e w6 ⟨rfl, t6⟩
      have T6 := Lib.hid (T5.out.trans t6)
      clear t6
      go_wp2_with fail
      refine (same_ints none 0 0 0 none 0 0 0 0 (fun _ => 0) _ ⟨fun h => by omega, fun i hi => by omega⟩ ⟨fun h => by omega, fun i hi => by omega⟩ (by omega)).mono ?_
      rintro e w7 ⟨rfl, m, rfl⟩
      go_wp2_with fail
      refine (known_walk _).mono ?_
      rintro e w8 ⟨rfl, t8⟩
      go_wp2_with fail
      go_ret
      exact ⟨rfl, ((T6.out.drewN m).trans t8).owned⟩
    | some o =>
      go_enter Try.func10, Try.ntmps10
      go_wp2_with fail
      refine (rnorm_yes a0 b0 o0 l0 c0 L z0 _ W0.out HOK.out).mono ?_
      rintro e w3 ⟨rfl, hh3, t3⟩
      have T3 := Lib.hid t3
      have HI3 := Lib.hid (tab_ints hh3)
      clear t3 hh3
      go_wp2_with (refine wpList_append_mine rfl (.tmp 38) (.tmp 39) 37 37 rfl 5 i0 (.int .u8 0) 1 1 Try.underlying37 hi hz0 hz1 hz2 rfl (.slice (some ⟨w3.heap.size, 0, none⟩) 0 0) 0 [] rfl (row_of_tab (m := 0) (F := fun _ => .int .u8 0) (heap_alloc_new _ _) (by unfold maxLen; omega)) _ l2 _ rfl (src_ints c2 Try.underlying37 ((W2.out.touch T3.out).touch (Touch.new w3 _))) (by unfold maxLen; omega) (by omega) ?_; intro a5 c5 w4 hown ht hf _; simp only [Nat.zero_add, List.nil_append] at hown hf ⊢)
      have t4 := own_app (Touch.new w3 _) (OwnB.here w3 0) ht
      obtain ⟨xa, xb, xc, hxv, hx⟩ := ints_row hown
      simp at hxv
      obtain ⟨rfl, rfl⟩ := hxv
      have T4 := Lib.hid (T3.out.trans t4)
      have HI4 := Lib.hid (HI3.out.touch t4)
      have HX := Lib.hid (seen_ints hx HZ.out)
      clear hown ht hf hx t4
      refine (HD.out _ _ 0 _ _ xb 0 c5 _ HI4.out HX.out).mono ?_
      rintro e w5 ⟨⟨ra, rb, rc, rfl, hri⟩, t5⟩
      have T5 := Lib.hid (T4.out.trans t5)
      have HI5 := Lib.hid (HI4.out.touch t5)
      have HRI := Lib.hid hri
      clear t5 hri
      go_wp2_with fail
      refine (HR.out _ _ 0 _ _ b2 o2 c2 _ HI5.out (seen_ints (W2.out.touch T5.out) HZ.out) (fun h => Nat.lt_of_lt_of_le (L2.out h) T5.out.size)).mono ?_
      rintro e w6 ⟨⟨sa, sb, sc, rfl, hsi⟩, t6⟩
      have T6 := Lib.hid (T5.out.trans t6)
      have HRI6 := Lib.hid (HRI.out.touch t6)
      have HSI := Lib.hid hsi
      have HLO := Lib.hid (Nat.le_trans (HOL.out o rfl) (by decide : 100000 ≤ 1000000))
      clear t6 hsi
      go_wp2_with fail
      refine (same_ints ra rb 0 rc sa sb 0 sc o.length _ _ HRI6.out HSI.out HLO.out).mono ?_
      rintro e w7 ⟨rfl, m, rfl⟩
      go_wp2_with fail
      refine (known_walk _).mono ?_
      rintro e w8 ⟨rfl, t8⟩
      go_wp2_with fail
      go_ret
      exact ⟨rfl, ((T6.out.drewN m).trans t8).owned⟩
theorem FseReads_law (w : World) (a0 : Option Addr) (b0 o0 l0 c0 : Nat) (z0 : Nat → Int) (w0 : IntsIn .i64 w a0 b0 o0 l0 c0 z0) (a1 : Int) (w1 : (Lit.int .i64 a1).wf = true) (a2 : Option Addr) (b2 o2 l2 c2 : Nat) (z2 : Nat → Int) (w2 : IntsIn .u8 w a2 b2 o2 l2 c2 z2) (a3 : Int) (w3 : (Lit.int .i64 a3).wf = true) :
    Calls Try.prog 10 #[.slice a0 l0 c0, .int .i64 a1, .slice a2 l2 c2, .int .i64 a3] w fun e w' => e = .returned (.bool true) ∧ Below w.heap.size w w' := by
  by_cases hl : 40 < l0
  · clear w0 w1 w2 w3
    have q0 : decide ((40 : Int) < (l0 : Int)) = true := by simp; omega
    go_enter Try.func10, Try.ntmps10
    go_wp2_with fail
    go_ret
    exact ⟨rfl, Below.refl _ _⟩
  · have q0 : decide ((40 : Int) < (l0 : Int)) = false := by simp; omega
    by_cases hl2 : 300 < l2
    · clear w0 w1 w2 w3
      have q2 : decide ((300 : Int) < (l2 : Int)) = true := by simp; omega
      go_enter Try.func10, Try.ntmps10
      go_wp2_with fail
      go_ret
      exact ⟨rfl, Below.refl _ _⟩
    · have q2 : decide ((300 : Int) < (l2 : Int)) = false := by simp; omega
      by_cases h3 : 2000 < a3
      · clear w0 w1 w2 w3
        have q3 : decide ((2000 : Int) < a3) = true := by simpa using h3
        go_enter Try.func10, Try.ntmps10
        go_wp2_with fail
        go_ret
        exact ⟨rfl, Below.refl _ _⟩
      · exact FseReads_in w a0 b0 o0 l0 c0 z0 w0 (by omega) a1 a2 b2 o2 l2 c2 z2 w2 (by omega) a3 (by omega)
end Go.Proofs.Ytaacphmbkieacaa
