/- fse: what was pressed is read; the law FseNone. -/
import Derived.Test.YtaacphmbkieacaaFaX
namespace Go.Proofs.Ytaacphmbkieacaa
open Go.RowKit Go.WideShapes Fs
set_option linter.unusedVariables false
set_option linter.unusedSimpArgs false
set_option maxRecDepth 100000

theorem bitsIn_back (l : List Bool) : bitsIn (byteAt (l ++ [true])) (l.length / 8 + 1) = some l := by
  simp only [bitsIn]
  rw [if_neg (last_ne l), back_bits]
theorem decF_enc {Sy Bi : Nat → Nat} {Ba : Nat → Int} {N L : Nat} (T : TabOk N Sy Bi Ba) (hN : 2 ^ L = N) (hL : L ≤ 9) {xs : List Int} {t : Nat} {l : List Bool} (h : encF N Sy Bi Ba xs = some (t, l)) :
    putL (t : Int) (L : Int) l = l ++ Go.Proofs.Ytaacphmbkieacaa.digits t L ∧ decF Sy Bi Ba L xs.length (putL (t : Int) (L : Int) l) = some (xs.reverse.map Int.toNat) := by
  have hN0 : 0 < N := by rw [← hN]; exact Nat.two_pow_pos _
  have ht : t < 2 ^ L := by rw [hN]; exact (encF_bd T _ xs rfl h hN0).1
  have hp := putL_nat (v := t) (n := L) l ht (by omega)
  refine ⟨hp, ?_⟩
  rw [hp]
  obtain ⟨a1, a2, a3⟩ := taken_app l t L ht (by omega)
  unfold decF
  rw [a3, a1, a2, dec_enc T hN0 _ xs rfl [] h]
  simp [decE]
theorem bytes_len {t L : Nat} {l : List Bool} (ht : t < 2 ^ L) (hL : L ≤ 9) : (putL (t : Int) (L : Int) l).length = l.length + L := by
  rw [putL_nat (v := t) (n := L) l ht (by omega), List.length_append, digits_length]

set_option maxHeartbeats 2000000 in
theorem FseNone_in (w : World) (a0 : Option Addr) (b0 o0 l0 c0 : Nat) (z0 : Nat → Int) (w0 : IntsIn .i64 w a0 b0 o0 l0 c0 z0) (hl : l0 ≤ 32) (a1 : Int) :
    Calls Try.prog 14 #[.slice a0 l0 c0, .int .i64 a1] w fun e w' => e = .returned (.bool true) ∧ Below w.heap.size w w' := by
  have q0 : decide ((32 : Int) < (l0 : Int)) = false := by simp; omega
  have W0 := Lib.hid (ints_of w0)
  clear w0
  cases hok : normOk z0 l0 a1 with
  | false =>
    have HOK := Lib.hid hok
    clear hok
    go_enter Try.func14, Try.ntmps14
    go_wp2_with fail
    refine (rnorm_no a0 b0 o0 l0 c0 z0 a1 _ W0.out (by omega) HOK.out).mono ?_
    rintro e w3 ⟨rfl, rfl⟩
    go_wp2_with fail
    go_ret
    exact ⟨rfl, Below.refl _ _⟩
  | true =>
    obtain ⟨L, rfl, h5, h9, hn⟩ := normOk_log hok
    have hiso := (norm_spec _ _ _ hok).2.2.2
    obtain ⟨_, _, _, _, _, hsum⟩ := isOk_nat hiso
    have T := tabOk_is h5 h9 (natM (normZ z0 l0 L)) hsum hn
    have hE : encF (2 ^ L) (symU (natM (normZ z0 l0 L)) l0 L) (fun u => bitsU L (xU (natM (normZ z0 l0 L)) (symU (natM (normZ z0 l0 L)) l0 L) u)) (fun u => baseU L (xU (natM (normZ z0 l0 L)) (symU (natM (normZ z0 l0 L)) l0 L) u)) (backL (fun _ => 0) 0 0) = some (0, []) := rfl
    have henc := fun w b h => enc_yes (some ⟨b, 0, none⟩) none b 0 l0 l0 L 0 0 0 0 (normZ z0 l0 L) (fun _ => 0) w h ⟨fun h => by omega, fun i hi => by omega⟩ (fun h => by omega) (by omega) hiso
    rw [hE] at henc
    have hdf := (decF_enc T rfl h9 hE).2
    have hlen := bytes_len (l := []) (t := 0) (L := L) (Nat.two_pow_pos _) h9
    obtain ⟨l3, hl3⟩ : ∃ l3, putL ((0 : Nat) : Int) (L : Int) [] = l3 := ⟨_, rfl⟩
    rw [hl3] at hdf hlen
    simp only [List.length_nil, Nat.zero_add] at hlen
    have hdec := fun w b g (h : Ints .i64 w (some ⟨b, 0, none⟩) b 0 l0 (normZ z0 l0 L)) (hs : Seen w (some ⟨g, 0, none⟩) g 0 (l3.length / 8 + 1) (byteAt (l3 ++ [true]))) => dec_yes (some ⟨b, 0, none⟩) (some ⟨g, 0, none⟩) b 0 l0 l0 g 0 (l3.length / 8 + 1) (l3.length / 8 + 1) L 0 (normZ z0 l0 L) _ l3 w h hs (by omega) hiso (bitsIn_back l3) (by omega)
    have hbad := fun w b g (h : Ints .i64 w (some ⟨b, 0, none⟩) b 0 l0 (normZ z0 l0 L)) (hs : Seen w (some ⟨g, 0, none⟩) g 0 (l3.length / 8 + 1) (byteAt (l3 ++ [true]))) => dec_bad (some ⟨b, 0, none⟩) (some ⟨g, 0, none⟩) b 0 l0 l0 g 0 (l3.length / 8 + 1) (l3.length / 8 + 1) L (normZ z0 l0 L) _ (-1) w h hs (by omega) hiso (.inr (by decide))
    rw [show (backL (fun _ => 0) 0 0).length = 0 from rfl] at hdf
    simp only [hdf] at hdec
    have HENC := Lib.hid henc
    have HDEC := Lib.hid hdec
    have HBAD := Lib.hid hbad
    have HL3 := Lib.hid hl3
    have HLEN := Lib.hid hlen
    have HOK := Lib.hid hok
    obtain ⟨K, hK⟩ : ∃ K, L / 8 + 1 = K := ⟨_, rfl⟩
    have hKq : (L : Int) / 8 + 1 = (K : Int) := by omega
    have HK := Lib.hid hK
    clear hok henc hdec hbad hl3 hlen hiso T hsum hE hdf hK
    go_enter Try.func14, Try.ntmps14
    go_wp2_with fail
    refine (rnorm_yes a0 b0 o0 l0 c0 L z0 _ W0.out HOK.out).mono ?_
    rintro e w3 ⟨rfl, hh3, t3⟩
    have T3 := Lib.hid t3
    have HI3 := Lib.hid (tab_ints hh3)
    clear t3 hh3
    go_wp2_with fail
    refine (HENC.out _ _ HI3.out).mono ?_
    rintro e w4 ⟨⟨g4, rfl, hg4, hh4⟩, t4⟩
    rw [HL3.out] at hh4 ⊢
    have T4 := Lib.hid (T3.out.trans t4)
    have HI4 := Lib.hid (HI3.out.touch t4)
    have HS4 := Lib.hid (bytes_seen hh4)
    clear t4 hh4
    go_wp2_with fail
    refine (HDEC.out _ _ _ HI4.out HS4.out).mono ?_
    rintro e w5 ⟨⟨ra, rb, rc, rfl, _⟩, t5⟩
    have T5 := Lib.hid (T4.out.trans t5)
    have HI5 := Lib.hid (HI4.out.touch t5)
    have HS5 := Lib.hid (HS4.out.touch t5 id)
    clear t5
    go_wp2_with fail
    refine (HBAD.out _ _ _ HI5.out HS5.out).mono ?_
    rintro e w6 ⟨rfl, t6⟩
    have T6 := Lib.hid (T5.out.trans t6)
    clear t6
    rw [HLEN.out, HK.out]
    go_wp2_with fail
    refine (known_walk _).mono ?_
    rintro e w8 ⟨rfl, t8⟩
    go_wp2_with fail
    go_ret
    exact ⟨rfl, (T6.out.trans t8).owned⟩
theorem FseNone_law (w : World) (a0 : Option Addr) (b0 o0 l0 c0 : Nat) (z0 : Nat → Int) (w0 : IntsIn .i64 w a0 b0 o0 l0 c0 z0) (a1 : Int) (w1 : (Lit.int .i64 a1).wf = true) :
    Calls Try.prog 14 #[.slice a0 l0 c0, .int .i64 a1] w fun e w' => e = .returned (.bool true) ∧ Below w.heap.size w w' := by
  by_cases hl : 32 < l0
  · clear w0 w1
    have q0 : decide ((32 : Int) < (l0 : Int)) = true := by simp; omega
    go_enter Try.func14, Try.ntmps14
    go_wp2_with fail
    go_ret
    exact ⟨rfl, Below.refl _ _⟩
  · exact FseNone_in w a0 b0 o0 l0 c0 z0 w0 (by omega) a1
end Go.Proofs.Ytaacphmbkieacaa
