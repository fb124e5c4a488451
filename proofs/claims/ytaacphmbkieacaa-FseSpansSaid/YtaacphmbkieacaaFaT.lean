/- fse: the law FseCodes. -/
import Derived.Test.YtaacphmbkieacaaFaS
namespace Go.Proofs.Ytaacphmbkieacaa
open Go.RowKit Go.WideShapes Fs
set_option linter.unusedVariables false
set_option linter.unusedSimpArgs false
set_option maxRecDepth 100000

/-- Bytes as a string. -/
def strOf (F : Nat → Nat) (m : Nat) : ByteArray := strOfNums ((List.range m).map fun p => (F p : Int))
def strBits (l : List Bool) : ByteArray := strOf (byteAt (l ++ [true])) (l.length / 8 + 1)
theorem conv_tab {w : World} {g m c : Nat} {F : Nat → Nat} {e : TypeId} {fr : Nat × Nat} (h : w.heap[g]? = some (.cells (tab m (fun p => .int .u8 (F p))) e fr)) :
    (convert 37 9 (.slice (some ⟨g, 0, none⟩) m c)).run Try.prog w = .ok (.string (strOf F m)) w :=
  run_convert_bytes_arg w 37 5 Try.underlying37 Try.underlying5 g 0 m c _ (by simp) (fun i hi => by
    have := tab_cell h hi
    rw [Nat.zero_add, this]
    simp [hi]) 9 Try.underlying9
theorem conv_bytes {w : World} {g c : Nat} {l : List Bool} {e : TypeId} {fr : Nat × Nat} (h : w.heap[g]? = some (.cells (tab (l.length / 8 + 1) (bytesF l)) e fr)) :
    (convert 37 9 (.slice (some ⟨g, 0, none⟩) (l.length / 8 + 1) c)).run Try.prog w = .ok (.string (strBits l)) w := conv_tab h
theorem conv_nil (w : World) : (convert 37 9 (.slice none 0 0)).run Try.prog w = .ok (.string ByteArray.empty) w := run_convert_bytes_nil w 37 5 Try.underlying37 Try.underlying5 0 0 9 Try.underlying9
theorem isOk_four (z : Nat → Int) (n : Nat) : isOk z n 4 = false := by simp [isOk, logOk]
theorem normOk_log {z : Nat → Int} {n : Nat} {a : Int} (h : normOk z n a = true) : ∃ L : Nat, a = L ∧ 5 ≤ L ∧ L ≤ 9 ∧ n ≤ 32 := by
  simp only [normOk, logOk, Bool.and_eq_true, decide_eq_true_eq] at h
  exact ⟨a.toNat, by omega, by omega, by omega, h.1.1.2⟩

set_option maxHeartbeats 2000000 in
theorem FseCodes_in (w : World) (a0 : Option Addr) (b0 o0 l0 c0 : Nat) (z0 : Nat → Int) (w0 : IntsIn .i64 w a0 b0 o0 l0 c0 z0) (hl : l0 ≤ 40) (a1 : Int) (a2 : Option Addr) (b2 o2 l2 c2 : Nat) (z2 : Nat → Int) (w2 : IntsIn .i64 w a2 b2 o2 l2 c2 z2) (hl2 : l2 ≤ 500) :
    Calls Try.prog 8 #[.slice a0 l0 c0, .int .i64 a1, .slice a2 l2 c2] w fun e w' => e = .returned (.bool true) ∧ Below w.heap.size w w' := by
  have q0 : decide ((40 : Int) < (l0 : Int)) = false := by simp; omega
  have q2 : decide ((500 : Int) < (l2 : Int)) = false := by simp; omega
  have W0 := Lib.hid (ints_of w0)
  have W2 := Lib.hid (ints_of w2)
  have L2 := Lib.hid w2.lt
  have hcn := conv_nil
  clear w0 w2
  cases hok : normOk z0 l0 a1 with
  | false =>
    have HOK := Lib.hid hok
    clear hok
    go_enter Try.func8, Try.ntmps8
    go_wp2_with fail
    refine (rnorm_no a0 b0 o0 l0 c0 z0 a1 _ W0.out (by omega) HOK.out).mono ?_
    rintro e w3 ⟨rfl, rfl⟩
    go_wp2_with fail
    refine (enc_no a0 a2 b0 o0 l0 c0 l2 c2 z0 4 _ W0.out (by omega) (isOk_four _ _)).mono ?_
    rintro e w4 ⟨rfl, t4⟩
    have T4 := Lib.hid t4
    clear t4
    go_wp2_with fail
    refine (known_walk _).mono ?_
    rintro e w5 ⟨rfl, t5⟩
    go_wp2_with fail
    go_ret
    exact ⟨rfl, (T4.out.trans t5).owned⟩
  | true =>
    obtain ⟨L, rfl, h5, h9, hn⟩ := normOk_log hok
    have hiso := (norm_spec _ _ _ hok).2.2.2
    have henc := fun w b h h2 h3 => enc_yes (some ⟨b, 0, none⟩) a2 b 0 l0 l0 L b2 o2 l2 c2 (normZ z0 l0 L) z2 w h h2 h3 (by omega) hiso
    have hrenc := fun w b h h2 => renc_yes (some ⟨b, 0, none⟩) a2 b 0 l0 l0 L b2 o2 l2 c2 (normZ z0 l0 L) z2 w h h2 (by omega) hiso
    obtain ⟨R, hR⟩ : ∃ R, encF (2 ^ L) (symU (natM (normZ z0 l0 L)) l0 L) (fun u => bitsU L (xU (natM (normZ z0 l0 L)) (symU (natM (normZ z0 l0 L)) l0 L) u)) (fun u => baseU L (xU (natM (normZ z0 l0 L)) (symU (natM (normZ z0 l0 L)) l0 L) u)) (backL z2 l2 l2) = R := ⟨_, rfl⟩
    simp only [hR] at henc hrenc
    have HENC := Lib.hid henc
    have HRENC := Lib.hid hrenc
    have HOK := Lib.hid hok
    clear hok henc hrenc hR hiso
    cases R with
    | none =>
      go_enter Try.func8, Try.ntmps8
      go_wp2_with fail
      refine (rnorm_yes a0 b0 o0 l0 c0 L z0 _ W0.out HOK.out).mono ?_
      rintro e w3 ⟨rfl, hh3, t3⟩
      have T3 := Lib.hid t3
      have HI3 := Lib.hid (tab_ints hh3)
      clear t3 hh3
      go_wp2_with fail
      refine (HENC.out _ _ HI3.out (W2.out.touch T3.out) (fun h => Nat.lt_of_lt_of_le (L2.out h) T3.out.size)).mono ?_
      rintro e w4 ⟨rfl, t4⟩
      have T4 := Lib.hid (T3.out.trans t4)
      have HI4 := Lib.hid (HI3.out.touch t4)
      clear t4
      go_wp2_with fail
      refine (HRENC.out _ _ HI4.out (W2.out.touch T4.out)).mono ?_
      rintro e w5 ⟨rfl, t5⟩
      have T5 := Lib.hid (T4.out.trans t5)
      clear t5
      go_wp2_with fail
      refine (known_walk _).mono ?_
      rintro e w6 ⟨rfl, t6⟩
      go_wp2_with fail
      go_ret
      exact ⟨rfl, (T5.out.trans t6).owned⟩
    | some tl =>
      obtain ⟨t, l⟩ := tl
      go_enter Try.func8, Try.ntmps8
      go_wp2_with fail
      refine (rnorm_yes a0 b0 o0 l0 c0 L z0 _ W0.out HOK.out).mono ?_
      rintro e w3 ⟨rfl, hh3, t3⟩
      have T3 := Lib.hid t3
      have HI3 := Lib.hid (tab_ints hh3)
      clear t3 hh3
      go_wp2_with fail
      refine (HENC.out _ _ HI3.out (W2.out.touch T3.out) (fun h => Nat.lt_of_lt_of_le (L2.out h) T3.out.size)).mono ?_
      rintro e w4 ⟨⟨g4, rfl, hg4, hh4⟩, t4⟩
      have T4 := Lib.hid (T3.out.trans t4)
      have HI4 := Lib.hid (HI3.out.touch t4)
      have HH4 := Lib.hid hh4
      clear t4 hh4
      go_wp2_with fail
      refine (HRENC.out _ _ HI4.out (W2.out.touch T4.out)).mono ?_
      rintro e w5 ⟨⟨g5, rfl, hg5, hh5⟩, t5⟩
      have T5 := Lib.hid (T4.out.trans t5)
      have hc4 := conv_bytes (c := (putL (t : Int) (L : Int) l).length / 8 + 1) (t5.heap HH4.out id)
      have hc5 := conv_bytes (c := (putL (t : Int) (L : Int) l).length / 8 + 1) hh5
      obtain ⟨l3, hl3⟩ : ∃ l3, putL (t : Int) (L : Int) l = l3 := ⟨_, rfl⟩
      rw [hl3] at hc4 hc5 ⊢
      clear t5 hh5 hl3
      go_wp2_with fail
      refine (known_walk _).mono ?_
      rintro e w6 ⟨rfl, t6⟩
      go_wp2_with fail
      go_ret
      exact ⟨rfl, (T5.out.trans t6).owned⟩
theorem FseCodes_law (w : World) (a0 : Option Addr) (b0 o0 l0 c0 : Nat) (z0 : Nat → Int) (w0 : IntsIn .i64 w a0 b0 o0 l0 c0 z0) (a1 : Int) (w1 : (Lit.int .i64 a1).wf = true) (a2 : Option Addr) (b2 o2 l2 c2 : Nat) (z2 : Nat → Int) (w2 : IntsIn .i64 w a2 b2 o2 l2 c2 z2) :
    Calls Try.prog 8 #[.slice a0 l0 c0, .int .i64 a1, .slice a2 l2 c2] w fun e w' => e = .returned (.bool true) ∧ Below w.heap.size w w' := by
  by_cases hl : 40 < l0
  · clear w0 w1 w2
    have q0 : decide ((40 : Int) < (l0 : Int)) = true := by simp; omega
    go_enter Try.func8, Try.ntmps8
    go_wp2_with fail
    go_ret
    exact ⟨rfl, Below.refl _ _⟩
  · by_cases hl2 : 500 < l2
    · clear w0 w1 w2
      have q0 : decide ((40 : Int) < (l0 : Int)) = false := by simp; omega
      have q2 : decide ((500 : Int) < (l2 : Int)) = true := by simp; omega
      go_enter Try.func8, Try.ntmps8
      go_wp2_with fail
      go_ret
      exact ⟨rfl, Below.refl _ _⟩
    · exact FseCodes_in w a0 b0 o0 l0 c0 z0 w0 (by omega) a1 a2 b2 o2 l2 c2 z2 w2 (by omega)
end Go.Proofs.Ytaacphmbkieacaa
