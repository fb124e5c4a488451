/- fse: the law FseEven. -/
import Derived.Test.YtaacphmbkieacaaGaA
namespace Go.Proofs.Ytaacphmbkieacaa
open Go.RowKit Go.WideShapes Fs
set_option linter.unusedVariables false
set_option linter.unusedSimpArgs false
set_option maxRecDepth 100000

def evenZ (_ : Nat) : Int := 5
theorem even_ok : normOk evenZ 32 ((5 : Nat) : Int) = true := by decide +kernel
theorem even_norm : ∀ i, i < 32 → normZ evenZ 32 5 i = 1 := by decide +kernel
theorem even_nat (i : Nat) (hi : i < 32) : natM (normZ evenZ 32 5) i = 1 := by unfold natM; rw [even_norm i hi]; rfl
theorem even_x (u : Nat) (hu : u < 2 ^ 5) : bitsU 5 (xU (natM (normZ evenZ 32 5)) (symU (natM (normZ evenZ 32 5)) 32 5) u) = 5 ∧ baseU 5 (xU (natM (normZ evenZ 32 5)) (symU (natM (normZ evenZ 32 5)) 32 5) u) = 0 := by
  obtain ⟨_, _, _, _, _, hsum⟩ := isOk_nat (norm_spec _ _ _ even_ok).2.2.2
  obtain ⟨a, b, c, d⟩ := xU_bd (log := 5) (n := 32) (by omega) (by omega) _ hsum u hu
  have hs := (symU_lt (log := 5) (n := 32) (by omega) (by omega) _ hsum u hu).1
  have hm : natM (normZ evenZ 32 5) (symU (natM (normZ evenZ 32 5)) 32 5 u) = 1 := even_nat _ hs
  rw [hm] at b c
  have hx : xU (natM (normZ evenZ 32 5)) (symU (natM (normZ evenZ 32 5)) 32 5) u = 1 := by omega
  rw [hx]
  decide
theorem encF_even {N : Nat} {Sy Bi : Nat → Nat} {Ba : Nat → Int} (T : TabOk N Sy Bi Ba) (c : Nat) (hc : ∀ u, u < N → Bi u = c) : ∀ (k : Nat) (xs : List Int), xs.length = k → ∀ {t : Nat} {l : List Bool}, encF N Sy Bi Ba xs = some (t, l) → l.length = c * k
  | 0, xs, hx, t, l, h => by
    obtain rfl : xs = [] := by simpa using hx
    simp [encF] at h
    obtain ⟨rfl, rfl⟩ := h
    simp
  | k + 1, xs, hx, t, l, h => by
    obtain ⟨ys, s, rfl⟩ : ∃ ys s, xs = ys ++ [s] := ⟨xs.dropLast, xs.getLast (by intro e; simp [e] at hx), (List.dropLast_concat_getLast _).symm⟩
    have hy : ys.length = k := by simpa using hx
    rw [encF_snoc] at h
    cases e : encF N Sy Bi Ba ys with
    | none => rw [e] at h; cases h
    | some st =>
      obtain ⟨t', l'⟩ := st
      have hl := encF_even T c hc k ys hy e
      rw [e] at h
      cases f : firstU (hit Sy Bi Ba s t') N with
      | none => rw [encS_no _ _ _ _ f] at h; cases h
      | some u =>
        rw [encS_yes _ _ _ _ f] at h
        obtain ⟨v, hv, hv2, hb, hu, _⟩ := hit_put T f
        rw [hv, putL_nat _ hv2 (by omega)] at h
        simp only [Option.some.injEq, Prod.mk.injEq] at h
        obtain ⟨rfl, rfl⟩ := h
        rw [List.length_append, digits_length, hl, hc u hu, Nat.mul_succ]
theorem even_put {t : Nat} {l : List Bool} (ht : t < 2 ^ 5) (hl : l.length = 15) : (putL (t : Int) ((5 : Nat) : Int) l).length = 20 := by
  rw [bytes_len (L := 5) ht (by omega), hl]
theorem three_ints {w : World} {g : Nat} {e : TypeId} {x : Int} (h : w.heap[g]? = some (.cells #[.int .i64 x, .int .i64 x, .int .i64 x] e (0, 0))) : Ints .i64 w (some ⟨g, 0, none⟩) g 0 3 (fun _ => x) :=
  ⟨fun _ => rfl, fun i hi => by
    rw [cell_of_row _ _ _ _ _ _ h]
    have : i = 0 ∨ i = 1 ∨ i = 2 := by omega
    rcases this with rfl | rfl | rfl <;> rfl⟩

set_option maxHeartbeats 2000000 in
theorem FseEven_in (w : World) (n : Nat) (hn : n < 32) :
    Calls Try.prog 9 #[.int .i64 n] w fun e w' => e = .returned (.bool true) ∧ Below w.heap.size w w' := by
  have q0 : decide ((n : Int) < 0) = false := by simp
  have q1 : decide ((31 : Int) < (n : Int)) = false := by simp; omega
  have hmk := fun w => make32 w
  have hiso := (norm_spec _ _ _ even_ok).2.2.2
  obtain ⟨_, _, _, _, _, hsum⟩ := isOk_nat hiso
  have T := tabOk_is (L := 5) (n := 32) (by omega) (by omega) (natM (normZ evenZ 32 5)) hsum (by omega)
  obtain ⟨t, l, he, ht2, _, _⟩ := back_all (y := fun _ => (n : Int)) (ns := 3) even_ok (fun i hi => ⟨n, rfl, hn, by unfold evenZ; decide⟩)
  have hl15 := encF_even T 5 (fun u hu => (even_x u hu).1) 3 _ (backL_len _ _ _) he
  have h20 := even_put ht2 hl15
  have henc := fun w b2 b h h2 h3 => enc_yes (some ⟨b, 0, none⟩) (some ⟨b2, 0, none⟩) b 0 32 32 5 b2 0 3 3 (normZ evenZ 32 5) (fun _ => (n : Int)) w h h2 h3 (by omega) hiso
  rw [he] at henc
  have htab := fun w b h => table_yes (some ⟨b, 0, none⟩) b 0 32 32 5 (normZ evenZ 32 5) w h hiso
  have hnorm := fun w b h => norm_yes (some ⟨b, 0, none⟩) b 0 32 32 5 evenZ w h even_ok
  obtain ⟨l3, hl3⟩ : ∃ l3, putL (t : Int) ((5 : Nat) : Int) l = l3 := ⟨_, rfl⟩
  rw [hl3] at h20
  have HX := Lib.hid (fun u (hu : u < 32) => even_x u hu)
  have HENC := Lib.hid henc
  have HTAB := Lib.hid htab
  have HN := Lib.hid hnorm
  have H20 := Lib.hid h20
  have HL3 := Lib.hid hl3
  have TT := Lib.hid (Touch.new w (.cells (tabI 32 (fun _ => 0)) 3))
  have HR0 := Lib.hid (tab_rowAt (heap_alloc_new w (.cells (tabI 32 (fun _ => 0)) 3)))
  clear hiso hsum T he ht2 hl15 h20 henc htab hnorm hl3
  go_enter Try.func9, Try.ntmps9
  go_wp2_with fail
  obtain ⟨G, hG⟩ : ∃ G, w.heap.size = G := ⟨_, rfl⟩
  rw [hG] at HR0 ⊢
  have hGw : w.heap.size ≤ G := by omega
  clear hG hmk q0 q1
  go_loopw [4] (fun i wr => ∃ k : Nat, k ≤ 32 ∧ i = .int .i64 k ∧ RowAt wr G 3 32 (fun j => .int .i64 (if j < k then 5 else 0)) ∧ Touch (fun _ => False) w wr) (fun i _ => 32 - (intOf i).toNat)
  case atStart => exact ⟨0, by omega, rfl, HR0.out.congr (fun i hi => by simp), TT.out⟩
  case round =>
    obtain ⟨k, hk, rfl, hrow, ht⟩ := hrel
    by_cases hlt : k < 32
    · have f1 := RowAt.free hrow k
      have c1 := RowAt.get hrow hlt
      have hset := RowAt.set hrow k (.int .i64 5)
      have HSET := Lib.hid (hset.congr (G := fun j => .int .i64 (if j < k + 1 then 5 else 0)) (fun i hi => by
        show (if i = k then Value.int .i64 5 else Value.int .i64 (if i < k then 5 else 0)) = Value.int .i64 (if i < k + 1 then 5 else 0)
        by_cases e : i = k
        · rw [if_pos e, if_pos (by omega)]
        · rw [if_neg e]
          by_cases e2 : i < k
          · rw [if_pos e2, if_pos (by omega)]
          · rw [if_neg e2, if_neg (by omega)]))
      have hm : 32 - (intOf (Value.int .i64 ((k : Int) + 1))).toNat < 32 - (intOf (Value.int .i64 (k : Int))).toNat := meas_u hlt
      have HM := Lib.hid hm
      have fu1 := wrap_suc k (by omega)
      clear hrow hset hm
      go_wp2_with fail
      go_roundw
      case rel => exact ⟨k + 1, hlt, by first | rfl | (rw [fu1]; go_num) | go_num, HSET.out, ht.setCell (fun h => absurd h (Nat.not_lt.2 hGw)) _⟩
      case measure => first | exact HM.out | (rw [fu1]; exact HM.out)
    · obtain rfl : k = 32 := by omega
      have HI := Lib.hid (RowAt.ints (z := evenZ) (hrow.congr (fun i hi => by simp only [evenZ]; rw [if_pos hi])))
      have HT := Lib.hid ht
      clear hrow ht hlt hk HR0 TT
      go_wp2_with fail
      refine (HN.out _ _ HI.out).mono ?_
      rintro e w3 ⟨rfl, hh3, t3⟩
      have T3 := Lib.hid (HT.out.trans t3)
      have HI3 := Lib.hid (tab_ints hh3)
      obtain ⟨G3, hG3⟩ : ∃ g, wr.heap.size = g := ⟨_, rfl⟩
      rw [hG3] at HI3 ⊢
      clear t3 hh3 hG3
      go_wp2_with fail
      refine (HTAB.out _ _ HI3.out).mono ?_
      rintro e w4 ⟨g4, rfl, hg4, htab, t4⟩
      have T4 := Lib.hid (T3.out.trans t4)
      have HI4 := Lib.hid (HI3.out.touch t4)
      have HTAB4 := Lib.hid htab
      clear t4 htab
      go_wp2_with fail
      go_loopw [9] (fun i w5 => ∃ k m : Nat, k ≤ 32 ∧ i = .int .i64 k ∧ w5 = w4.drewN m) (fun i _ => 32 - (intOf i).toNat)
      case atStart => exact ⟨0, 0, by omega, rfl, rfl⟩
      case round =>
        obtain ⟨k, m, hk, rfl, rfl⟩ := hrel
        by_cases hlt : k < 32
        · have e0 : ∀ m, (w4.drewN m).cell? ⟨G3, k, none⟩ = some (.int .i64 1) := fun m => by
            have := HI4.out.cell k hlt
            rw [even_norm k hlt, Nat.zero_add] at this
            exact (Touch.eq_drewN (S := fun _ => False) w4 m).cell this id
          obtain ⟨k1, k2, k3⟩ := TabAt.get HTAB4.out hlt
          obtain ⟨x1, x2⟩ := HX.out k hlt
          simp only [x1] at k2
          simp only [x2] at k3
          have e1 : ∀ m, (w4.drewN m).cell? ⟨g4, k * 3 + 1, none⟩ = some (.int .i64 5) := fun m => (Touch.eq_drewN (S := fun _ => False) w4 m).cell k2 id
          have e2 : ∀ m, (w4.drewN m).cell? ⟨g4, k * 3 + 2, none⟩ = some (.int .i64 0) := fun m => (Touch.eq_drewN (S := fun _ => False) w4 m).cell k3 id
          have hm : 32 - (intOf (Value.int .i64 ((k : Int) + 1))).toNat < 32 - (intOf (Value.int .i64 (k : Int))).toNat := meas_u hlt
          have HM := Lib.hid hm
          have fu1 := wrap_suc k (by omega)
          clear k1 k2 k3 x1 x2 hm
          go_wp2_with fail
          go_roundw
          case rel => exact ⟨k + 1, _, hlt, by first | rfl | (rw [fu1]; go_num) | go_num, rfl⟩
          case measure => first | exact HM.out | (rw [fu1]; exact HM.out)
        · obtain rfl : k = 32 := by omega
          have tn := (Touch.eq_drewN (S := fun _ => False) w4 m).trans (Touch.new (w4.drewN m) (.cells #[.int .i64 n, .int .i64 n, .int .i64 n] 3))
          have HI5 := Lib.hid (HI4.out.touch tn)
          have HO5 := Lib.hid (three_ints (heap_alloc_new (w4.drewN m) (.cells #[.int .i64 n, .int .i64 n, .int .i64 n] 3)))
          have HLT5 := Lib.hid (show 0 < 3 → (w4.drewN m).heap.size < ((w4.drewN m).alloc (.cells #[.int .i64 n, .int .i64 n, .int .i64 n] 3)).heap.size from fun _ => by simp)
          have T5 := Lib.hid (T4.out.trans tn)
          clear tn hlt hk
          go_wp2_with fail
          refine (HENC.out _ _ _ HI5.out HO5.out HLT5.out).mono ?_
          rintro e w6 ⟨⟨g6, rfl, hg6, hh6⟩, t6⟩
          have T6 := Lib.hid (T5.out.trans t6)
          clear t6 hh6 hg6
          rw [HL3.out, H20.out]
          go_wp2_with fail
          refine (known_walk _).mono ?_
          rintro e w8 ⟨rfl, t8⟩
          go_wp2_with fail
          go_ret
          exact ⟨rfl, (T6.out.trans t8).owned⟩
theorem FseEven_law (w : World) (a0 : Int) (w0 : (Lit.int .i64 a0).wf = true) :
    Calls Try.prog 9 #[.int .i64 a0] w fun e w' => e = .returned (.bool true) ∧ Below w.heap.size w w' := by
  clear w0
  by_cases h0 : a0 < 0
  · have q0 : decide (a0 < 0) = true := by simpa using h0
    clear h0
    go_enter Try.func9, Try.ntmps9
    go_wp2_with fail
    go_ret
    exact ⟨rfl, Below.refl _ _⟩
  · by_cases h1 : 31 < a0
    · have q0 : decide (a0 < 0) = false := by simpa using h0
      have q1 : decide (31 < a0) = true := by simpa using h1
      clear h0 h1
      go_enter Try.func9, Try.ntmps9
      go_wp2_with fail
      go_ret
      exact ⟨rfl, Below.refl _ _⟩
    · obtain ⟨n, rfl⟩ := Int.eq_ofNat_of_zero_le (show 0 ≤ a0 by omega)
      exact FseEven_in w n (by omega)
end Go.Proofs.Ytaacphmbkieacaa
