/- fse: how often a symbol comes; the law FseBack. -/
import Derived.Test.YtaacphmbkieacaaFaY
namespace Go.Proofs.Ytaacphmbkieacaa
open Go.RowKit Go.WideShapes Fs
set_option linter.unusedVariables false
set_option linter.unusedSimpArgs false
set_option maxRecDepth 100000

/-- How many of the first k are s. -/
def cntZ (y : Nat → Int) : Nat → Nat → Int
  | 0 => fun _ => 0
  | k + 1 => fun s => if (s : Int) = y k then cntZ y k s + 1 else cntZ y k s
theorem cntZ_bd (y : Nat → Int) (s : Nat) : ∀ k, 0 ≤ cntZ y k s ∧ cntZ y k s ≤ k
  | 0 => ⟨Int.le_refl _, Int.le_refl _⟩
  | k + 1 => by
    have := cntZ_bd y s k
    simp only [cntZ]
    split <;> omega
theorem cntZ_pos (y : Nat → Int) (s : Nat) : ∀ k i, i < k → y i = s → 0 < cntZ y k s
  | 0, i, h, _ => by omega
  | k + 1, i, h, e => by
    simp only [cntZ]
    by_cases h2 : i < k
    · have := cntZ_pos y s k i h2 e
      split <;> omega
    · obtain rfl : i = k := by omega
      rw [if_pos e.symm]
      have := (cntZ_bd y s i).1; omega
theorem cnt_ok {y : Nat → Int} {n L m : Nat} (h5 : 5 ≤ L) (h9 : L ≤ 9) (hn : 0 < n) (hn5 : n ≤ 500) (hm : m ≤ 32) (hy : ∀ i, i < n → 0 ≤ y i ∧ y i < m) : normOk (cntZ y n) m (L : Int) = true := by
  simp only [normOk, logOk, Bool.and_eq_true, decide_eq_true_eq, all01_iff]
  refine ⟨⟨⟨⟨by omega, by omega⟩, hm⟩, fun i _ => ?_⟩, fun h0 => ?_⟩
  · have := cntZ_bd y i n; omega
  · have h1 := hy 0 hn
    have h2 := cntZ_pos y (y 0).toNat n 0 hn (by omega)
    have h3 := sumZ_one (z := cntZ y n) (n := m) (i := (y 0).toNat) (fun i _ => (cntZ_bd y i n).1) (by omega)
    omega
theorem norm_hit {c : Nat → Int} {n L s : Nat} (hok : normOk c n (L : Int) = true) (hs : s < n) (hc : 0 < c s) (t : Nat) (ht : t < 2 ^ L) : ∃ u, u < 2 ^ L ∧ hit (symU (natM (normZ c n L)) n L) (fun u => bitsU L (xU (natM (normZ c n L)) (symU (natM (normZ c n L)) n L) u)) (fun u => baseU L (xU (natM (normZ c n L)) (symU (natM (normZ c n L)) n L) u)) s t u = true := by
  obtain ⟨_, _, hp, hiso⟩ := norm_spec _ _ _ hok
  obtain ⟨h5, h9, hn32, hn0, hzm, hsum⟩ := isOk_nat hiso
  refine hit_some h5 h9 _ hsum s t hs ?_ ht
  have := (hp s hs).2 hc
  unfold natM; omega
theorem backL_rev (y : Nat → Int) (n : Nat) : (backL y n n).reverse = (List.range n).map y := by
  apply List.ext_getElem
  · simp [backL]
  · intro i h1 h2
    have hi : i < n := by simpa using h2
    simp only [backL, List.getElem_reverse, List.getElem_map, List.getElem_range, List.length_map, List.length_range]
    congr 1; omega
theorem back_getD {y : Nat → Int} {n i : Nat} (hi : i < n) (h0 : 0 ≤ y i) : (((((backL y n n).reverse.map Int.toNat).getD i 0 : Nat)) : Int) = y i := by
  rw [backL_rev]
  simp [hi]
  omega
theorem backL_mem {y : Nat → Int} {n : Nat} {s : Int} (h : s ∈ backL y n n) : ∃ i, i < n ∧ y i = s := by
  simp only [backL, List.mem_map, List.mem_range] at h
  obtain ⟨j, hj, rfl⟩ := h
  exact ⟨n - 1 - j, by omega, rfl⟩
theorem make32 (w : World) : (Instr.makeSlice 22 (.int .i64 32) (.int .i64 32)).run Try.prog w = .ok (.slice (some ⟨w.heap.size, 0, none⟩) 32 32) (w.alloc (.cells (tabI 32 (fun _ => 0)) 3)) := by
  have := make_ints 32 (by omega) w
  simpa using this
theorem tab_rowAt {w : World} {g n : Nat} {z : Nat → Int} (h : w.heap[g]? = some (.cells (tabI n z) 3 (0, 0))) : RowAt w g 3 n (fun i => .int .i64 (z i)) :=
  ⟨_, h, fun i hi => by simp [tabI, tab, hi]⟩

/-- Symbols that have a count are pressed, and read. -/
theorem back_all {c y : Nat → Int} {n L ns : Nat} (hok : normOk c n (L : Int) = true) (hy : ∀ i, i < ns → ∃ s : Nat, y i = s ∧ s < n ∧ 0 < c s) :
    ∃ t l, encF (2 ^ L) (symU (natM (normZ c n L)) n L) (fun u => bitsU L (xU (natM (normZ c n L)) (symU (natM (normZ c n L)) n L) u)) (fun u => baseU L (xU (natM (normZ c n L)) (symU (natM (normZ c n L)) n L) u)) (backL y ns ns) = some (t, l) ∧ t < 2 ^ L ∧ l.length ≤ 9 * ns ∧
      decF (symU (natM (normZ c n L)) n L) (fun u => bitsU L (xU (natM (normZ c n L)) (symU (natM (normZ c n L)) n L) u)) (fun u => baseU L (xU (natM (normZ c n L)) (symU (natM (normZ c n L)) n L) u)) L ns (putL (t : Int) (L : Int) l) = some ((backL y ns ns).reverse.map Int.toNat) := by
  have hiso := (norm_spec _ _ _ hok).2.2.2
  obtain ⟨h5, h9, hn32, hn0, hzm, hsum⟩ := isOk_nat hiso
  have T := tabOk_is h5 h9 (natM (normZ c n L)) hsum hn32
  obtain ⟨t, l, he⟩ := encF_some T (Nat.two_pow_pos L) _ (backL y ns ns) rfl (fun s hs t ht => by
    obtain ⟨i, hi, rfl⟩ := backL_mem hs
    obtain ⟨s, hs, hsn, hc⟩ := hy i hi
    rw [hs]
    exact norm_hit hok hsn hc t ht)
  obtain ⟨ht, hl⟩ := encF_bd T _ _ rfl he (Nat.two_pow_pos L)
  have hd := (decF_enc T rfl h9 he).2
  rw [backL_len] at hl hd
  exact ⟨t, l, he, ht, hl, hd⟩

set_option maxHeartbeats 2000000 in
theorem FseBack_in (w : World) (a0 : Option Addr) (b0 o0 l0 c0 : Nat) (z0 : Nat → Int) (w0 : IntsIn .i64 w a0 b0 o0 l0 c0 z0) (hl1 : 1 ≤ l0) (hl : l0 ≤ 500) (L : Nat) (h5 : 5 ≤ L) (h9 : L ≤ 9) :
    Calls Try.prog 12 #[.slice a0 l0 c0, .int .i64 L] w fun e w' => e = .returned (.bool true) ∧ Below w.heap.size w w' := by
  have q0 : decide ((l0 : Int) < 1) = false := by simp; omega
  have q1 : decide ((500 : Int) < (l0 : Int)) = false := by simp; omega
  have q2 : decide ((L : Int) < 5) = false := by simp; omega
  have q3 : decide ((9 : Int) < (L : Int)) = false := by simp; omega
  have W0 := Lib.hid (ints_of w0)
  have L0 := Lib.hid w0.lt
  have hmk := fun w => make32 w
  have hat := w0.at_ (by omega)
  have hBL := w0.lt (by omega)
  clear w0
  subst hat
  have HPOS := Lib.hid (show 0 < l0 by omega)
  have TT := Lib.hid (Touch.new w (.cells (tabI 32 (fun _ => 0)) 3))
  have HR0 := Lib.hid (tab_rowAt (heap_alloc_new w (.cells (tabI 32 (fun _ => 0)) 3)))
  go_enter Try.func12, Try.ntmps12
  go_wp2_with fail
  clear hmk q0 q1 q2 q3
  obtain ⟨G, hG⟩ : ∃ G, w.heap.size = G := ⟨_, rfl⟩
  rw [hG] at HR0 ⊢
  have hGw : w.heap.size ≤ G := by omega
  clear hG
  go_loopw [6] (fun i wr => ∃ k : Nat, k ≤ l0 ∧ i = .int .i64 k ∧ (∀ i, i < k → 0 ≤ z0 i ∧ z0 i < 32) ∧ RowAt wr G 3 32 (fun j => .int .i64 (cntZ z0 k j)) ∧ Touch (fun _ => False) w wr) (fun i _ => l0 - (intOf i).toNat)
  case atStart => exact ⟨0, by omega, rfl, fun i h => by omega, HR0.out, TT.out⟩
  case round =>
    obtain ⟨k, hk, rfl, hall, hrow, ht⟩ := hrel
    have HALL := Lib.hid hall
    have HRow := Lib.hid hrow
    clear hall hrow HR0 TT
    by_cases hlt : k < l0
    · have e1 := ht.cell (W0.out.cell k hlt) id
      obtain ⟨x, hx⟩ : ∃ x, z0 k = x := ⟨_, rfl⟩
      rw [hx] at e1
      have HX := Lib.hid hx
      have fu1 := wrap_suc k (by omega)
      have hm : l0 - (intOf (Value.int .i64 ((k : Int) + 1))).toNat < l0 - (intOf (Value.int .i64 (k : Int))).toNat := meas_u hlt
      have HM := Lib.hid hm
      clear hx hm
      by_cases hx0 : x < 0
      · have d0 : decide (x < 0) = true := by simpa using hx0
        clear hx0
        go_wp2_with fail
        go_ret
        exact ⟨rfl, ht.owned⟩
      · by_cases hx1 : 31 < x
        · have d0 : decide (x < 0) = false := by simpa using hx0
          have d1 : decide (31 < x) = true := by simpa using hx1
          clear hx0 hx1
          go_wp2_with fail
          go_ret
          exact ⟨rfl, ht.owned⟩
        · have d0 : decide (x < 0) = false := by simpa using hx0
          have d1 : decide (31 < x) = false := by simpa using hx1
          obtain ⟨s, rfl⟩ := Int.eq_ofNat_of_zero_le (show 0 ≤ x by omega)
          have hs32 : s < 32 := by omega
          have c1 := RowAt.get HRow.out hs32
          have f1 := RowAt.free HRow.out s
          have hcb := cntZ_bd z0 s k
          obtain ⟨cc, hcc⟩ : ∃ c : Nat, cntZ z0 k s = c := ⟨(cntZ z0 k s).toNat, by omega⟩
          simp only [hcc] at c1 hcb
          have fc := wrap_suc cc (by omega)
          have hset := RowAt.set HRow.out s (.int .i64 ((cc : Int) + 1))
          have HSET := Lib.hid (hset.congr (G := fun j => .int .i64 (cntZ z0 (k + 1) j)) (fun i hi => by
            simp only [cntZ]
            rw [HX.out]
            by_cases e : i = s
            · subst e; rw [if_pos rfl, if_pos rfl, hcc]
            · rw [if_neg e, if_neg (by omega)]))
          have HA2 := Lib.hid (show ∀ i, i < k + 1 → 0 ≤ z0 i ∧ z0 i < 32 from fun i hi => by
            by_cases e : i = k
            · subst e; rw [HX.out]; omega
            · exact HALL.out i (by omega))
          clear hx0 hx1 hcc hcb hset
          go_wp2_with fail
          go_roundw
          case rel => exact ⟨k + 1, hlt, by first | rfl | go_num, HA2.out, HSET.out, ht.setCell (fun h => absurd h (Nat.not_lt.2 hGw)) _⟩
          case measure => exact HM.out
    · obtain rfl : k = l0 := by omega
      have hok := cnt_ok (m := 32) h5 h9 hl1 hl (by omega) HALL.out
      have hiso := (norm_spec _ _ _ hok).2.2.2
      obtain ⟨t, l, he, ht2, hl9, hd⟩ := back_all (y := z0) (ns := k) hok (fun i hi => ⟨(z0 i).toNat, by have := HALL.out i hi; omega, by have := HALL.out i hi; omega, cntZ_pos z0 _ k i hi (by have := HALL.out i hi; omega)⟩)
      have hlen := bytes_len (l := l) ht2 h9
      have henc := fun w b h h2 h3 => enc_yes (some ⟨b, 0, none⟩) (some ⟨b0, o0, none⟩) b 0 32 32 L b0 o0 k c0 (normZ (cntZ z0 k) 32 L) z0 w h h2 h3 (by omega) hiso
      rw [he] at henc
      obtain ⟨l3, hl3⟩ : ∃ l3, putL (t : Int) (L : Int) l = l3 := ⟨_, rfl⟩
      rw [hl3] at hd hlen
      have hdec := fun w b g (h : Ints .i64 w (some ⟨b, 0, none⟩) b 0 32 (normZ (cntZ z0 k) 32 L)) (hs : Seen w (some ⟨g, 0, none⟩) g 0 (l3.length / 8 + 1) (byteAt (l3 ++ [true]))) => dec_yes (some ⟨b, 0, none⟩) (some ⟨g, 0, none⟩) b 0 32 32 g 0 (l3.length / 8 + 1) (l3.length / 8 + 1) L k (normZ (cntZ z0 k) 32 L) _ l3 w h hs (by omega) hiso (bitsIn_back l3) (by omega)
      simp only [hd] at hdec
      have hoL : ((backL z0 k k).reverse.map Int.toNat).length = k := by simp [backL]
      have hoG : ∀ i, i < k → (((((backL z0 k k).reverse.map Int.toNat).getD i 0 : Nat)) : Int) = z0 i := fun i hi => back_getD hi (HALL.out i hi).1
      obtain ⟨oo, hoo⟩ : ∃ oo, (backL z0 k k).reverse.map Int.toNat = oo := ⟨_, rfl⟩
      rw [hoo] at hdec hoL hoG
      have hnorm := fun w h => norm_yes (some ⟨G, 0, none⟩) G 0 32 32 L (cntZ z0 k) w h hok
      obtain ⟨zn, hzn⟩ : ∃ zn, normZ (cntZ z0 k) 32 L = zn := ⟨_, rfl⟩
      rw [hzn] at henc hdec hnorm hiso
      have his := fun w b h => ris_walk (some ⟨b, 0, none⟩) b 0 32 32 zn L w h (by omega)
      rw [hiso] at his
      have HENC := Lib.hid henc
      have HDEC := Lib.hid hdec
      have HL3 := Lib.hid hl3
      have HOL := Lib.hid hoL
      have HOG := Lib.hid hoG
      have HN := Lib.hid hnorm
      have HIS := Lib.hid his
      have H500 := Lib.hid hl
      have HT := Lib.hid ht
      clear hok hiso he ht2 hl9 hd hlen henc hdec hl3 hoL hoG hoo hzn hnorm his hl1 hl h5 h9 ht
      go_wp2_with fail
      refine (HN.out _ (RowAt.ints HRow.out)).mono ?_
      rintro e w3 ⟨rfl, hh3, t3⟩
      have T3 := Lib.hid (HT.out.trans t3)
      have HI3 := Lib.hid (tab_ints hh3)
      clear t3 hh3
      go_wp2_with fail
      refine (HIS.out _ _ HI3.out).mono ?_
      rintro e w4 ⟨rfl, rfl⟩
      have T4 := T3
      have HI4 := HI3
      go_wp2_with fail
      refine (HENC.out _ _ HI4.out (W0.out.touch T4.out) (fun _ => Nat.lt_of_lt_of_le hBL T4.out.size)).mono ?_
      rintro e w5 ⟨⟨g5, rfl, hg5, hh5⟩, t5⟩
      rw [HL3.out] at hh5 ⊢
      have T5 := Lib.hid (T4.out.trans t5)
      have HI5 := Lib.hid (HI4.out.touch t5)
      have HS5 := Lib.hid (bytes_seen hh5)
      clear t5 hh5
      go_wp2_with fail
      refine (HDEC.out _ _ _ HI5.out HS5.out).mono ?_
      rintro e w6 ⟨⟨ra, rb, rc, rfl, hri⟩, t6⟩
      have T6 := Lib.hid (T5.out.trans t6)
      rw [HOL.out] at hri ⊢
      have HRI := Lib.hid (hri.congr HOG.out)
      clear t6 hri
      go_wp2_with fail
      refine (same_ints ra rb 0 rc _ b0 o0 c0 k z0 _ HRI.out (W0.out.touch T6.out) (by have := H500.out; omega)).mono ?_
      rintro e w7 ⟨rfl, m, rfl⟩
      go_wp2_with fail
      refine (known_walk _).mono ?_
      rintro e w8 ⟨rfl, t8⟩
      go_wp2_with fail
      go_ret
      exact ⟨rfl, ((T6.out.drewN m).trans t8).owned⟩
theorem FseBack_law (w : World) (a0 : Option Addr) (b0 o0 l0 c0 : Nat) (z0 : Nat → Int) (w0 : IntsIn .i64 w a0 b0 o0 l0 c0 z0) (a1 : Int) (w1 : (Lit.int .i64 a1).wf = true) :
    Calls Try.prog 12 #[.slice a0 l0 c0, .int .i64 a1] w fun e w' => e = .returned (.bool true) ∧ Below w.heap.size w w' := by
  by_cases h1 : l0 < 1
  · clear w0 w1
    have q0 : decide ((l0 : Int) < 1) = true := by simp; omega
    go_enter Try.func12, Try.ntmps12
    go_wp2_with fail
    go_ret
    exact ⟨rfl, Below.refl _ _⟩
  · have q0 : decide ((l0 : Int) < 1) = false := by simp; omega
    by_cases hl : 500 < l0
    · clear w0 w1
      have q1 : decide ((500 : Int) < (l0 : Int)) = true := by simp; omega
      go_enter Try.func12, Try.ntmps12
      go_wp2_with fail
      go_ret
      exact ⟨rfl, Below.refl _ _⟩
    · have q1 : decide ((500 : Int) < (l0 : Int)) = false := by simp; omega
      by_cases h5 : a1 < 5
      · clear w0 w1
        have q2 : decide (a1 < 5) = true := by simpa using h5
        go_enter Try.func12, Try.ntmps12
        go_wp2_with fail
        go_ret
        exact ⟨rfl, Below.refl _ _⟩
      · by_cases h9 : 9 < a1
        · clear w0 w1
          have q2 : decide (a1 < 5) = false := by simpa using h5
          have q3 : decide (9 < a1) = true := by simpa using h9
          go_enter Try.func12, Try.ntmps12
          go_wp2_with fail
          go_ret
          exact ⟨rfl, Below.refl _ _⟩
        · obtain ⟨L, rfl⟩ := Int.eq_ofNat_of_zero_le (show 0 ≤ a1 by omega)
          exact FseBack_in w a0 b0 o0 l0 c0 z0 w0 (by omega) (by omega) L (by omega) (by omega)
end Go.Proofs.Ytaacphmbkieacaa
