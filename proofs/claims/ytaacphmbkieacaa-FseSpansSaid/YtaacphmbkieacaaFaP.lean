/- fse: the document's Encode. -/
import Derived.Test.YtaacphmbkieacaaFaO
namespace Go.Proofs.Ytaacphmbkieacaa
open Go.RowKit Go.WideShapes Fs
set_option linter.unusedVariables false
set_option linter.unusedSimpArgs false
set_option maxRecDepth 100000

/-- What Encode hands back. -/
def EncPost (w : World) (L : Nat) (r : Option (Nat × List Bool)) (e : Ending) (w' : World) : Prop :=
  (match r with
  | none => e = .returned (.tuple #[.slice none 0 0, .bool false])
  | some (t, l) => ∃ g, e = .returned (.tuple #[.slice (some ⟨g, 0, none⟩) ((putL (t : Int) (L : Int) l).length / 8 + 1) ((putL (t : Int) (L : Int) l).length / 8 + 1), .bool true]) ∧ w.heap.size ≤ g ∧ w'.heap[g]? = some (.cells (tab ((putL (t : Int) (L : Int) l).length / 8 + 1) (bytesF (putL (t : Int) (L : Int) l))) 5 (0, 0)))
  ∧ Touch (fun _ => False) w w'

theorem foot_not {w : World} {t e : TypeId} {b g : Nat} {v : Value} {l : List Bool} {cur : Array Value} (hw : Wr w t b v l) (h : w.heap[g]? = some (.cells cur e (0, 0))) (h1 : t ≠ e) (h2 : (4 : TypeId) ≠ e) : ¬ Foot b v g := by
  rintro (rfl | hv)
  · rw [hw.cell] at h; simp at h; exact h1 h.2
  · rcases hw.row.2 with ⟨rfl, _⟩ | ⟨g', cap, cur', rfl, _, hg, _⟩
    · cases hv
    · obtain rfl : g' = g := by simpa [Value.ownBlock] using hv
      rw [hg] at h; simp at h; exact h2 h.2
theorem foot_tab {w : World} {t : TypeId} {b g N : Nat} {v : Value} {l : List Bool} {Sy Bi : Nat → Nat} {Ba : Nat → Int} (hw : Wr w t b v l) (h : TabAt w g N Sy Bi Ba) (h1 : t ≠ 34) : ¬ Foot b v g := by
  obtain ⟨cur, hc, _⟩ := h
  exact foot_not hw hc h1 (by decide)
theorem Wr.drew {w : World} {t : TypeId} {b : Nat} {v : Value} {l : List Bool} (h : Wr w t b v l) : Wr w.drew t b v l := ⟨h.cell, h.row, h.apart⟩
theorem wr_alloc {w : World} {t : TypeId} {b : Nat} {v : Value} {l : List Bool} (h : Wr w t b v l) (o : Obj) : Wr (w.alloc o) t b v l := h.touch (Touch.new w o) id (fun _ _ => id)
theorem putL_len (v n : Int) (l : List Bool) : (putL v n l).length ≤ l.length + 24 := by
  unfold putL
  split
  · rename_i h
    obtain ⟨a, k, rfl, rfl, hk, _⟩ := putOk_yes h
    rw [List.length_append, digits_length]; simpa using hk
  · omega

theorem renc_no (a a2 : Option Addr) (b off n c ns cs : Nat) (z : Nat → Int) (log : Int) (w : World) (h : Ints .i64 w a b off n z) (hn : n ≤ 100000) (hno : isOk z n log = false) :
    Calls Try.prog 25 #[.slice a n c, .int .i64 log, .slice a2 ns cs] w fun e w' => e = .returned (.tuple #[.slice none 0 0, .bool false]) ∧ w = w' := by
  have H := Lib.hid h
  have HN := Lib.hid hno
  clear h hno
  go_enter Try.func25, Try.ntmps25
  go_wp2_with fail
  refine (rtable_no a b off n c z log _ H.out hn HN.out).mono ?_
  rintro e w1 ⟨rfl, rfl⟩
  go_wp2_with fail
  go_ret2
  exact ⟨rfl, rfl⟩

theorem sub_nat_wrap {t : Nat} {q : Int} {v : Nat} (h : (t : Int) - q = v) (hv : v ≤ 512) : wrap64 ((t : Int) - q) = v := by rw [h]; unfold wrap64; omega
theorem sub_nat_wrapi {t : Nat} {q : Int} {v : Nat} (h : (t : Int) - q = v) (hv : v ≤ 512) : IntKind.i64.wrap ((t : Int) - q) = v := by rw [h]; exact IntWalk.i64_in _ (by omega)
theorem wrap_pred {j : Nat} (h : j ≤ 100000) : wrap64 ((j : Int) - 1) = (j : Int) - 1 := by unfold wrap64; omega
theorem wrap_predi {j : Nat} (h : j ≤ 100000) : IntKind.i64.wrap ((j : Int) - 1) = (j : Int) - 1 := IntWalk.i64_in _ (by omega)

set_option maxHeartbeats 4000000 in
theorem renc_yes (a a2 : Option Addr) (b off n c L b2 off2 ns cs : Nat) (z y : Nat → Int) (w : World) (h : Ints .i64 w a b off n z) (hy : Ints .i64 w a2 b2 off2 ns y) (hns : ns ≤ 40000) (hok : isOk z n (L : Int) = true) :
    Calls Try.prog 25 #[.slice a n c, .int .i64 L, .slice a2 ns cs] w (EncPost w L (encF (2 ^ L) (symU (natM z) n L) (fun u => bitsU L (xU (natM z) (symU (natM z) n L) u)) (fun u => baseU L (xU (natM z) (symU (natM z) n L) u)) (backL y ns ns))) := by
  obtain ⟨h5, h9, hn32, hn0, hzm, hsum⟩ := isOk_nat hok
  have htb := fun w h => rtable_yes a b off n c L z w h hok
  have T := tabOk_is h5 h9 (natM z) hsum hn32
  obtain ⟨Ba, hBa⟩ : ∃ f, (fun u => baseU L (xU (natM z) (symU (natM z) n L) u)) = f := ⟨_, rfl⟩
  obtain ⟨Bi, hBi⟩ : ∃ f, (fun u => bitsU L (xU (natM z) (symU (natM z) n L) u)) = f := ⟨_, rfl⟩
  obtain ⟨Sy, hSy⟩ : ∃ f, symU (natM z) n L = f := ⟨_, rfl⟩
  rw [hBa, hBi, hSy] at htb T ⊢
  have hN0 : 0 < 2 ^ L := Nat.two_pow_pos L
  obtain ⟨N, hN⟩ : ∃ N : Nat, 2 ^ L = N := ⟨_, rfl⟩
  rw [hN] at htb T hN0 ⊢
  have hN512 := T.size
  obtain ⟨R, hR⟩ : ∃ R, encF N Sy Bi Ba (backL y ns ns) = R := ⟨_, rfl⟩
  rw [hR]
  have HR := Lib.hid hR
  have HT := Lib.hid T
  have HTB := Lib.hid htb
  have H := Lib.hid h
  have HY := Lib.hid hy
  clear hBa hBi hSy hN hR T htb h hy hok hzm hsum
  go_enter Try.func25, Try.ntmps25
  go_wp2_with fail
  refine (HTB.out _ H.out).mono ?_
  rintro e w1 ⟨g, rfl, hg, htab, t1⟩
  have T1 := Lib.hid t1
  have HTab := Lib.hid htab
  clear t1 htab
  go_wp2_with fail
  have hwr : Wr (w1.alloc (.cells #[.slice none 0 0] 63)) 63 w1.heap.size (.slice none 0 0) [] := ⟨heap_alloc_new _ _, World.ownsRow_nil _ _ _ _, by simp [Value.ownBlock]⟩
  have hsz : w.heap.size ≤ w1.heap.size := T1.out.size
  obtain ⟨B, hB⟩ : ∃ B, w1.heap.size = B := ⟨_, rfl⟩
  rw [hB] at hwr hsz
  rw [hB]
  have HWR := Lib.hid hwr
  have T2 := Lib.hid (T1.out.alloc (.cells #[.slice none 0 0] 63))
  have HTab2 := Lib.hid (RowAt.touch HTab.out (Touch.new w1 (.cells #[.slice none 0 0] 63)) id)
  clear hwr hB
  have hpre := wrap_pred (j := ns) (by omega)
  go_loopw [11, 12] (fun at_ i wr => ∃ (j t : Nat) (l : List Bool) (v : Value) (ii : Int), j ≤ ns ∧ ii = (j : Int) - 1 ∧ i = .int .i64 ii ∧ at_ = .int .i64 t ∧ encF N Sy Bi Ba (backL y ns (ns - j)) = some (t, l) ∧ Wr wr 63 B v l ∧ OwnB w.heap.size v ∧ TabAt wr g N Sy Bi Ba ∧ Touch (fun _ => False) w wr ∧ l.length ≤ 9 * (ns - j)) (fun _ i _ => (intOf i + 1).toNat)
  case atStart => exact ⟨ns, 0, [], _, _, Nat.le_refl _, rfl, by first | rfl | go_num, rfl, by simp [backL, encF], HWR.out, OwnB.nil _, HTab2.out, T2.out, by simp⟩
  case round =>
    obtain ⟨j, t, l, v, ii, hj, hii, rfl, rfl, he, hwr, hown, htab, ht, hlen⟩ := hrel
    have HE := Lib.hid he
    have HW := Lib.hid hwr
    have HTW := Lib.hid htab
    clear he hwr htab HTab HTab2 HWR hpre
    cases j with
    | zero =>
      have hneg : ii < 0 := by rw [hii]; decide
      have hnd : decide ((0 : Int) ≤ ii) = false := by simpa using hneg
      have he : R = some (t, l) := by rw [← HR.out]; exact HE.out
      subst he
      clear hii
      have hpl := putL_len (t : Int) (L : Int) l
      go_wp2_with fail
      refine (rput_walk B t L _ v l HW.out (by omega)).mono ?_
      rintro e w3 ⟨rfl, v3, hw3, t3, f3⟩
      have T3 := Lib.hid (foot_owns ht hsz hown t3)
      have HW3 := Lib.hid hw3
      clear hw3 t3 f3
      go_wp2_with fail
      refine (rbytes_walk B v3 _ _ HW3.out (by omega)).mono ?_
      rintro e w4 ⟨rfl, hh4, t4⟩
      have HH4 := Lib.hid hh4
      have hle : w.heap.size ≤ w3.heap.size := T3.out.size
      clear hh4
      go_wp2_with fail
      go_ret2
      exact ⟨⟨_, rfl, hle, HH4.out⟩, T3.out.trans t4⟩
    | succ j =>
      obtain rfl : ii = (j : Int) := by rw [hii]; push_cast; omega
      obtain rfl := HY.out.at_ (by omega)
      have e1 := ht.cell (HY.out.cell j (by omega)) id
      obtain ⟨s, hs⟩ : ∃ s, y j = s := ⟨_, rfl⟩
      rw [hs] at e1
      have hbk : backL y ns (ns - j) = backL y ns (ns - (j + 1)) ++ [s] := by
        rw [show ns - j = (ns - (j + 1)) + 1 by omega, backL_succ, show ns - 1 - (ns - (j + 1)) = j by omega, hs]
      have hst : encF N Sy Bi Ba (backL y ns (ns - j)) = encS N Sy Bi Ba (some (t, l)) s := by rw [hbk, encF_snoc, HE.out]
      have HST := Lib.hid hst
      have hpre := wrap_pred (j := j) (by omega)
      have hm : ((intOf (Value.int .i64 ((j : Int) - 1))) + 1).toNat < ((intOf (Value.int .i64 (j : Int))) + 1).toNat := by simp [intOf]
      have HM := Lib.hid hm
      have hlt : j < ns := by omega
      have hjn : j ≤ ns := by omega
      have hl9 : l.length + 9 ≤ 9 * (ns - j) := by omega
      have hl900 : l.length ≤ 900000 := by omega
      clear hii hbk hst hs hm hlen hj
      cases hf : firstU (hit Sy Bi Ba s t) N with
      | none =>
        have hfi := firstI_none hf
        have hR2 : R = none := by
          rw [← HR.out]
          exact backL_no N Sy Bi Ba (k := ns - j) (by rw [HST.out, encS_no _ _ _ _ hf]) (by omega)
        subst hR2
        clear hf
        go_wp2_with fail
        refine (find_walk g N N Sy Bi Ba s t _ HT.out HTW.out).mono ?_
        rintro e w2 ⟨rfl, m, rfl⟩
        rw [hfi]
        go_wp2_with fail
        go_ret2
        exact ⟨rfl, ht.drewN _⟩
      | some u =>
        have hfi := firstI_some hf
        have hst2 := HST.out
        rw [encS_yes _ _ _ _ hf] at hst2
        obtain ⟨x, hx, hx2, hb9, hu, _⟩ := hit_put HT.out hf
        have hxl : x ≤ 512 := Nat.le_trans (Nat.le_of_lt hx2) (pow_small hb9)
        rw [hx, putL_nat _ hx2 (by omega)] at hst2
        obtain ⟨k1, k2, k3⟩ := TabAt.get HTW.out hu
        have hpx : putL (x : Int) (Bi u : Int) l = l ++ Go.Proofs.Ytaacphmbkieacaa.digits x (Bi u) := putL_nat _ hx2 (by omega)
        obtain ⟨q, hq⟩ : ∃ q, Ba u = q := ⟨_, rfl⟩
        obtain ⟨bb, hbb⟩ : ∃ q, Bi u = q := ⟨_, rfl⟩
        rw [hq] at k3 hx
        rw [hbb] at k2 hst2 hpx hb9
        have e2 : ∀ m, (wr.drewN m).cell? ⟨g, u * 3 + 1, none⟩ = some (.int .i64 bb) := fun m => (Touch.eq_drewN (S := fun _ => False) wr m).cell k2 id
        have e3 : ∀ m, (wr.drewN m).cell? ⟨g, u * 3 + 2, none⟩ = some (.int .i64 q) := fun m => (Touch.eq_drewN (S := fun _ => False) wr m).cell k3 id
        have fx := sub_nat_wrap hx hxl
        have fxi := sub_nat_wrapi hx hxl
        have HS2 := Lib.hid hst2
        have HPX := Lib.hid hpx
        have hll : (l ++ Go.Proofs.Ytaacphmbkieacaa.digits x bb).length ≤ 9 * (ns - j) := by rw [List.length_append, digits_length]; omega
        have HLL := Lib.hid hll
        have HF := Lib.hid hf
        have hu512 : u ≤ 100000 := by omega
        clear hf hst2 hpx hx hx2 hq hbb hxl k1 k2 k3 hb9 hll
        go_wp2_with fail
        refine (find_walk g N N Sy Bi Ba s t _ HT.out HTW.out).mono ?_
        rintro e w2 ⟨rfl, m, rfl⟩
        rw [hfi]
        have HW2 := Lib.hid (HW.out.drewN m)
        have HTW2 := Lib.hid (RowAt.drewNI HTW.out m)
        have ht2 := ht.drewN m
        have f2 := e2 m
        have f3 := e3 m
        clear e1 hfi
        have HFN := Lib.hid (foot_tab HW2.out HTW2.out (by decide))
        go_wp2_with fail
        go_region_held3 (fun wx => wx.cell? ⟨g, u * 3 + 2, none⟩ = some (.int .i64 q) ∧ wx.cell? ⟨g, u * 3 + 1, none⟩ = some (.int .i64 bb)) (first | exact ⟨f3, f2⟩ | exact ⟨t4.cell f3 HFN.out, t4.cell f2 HFN.out⟩) (first | (go_at_call 45; refine (rput_walk B x bb _ v l (HW2.out.drew) hl900).mono ?_; rintro e w4 ⟨rfl, v4, hw4, t4, g4⟩))
        rw [HPX.out] at hw4
        have HW4 := Lib.hid hw4
        have T4 := Lib.hid (foot_owns ht2.drew hsz hown t4)
        have o4 := hown.fresh g4 ht2.size
        have HTW4 := Lib.hid (RowAt.touch (RowAt.drewI HTW2.out) t4 HFN.out)
        clear hw4 t4 g4
        go_wp2_with fail
        go_roundw
        case rel => exact ⟨j, u, _, v4, _, hjn, rfl, by first | rfl | go_num, rfl, HS2.out, HW4.out, o4, HTW4.out, T4.out, HLL.out⟩
        case measure => exact HM.out
end Go.Proofs.Ytaacphmbkieacaa
