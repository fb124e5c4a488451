/- fse: the law FseAlone. -/
import Derived.Test.YtaacphmbkieacaaFaZ
namespace Go.Proofs.Ytaacphmbkieacaa
open Go.RowKit Go.WideShapes Fs
set_option linter.unusedVariables false
set_option linter.unusedSimpArgs false
set_option maxRecDepth 100000

def aloneZ (s : Nat) (i : Nat) : Int := if i = s then 7 else 0
theorem alone_ok {s L : Nat} (hs : s < 32) (h5 : 5 ≤ L) (h9 : L ≤ 9) : normOk (aloneZ s) 32 (L : Int) = true := by
  simp only [normOk, logOk, Bool.and_eq_true, decide_eq_true_eq, all01_iff]
  refine ⟨⟨⟨⟨by omega, by omega⟩, by omega⟩, fun i _ => ?_⟩, fun h0 => ?_⟩
  · unfold aloneZ; split <;> omega
  · have h3 := sumZ_one (z := aloneZ s) (n := 32) (i := s) (fun i _ => by unfold aloneZ; split <;> omega) hs
    rw [h0] at h3
    simp [aloneZ] at h3
theorem alone_m {s L : Nat} (hs : s < 32) (h5 : 5 ≤ L) (h9 : L ≤ 9) (i : Nat) (hi : i < 32) (h : 0 < natM (normZ (aloneZ s) 32 L) i) : i = s := by
  have hp := ((norm_spec _ _ _ (alone_ok hs h5 h9)).2.2.1 i hi).1 (by unfold natM at h; omega)
  unfold aloneZ at hp
  split at hp
  · assumption
  · omega
section
variable {s L : Nat} (hs : s < 32) (h5 : 5 ≤ L) (h9 : L ≤ 9)
include hs h5 h9
theorem alone_sy (u : Nat) (hu : u < 2 ^ L) : symU (natM (normZ (aloneZ s) 32 L)) 32 L u = s := by
  obtain ⟨_, _, _, _, _, hsum⟩ := isOk_nat (norm_spec _ _ _ (alone_ok hs h5 h9)).2.2.2
  obtain ⟨a, b⟩ := symU_lt h5 h9 _ hsum u hu
  exact alone_m hs h5 h9 _ a b
theorem alone_x (u : Nat) (hu : u < 2 ^ L) : xU (natM (normZ (aloneZ s) 32 L)) (symU (natM (normZ (aloneZ s) 32 L)) 32 L) u = 2 ^ L + u := by
  obtain ⟨_, _, _, _, _, hsum⟩ := isOk_nat (norm_spec _ _ _ (alone_ok hs h5 h9)).2.2.2
  have hocc : ∀ i, i ≤ 2 ^ L → occ (symU (natM (normZ (aloneZ s) 32 L)) 32 L) s i = i := fun i hi => by
    unfold occ
    rw [sumN_congr (g := fun _ => 1) (fun v hv => if_pos (alone_sy hs h5 h9 v (by omega))), sumN_const]; omega
  have hm := symU_occ h5 h9 _ hsum s hs
  rw [hocc _ (Nat.le_refl _)] at hm
  rw [xU_is, alone_sy hs h5 h9 u hu, hocc u (by omega), ← hm]
theorem alone_hit (t u : Nat) (hu : u < 2 ^ L) (s' : Int) : hit (symU (natM (normZ (aloneZ s) 32 L)) 32 L) (fun u => bitsU L (xU (natM (normZ (aloneZ s) 32 L)) (symU (natM (normZ (aloneZ s) 32 L)) 32 L) u)) (fun u => baseU L (xU (natM (normZ (aloneZ s) 32 L)) (symU (natM (normZ (aloneZ s) 32 L)) 32 L) u)) s' t u = true ↔ s' = s ∧ u = t := by
  rw [hit_yes]
  rw [alone_sy hs h5 h9 u hu, alone_x hs h5 h9 u hu]
  have hb : blen (2 ^ L + u) = L + 1 := blen_is (by omega) (by rw [Nat.pow_succ]; omega)
  have h0 : bitsU L (2 ^ L + u) = 0 := by unfold bitsU; rw [hb]; omega
  unfold baseU
  rw [h0]
  constructor
  · rintro ⟨a, b, c⟩; exact ⟨a.symm, by omega⟩
  · rintro ⟨a, b⟩; exact ⟨a.symm, by omega, by omega⟩
theorem alone_enc : ∀ (k : Nat) (xs : List Int), xs.length = k → (∀ x, x ∈ xs → x = s) → encF (2 ^ L) (symU (natM (normZ (aloneZ s) 32 L)) 32 L) (fun u => bitsU L (xU (natM (normZ (aloneZ s) 32 L)) (symU (natM (normZ (aloneZ s) 32 L)) 32 L) u)) (fun u => baseU L (xU (natM (normZ (aloneZ s) 32 L)) (symU (natM (normZ (aloneZ s) 32 L)) 32 L) u)) xs = some (0, [])
  | 0, xs, hx, _ => by
    obtain rfl : xs = [] := by simpa using hx
    rfl
  | k + 1, xs, hx, h => by
    obtain ⟨ys, x, rfl⟩ : ∃ ys s, xs = ys ++ [s] := ⟨xs.dropLast, xs.getLast (by intro e; simp [e] at hx), (List.dropLast_concat_getLast _).symm⟩
    have hp := Nat.two_pow_pos L
    rw [encF_snoc, alone_enc k ys (by simpa using hx) (fun x hx => h x (by simp [hx]))]
    obtain rfl : x = (s : Int) := h x (by simp)
    obtain ⟨v, hv⟩ := firstU_some ((alone_hit hs h5 h9 0 0 hp s).2 ⟨rfl, rfl⟩) hp
    obtain ⟨hv1, hv2⟩ := firstU_spec hv
    obtain rfl := ((alone_hit hs h5 h9 0 v hv1 s).1 hv2).2
    rw [encS_yes _ _ _ _ hv]
    have hb : blen (2 ^ L + 0) = L + 1 := blen_is (by omega) (by rw [Nat.pow_succ]; omega)
    have h0 : bitsU L (2 ^ L + 0) = 0 := by unfold bitsU; rw [hb]; omega
    simp only [alone_x hs h5 h9 0 hp]
    unfold baseU
    rw [h0]
    congr 2
    rw [show (((0 : Nat) : Int) - ((((2 ^ L + 0) * 2 ^ 0 : Nat) : Int) - ((2 ^ L : Nat) : Int))) = ((0 : Nat) : Int) by simp]
    rfl
theorem alone_odd (x : Int) (hx : x ≠ s) : encF (2 ^ L) (symU (natM (normZ (aloneZ s) 32 L)) 32 L) (fun u => bitsU L (xU (natM (normZ (aloneZ s) 32 L)) (symU (natM (normZ (aloneZ s) 32 L)) 32 L) u)) (fun u => baseU L (xU (natM (normZ (aloneZ s) 32 L)) (symU (natM (normZ (aloneZ s) 32 L)) 32 L) u)) [x] = none := by
  show encS _ _ _ _ (some (0, [])) x = none
  refine encS_no _ _ _ _ (firstU_none fun i hi => ?_)
  cases hh : hit (symU (natM (normZ (aloneZ s) 32 L)) 32 L) (fun u => bitsU L (xU (natM (normZ (aloneZ s) 32 L)) (symU (natM (normZ (aloneZ s) 32 L)) 32 L) u)) (fun u => baseU L (xU (natM (normZ (aloneZ s) 32 L)) (symU (natM (normZ (aloneZ s) 32 L)) 32 L) u)) x 0 i with
  | false => rfl
  | true => exact absurd ((alone_hit hs h5 h9 0 i hi x).1 hh).1 hx
end
theorem one_ints {w : World} {g : Nat} {e : TypeId} {x : Int} {z : Nat → Int} (h : w.heap[g]? = some (.cells #[.int .i64 x] e (0, 0))) (h0 : x = z 0) : Ints .i64 w (some ⟨g, 0, none⟩) g 0 1 z :=
  ⟨fun _ => rfl, fun i hi => by
    rw [cell_of_row _ _ _ _ _ _ h]
    obtain rfl : i = 0 := by omega
    rw [← h0]; rfl⟩
theorem ints_lt {k : IntKind} {w : World} {a : Option Addr} {b off n : Nat} {z : Nat → Int} (h : Ints k w a b off n z) (hn : 0 < n) : b < w.heap.size := by
  have := h.cell 0 hn
  exact World.block_lt_of_cell? w _ this

theorem backL_const (x : Int) (k : Nat) : ∀ y, y ∈ backL (fun _ => x) k k → y = x := fun y hy => by
  obtain ⟨i, _, e⟩ := backL_mem hy
  exact e.symm

theorem alone_row (w : World) (s : Nat) (hs : s < 32) : RowAt (w.alloc (.cells ((tabI 32 (fun _ => 0)).setIfInBounds s (.int .i64 7)) 3)) w.heap.size 3 32 (fun j => .int .i64 (aloneZ s j)) :=
  ⟨_, heap_alloc_new _ _, fun i hi => by
    rw [Array.getElem?_setIfInBounds]
    show _ = some (Value.int .i64 (aloneZ s i))
    unfold aloneZ
    by_cases e : s = i
    · subst e; rw [if_pos rfl, if_pos rfl, if_pos (by simp [tabI, tab]; omega)]
    · rw [if_neg e, if_neg (fun h => e h.symm)]; simp [tabI, tab, hi]⟩
theorem app_k {k nn : Nat} (hk : k < nn) (hnn : nn ≤ 300) : k + 1 ≤ maxLen ∧ (k + 1) * 8 ≤ 140737488355328 := by unfold maxLen; omega
theorem k_small {k nn : Nat} (hk : k < nn) (hnn : nn ≤ 300) : k ≤ 100000 := by omega
set_option maxHeartbeats 2000000 in
theorem FseAlone_in (w : World) (s L many : Nat) (hs : s < 32) (h5 : 5 ≤ L) (h9 : L ≤ 9) (hm : many ≤ 300) :
    Calls Try.prog 13 #[.int .i64 s, .int .i64 L, .int .i64 many] w fun e w' => e = .returned (.bool true) ∧ Below w.heap.size w w' := by
  have q0 : decide ((s : Int) < 0) = false := by simp
  have q1 : decide ((31 : Int) < (s : Int)) = false := by simp; omega
  have q2 : decide ((L : Int) < 5) = false := by simp; omega
  have q3 : decide ((9 : Int) < (L : Int)) = false := by simp; omega
  have q4 : decide ((many : Int) < 0) = false := by simp
  have q5 : decide ((300 : Int) < (many : Int)) = false := by simp; omega
  have hmk := fun w => make32 w
  have hok := alone_ok hs h5 h9
  have hiso := (norm_spec _ _ _ hok).2.2.2
  obtain ⟨_, _, _, _, _, hsum⟩ := isOk_nat hiso
  have T := tabOk_is h5 h9 (natM (normZ (aloneZ s) 32 L)) hsum (by omega)
  have hE := alone_enc hs h5 h9 _ (backL (fun _ => (s : Int)) many many) rfl (backL_const _ _)
  obtain ⟨sp, hsp⟩ : ∃ sp, (s + 1) % 32 = sp := ⟨_, rfl⟩
  have hspI : ((s : Int) + 1) % 32 = (sp : Int) := by omega
  have hO := alone_odd hs h5 h9 (sp : Int) (by omega)
  have henc := fun w a2 b2 c2 b h h2 h3 => enc_yes (some ⟨b, 0, none⟩) a2 b 0 32 32 L b2 0 many c2 (normZ (aloneZ s) 32 L) (fun _ => (s : Int)) w h h2 h3 (by omega) hiso
  rw [hE] at henc
  have henc2 := fun w b2 b h h2 h3 => enc_yes (some ⟨b, 0, none⟩) (some ⟨b2, 0, none⟩) b 0 32 32 L b2 0 1 1 (normZ (aloneZ s) 32 L) (fun _ => (sp : Int)) w h h2 h3 (by omega) hiso
  rw [show backL (fun _ => (sp : Int)) 1 1 = [(sp : Int)] from rfl, hO] at henc2
  have hdf := (decF_enc T rfl h9 hE).2
  have hlen := bytes_len (l := []) (t := 0) (L := L) (Nat.two_pow_pos _) h9
  rw [backL_len] at hdf
  obtain ⟨l3, hl3⟩ : ∃ l3, putL ((0 : Nat) : Int) (L : Int) [] = l3 := ⟨_, rfl⟩
  rw [hl3] at hdf hlen
  simp only [List.length_nil, Nat.zero_add] at hlen
  have hdec := fun w b g (h : Ints .i64 w (some ⟨b, 0, none⟩) b 0 32 (normZ (aloneZ s) 32 L)) (hs : Seen w (some ⟨g, 0, none⟩) g 0 (l3.length / 8 + 1) (byteAt (l3 ++ [true]))) => dec_yes (some ⟨b, 0, none⟩) (some ⟨g, 0, none⟩) b 0 32 32 g 0 (l3.length / 8 + 1) (l3.length / 8 + 1) L many (normZ (aloneZ s) 32 L) _ l3 w h hs (by omega) hiso (bitsIn_back l3) (by omega)
  simp only [hdf] at hdec
  have hoL : ((backL (fun _ => (s : Int)) many many).reverse.map Int.toNat).length = many := by simp [backL]
  have hoG : ∀ i, i < many → (((((backL (fun _ => (s : Int)) many many).reverse.map Int.toNat).getD i 0 : Nat)) : Int) = s := fun i hi => back_getD (y := fun _ => (s : Int)) hi (by omega)
  obtain ⟨oo, hoo⟩ : ∃ oo, (backL (fun _ => (s : Int)) many many).reverse.map Int.toNat = oo := ⟨_, rfl⟩
  rw [hoo] at hdec hoL hoG
  have hnorm := fun w b h => norm_yes (some ⟨b, 0, none⟩) b 0 32 32 L (aloneZ s) w h hok
  obtain ⟨zn, hzn⟩ : ∃ zn, normZ (aloneZ s) 32 L = zn := ⟨_, rfl⟩
  rw [hzn] at henc henc2 hdec hnorm
  have HENC := Lib.hid henc
  have HENC2 := Lib.hid henc2
  have HDEC := Lib.hid hdec
  have HL3 := Lib.hid hl3
  have HOL := Lib.hid hoL
  have HOG := Lib.hid hoG
  have HN := Lib.hid hnorm
  have HLEN := Lib.hid hlen
  obtain ⟨K, hK⟩ : ∃ K, L / 8 + 1 = K := ⟨_, rfl⟩
  have hKq : (L : Int) / 8 + 1 = (K : Int) := by omega
  have HK := Lib.hid hK
  have fs := wrap_suc s (by omega)
  have r0 := tab_rowAt (heap_alloc_new w (.cells (tabI 32 (fun _ => 0)) 3))
  have c0 := RowAt.get r0 hs
  have f0 := RowAt.free r0 s
  have HSET := Lib.hid (alone_row w s hs)
  have T1 := Lib.hid (Touch.new w (.cells ((tabI 32 (fun _ => 0)).setIfInBounds s (.int .i64 7)) 3))
  obtain ⟨i0, hi, hz0, hz1, hz2⟩ := info_parts Try.info3
  have HM3 := Lib.hid hm
  clear hok hiso hsum T hE hO henc henc2 hdf hlen hl3 hdec hoL hoG hoo hnorm hzn hK r0 hsp
  go_enter Try.func13, Try.ntmps13
  go_wp2_with fail
  refine (HN.out _ _ (RowAt.ints HSET.out)).mono ?_
  rintro e w3 ⟨rfl, hh3, t3⟩
  have T3 := Lib.hid (T1.out.trans t3)
  have HI3 := Lib.hid (tab_ints hh3)
  obtain ⟨G, hG⟩ : ∃ G, (w.alloc (.cells ((tabI 32 (fun _ => 0)).setIfInBounds s (.int .i64 7)) 3)).heap.size = G := ⟨_, rfl⟩
  rw [hG] at HI3 ⊢
  have HKQ := Lib.hid hKq
  have HSP := Lib.hid hspI
  have HFS := Lib.hid fs
  clear t3 hh3 hG hmk c0 f0 hKq hspI fs q0 q1 q2 q3 q4 q5 hs h5 h9 hm
  go_wp2_with fail
  go_loopw [10, 11] (fun out_ i wr => ∃ (k : Nat) (vo : Value), k ≤ many ∧ i = .int .i64 k ∧ out_ = vo ∧ wr.ownsRow 0 3 1 vo k (cellsZ .i64 (fun _ => (s : Int)) k) ∧ OwnB w.heap.size vo ∧ (∀ k, vo.ownBlock = some k → w3.heap.size ≤ k) ∧ Touch (fun _ => False) w3 wr) (fun _ i _ => many - (intOf i).toNat)
  case atStart => exact ⟨0, _, by omega, rfl, rfl, World.ownsRow_nil _ _ _ _, OwnB.nil _, OwnB.nil _, Touch.refl _ _⟩
  case round =>
    obtain ⟨k, vo, hk, rfl, rfl, hrow, hown, hown3, ht⟩ := hrel
    have HRow := Lib.hid hrow
    clear hrow
    by_cases hlt : k < many
    · have HAP := Lib.hid (app_k hlt HM3.out)
      have fu1 := wrap_suc k (k_small hlt HM3.out)
      have hmm : many - (intOf (Value.int .i64 ((k : Int) + 1))).toNat < many - (intOf (Value.int .i64 (k : Int))).toNat := meas_u hlt
      have HM := Lib.hid hmm
      clear hmm
      go_wp2_with (refine wpList_append_mine rfl (.tmp 55) (.tmp 57) 22 22 rfl 3 i0 (.int .i64 0) 1 8 Try.underlying22 hi hz0 hz1 hz2 rfl u10 _ _ rfl ((Touch.new wr (.cells #[.int .i64 s] 3)).row HRow.out (fun _ _ => id)) (.slice (some ⟨wr.heap.size, 0, none⟩) 1 1) 1 [.int .i64 s] rfl (src_one wr Try.underlying22 _ rfl _ rfl) HAP.out.1 HAP.out.2 ?_; intro a6 c6 w6 hown6 ht6 hf6 _)
      have tn := Touch.new wr (.cells #[.int .i64 s] 3)
      have t6 := own_app (ht.trans tn) hown3 ht6
      have o6 := hown.fresh hf6 (Nat.le_trans T3.out.size (ht.trans tn).size)
      have o63 := OwnB.fresh (n := w3.heap.size) hown3 hf6 (ht.trans tn).size
      have HR6 := Lib.hid (show w6.ownsRow 0 3 1 (.slice a6 (k + 1) c6) (k + 1) (cellsZ .i64 (fun _ => (s : Int)) (k + 1)) by rw [cellsZ_succ]; exact hown6)
      clear hown6 ht6 hf6 tn
      go_roundw
      case rel => exact ⟨k + 1, _, hlt, by first | rfl | (rw [fu1]; go_num) | go_num, rfl, HR6.out, o6, o63, t6⟩
      case measure => first | exact HM.out | (rw [fu1]; exact HM.out)
    · obtain rfl : k = many := by omega
      have HI4 := Lib.hid (HI3.out.touch ht)
      have T4 := Lib.hid (T3.out.trans ht)
      obtain ⟨xa, xb, xc, hxv, hx⟩ := ints_row HRow.out
      subst hxv
      have HX := Lib.hid hx
      have HXL := Lib.hid (fun (h : 0 < k) => ints_lt hx h)
      have hKq := HKQ.out
      have hspI := HSP.out
      have fs := HFS.out
      clear hx hlt ht
      go_wp2_with fail
      refine (HENC.out _ xa xb xc _ HI4.out HX.out HXL.out).mono ?_
      rintro e w5 ⟨⟨g5, rfl, hg5, hh5⟩, t5⟩
      rw [HL3.out] at hh5 ⊢
      have T5 := Lib.hid (T4.out.trans t5)
      have HI5 := Lib.hid (HI4.out.touch t5)
      have HX5 := Lib.hid (HX.out.touch t5)
      have HS5 := Lib.hid (bytes_seen hh5)
      clear t5 hh5
      go_wp2_with fail
      refine (HDEC.out _ _ _ HI5.out HS5.out).mono ?_
      rintro e w6 ⟨⟨ra, rb, rc, rfl, hri⟩, t6⟩
      have T6 := Lib.hid (T5.out.trans t6)
      have HI6 := Lib.hid (HI5.out.touch t6)
      have HX6 := Lib.hid (HX5.out.touch t6)
      rw [HOL.out] at hri ⊢
      have HRI := Lib.hid (hri.congr (y := fun _ => (s : Int)) HOG.out)
      have tn := Touch.new w6 (.cells #[.int .i64 sp] 3)
      have HI7 := Lib.hid (HI6.out.touch tn)
      have HO7 := Lib.hid (one_ints (z := fun _ => (sp : Int)) (heap_alloc_new w6 (.cells #[.int .i64 sp] 3)) rfl)
      have HLT7 := Lib.hid (show 0 < 1 → w6.heap.size < (w6.alloc (.cells #[.int .i64 sp] 3)).heap.size from fun _ => by simp)
      have T7 := Lib.hid (T6.out.trans tn)
      have HX7 := Lib.hid (HX6.out.touch tn)
      have HRI7 := Lib.hid (HRI.out.touch tn)
      clear t6 hri tn
      go_wp2_with fail
      refine (HENC2.out _ _ _ HI7.out HO7.out HLT7.out).mono ?_
      rintro e w8 ⟨rfl, t8⟩
      have T8 := Lib.hid (T7.out.trans t8)
      have HX8 := Lib.hid (HX7.out.touch t8)
      have HRI8 := Lib.hid (HRI7.out.touch t8)
      clear t8
      rw [HLEN.out, HK.out]
      go_wp2_with fail
      refine (same_ints ra rb 0 rc xa xb 0 xc k (fun _ => (s : Int)) _ HRI8.out HX8.out (by have := HM3.out; omega)).mono ?_
      rintro e w9 ⟨rfl, m, rfl⟩
      go_wp2_with fail
      refine (known_walk _).mono ?_
      rintro e w10 ⟨rfl, t10⟩
      go_wp2_with fail
      go_ret
      exact ⟨rfl, ((T8.out.drewN m).trans t10).owned⟩
theorem FseAlone_law (w : World) (a0 : Int) (w0 : (Lit.int .i64 a0).wf = true) (a1 : Int) (w1 : (Lit.int .i64 a1).wf = true) (a2 : Int) (w2 : (Lit.int .i64 a2).wf = true) :
    Calls Try.prog 13 #[.int .i64 a0, .int .i64 a1, .int .i64 a2] w fun e w' => e = .returned (.bool true) ∧ Below w.heap.size w w' := by
  clear w0 w1 w2
  have hout : (a0 < 0 ∨ 31 < a0 ∨ a1 < 5 ∨ 9 < a1 ∨ a2 < 0 ∨ 300 < a2) → Calls Try.prog 13 #[.int .i64 a0, .int .i64 a1, .int .i64 a2] w fun e w' => e = .returned (.bool true) ∧ Below w.heap.size w w' := by
    intro h
    by_cases h0 : a0 < 0
    · have q0 : decide (a0 < 0) = true := by simpa using h0
      clear h h0
      go_enter Try.func13, Try.ntmps13
      go_wp2_with fail
      go_ret
      exact ⟨rfl, Below.refl _ _⟩
    · have q0 : decide (a0 < 0) = false := by simpa using h0
      by_cases h1 : 31 < a0
      · have q1 : decide (31 < a0) = true := by simpa using h1
        clear h h0 h1
        go_enter Try.func13, Try.ntmps13
        go_wp2_with fail
        go_ret
        exact ⟨rfl, Below.refl _ _⟩
      · have q1 : decide (31 < a0) = false := by simpa using h1
        by_cases h2 : a1 < 5
        · have q2 : decide (a1 < 5) = true := by simpa using h2
          clear h h0 h1 h2
          go_enter Try.func13, Try.ntmps13
          go_wp2_with fail
          go_ret
          exact ⟨rfl, Below.refl _ _⟩
        · have q2 : decide (a1 < 5) = false := by simpa using h2
          by_cases h3 : 9 < a1
          · have q3 : decide (9 < a1) = true := by simpa using h3
            clear h h0 h1 h2 h3
            go_enter Try.func13, Try.ntmps13
            go_wp2_with fail
            go_ret
            exact ⟨rfl, Below.refl _ _⟩
          · have q3 : decide (9 < a1) = false := by simpa using h3
            by_cases h4 : a2 < 0
            · have q4 : decide (a2 < 0) = true := by simpa using h4
              clear h h0 h1 h2 h3 h4
              go_enter Try.func13, Try.ntmps13
              go_wp2_with fail
              go_ret
              exact ⟨rfl, Below.refl _ _⟩
            · have q4 : decide (a2 < 0) = false := by simpa using h4
              have q5 : decide (300 < a2) = true := by simp; omega
              clear h h0 h1 h2 h3 h4
              go_enter Try.func13, Try.ntmps13
              go_wp2_with fail
              go_ret
              exact ⟨rfl, Below.refl _ _⟩
  by_cases h : a0 < 0 ∨ 31 < a0 ∨ a1 < 5 ∨ 9 < a1 ∨ a2 < 0 ∨ 300 < a2
  · exact hout h
  · obtain ⟨s, rfl⟩ := Int.eq_ofNat_of_zero_le (show 0 ≤ a0 by omega)
    obtain ⟨L, rfl⟩ := Int.eq_ofNat_of_zero_le (show 0 ≤ a1 by omega)
    obtain ⟨m, rfl⟩ := Int.eq_ofNat_of_zero_le (show 0 ≤ a2 by omega)
    exact FseAlone_in w s L m (by omega) (by omega) (by omega) (by omega)
end Go.Proofs.Ytaacphmbkieacaa
