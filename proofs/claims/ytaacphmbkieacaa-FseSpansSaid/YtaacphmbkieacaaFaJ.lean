/- fse: Table. -/
import Derived.Test.YtaacphmbkieacaaFaI
namespace Go.Proofs.Ytaacphmbkieacaa
open Go.RowKit Go.WideShapes Fs
set_option linter.unusedVariables false
set_option linter.unusedSimpArgs false
set_option maxRecDepth 100000

theorem wrap_sub_small (y S : Nat) (h : y ≤ 2 * S) (h2 : S ≤ 2 ^ 9) : wrap64 ((y : Int) - S) = y - S := by unfold wrap64; omega
theorem bits_64 {L bl B : Nat} (h : B = L + 1 - bl) (h9 : L ≤ 9) : (B : Int) ≤ 64 := by omega
theorem wrapU (x : Nat) (hx : x ≤ 1000000) : IntKind.u64.wrap (x : Int) = x := by rw [IntKind.wrap_u64]; omega
theorem blen_walk (x : Nat) (h0 : 0 < x) (hx : x ≤ 100000) (w : World) : Calls Try.prog 36 #[.int .u64 x] w fun e w' => e = .returned (.int .i64 (blen x : Nat)) ∧ w = w' := by
  have h1 : (x : Int) ≤ 100000 := by omega
  have h := Try.bits_Len (x : Int) w (Int.natCast_nonneg _) (Int.le_trans h1 (by decide))
  have h2 : x < 2 ^ 64 := Nat.lt_of_lt_of_le (show x < 2 ^ 17 by omega) (Nat.pow_le_pow_right (by decide) (by decide))
  rw [Int.toNat_natCast, bitLen_is x (Nat.ne_of_gt h0) h2] at h
  have e : Nat.log2 x + 1 = blen x := by unfold blen; rw [if_neg (Nat.ne_of_gt h0)]
  rw [e] at h
  exact h.mono fun e w' ⟨a, b⟩ => ⟨a, b.symm⟩

theorem small_x {x S : Nat} (h : x < 2 * S) (hS : S ≤ 2 ^ 9) : x ≤ 100000 := by omega
theorem fB_is {L bl B : Nat} (h : B = L + 1 - bl) (h2 : bl ≤ L + 1) : (L : Int) - (bl : Int) + 1 = (B : Nat) := by omega
theorem table_no (a : Option Addr) (b off n c : Nat) (z : Nat → Int) (log : Int) (w : World) (h : Ints .i64 w a b off n z) (hn : n ≤ 100000) (hno : isOk z n log = false) :
    Calls Try.prog 21 #[.slice a n c, .int .i64 log] w fun e w' => e = .returned (.tuple #[.slice none 0 0, .bool false]) ∧ Touch (fun _ => False) w w' := by
  have H := Lib.hid h
  have HN := Lib.hid hno
  clear h hno
  go_enter Try.func21, Try.ntmps21
  go_wp2_with fail
  refine (is_walk a b off n c z log _ H.out hn).mono ?_
  rintro e w1 ⟨rfl, t1⟩
  rw [HN.out]
  go_wp2_with fail
  go_ret2
  exact ⟨rfl, t1⟩

/-- Shares as natural numbers. -/
def natM (z : Nat → Int) (i : Nat) : Nat := (z i).toNat
theorem isOk_nat {z : Nat → Int} {n L : Nat} (h : isOk z n (L : Int) = true) : 5 ≤ L ∧ L ≤ 9 ∧ n ≤ 32 ∧ 0 < n ∧ (∀ i, i < n → z i = (natM z i : Nat) ∧ natM z i ≤ 2 ^ L) ∧ sumN (natM z) n = 2 ^ L := by
  rw [isOk_is] at h
  simp only [Bool.and_eq_true, decide_eq_true_eq] at h
  obtain ⟨⟨⟨h1, h2⟩, h3⟩, h4⟩ := h
  simp [logOk] at h1
  have hz : ∀ i, i < n → 0 ≤ z i ∧ z i ≤ ((2 ^ L : Nat) : Int) := fun i hi => by
    have := (all01_iff _ z n).1 h3 i hi
    simp only [shrOk, decide_eq_true_eq] at this
    exact this
  have hs : ∀ k, k ≤ n → sumZ z k = (sumN (natM z) k : Nat) := by
    intro k
    induction k with
    | zero => intro _; rfl
    | succ k ih =>
      intro hk
      have := hz k (by omega)
      rw [sumZ, sumN, ih (by omega)]
      unfold natM
      omega
  refine ⟨by omega, by omega, h2, ?_, fun i hi => ?_, ?_⟩
  · rcases Nat.eq_zero_or_pos n with e | e
    · subst e
      have := Nat.two_pow_pos L
      rw [hs 0 (by omega)] at h4
      simp only [sumN] at h4
      omega
    · exact e
  · have := hz i hi
    unfold natM
    omega
  · have := hs n (by omega)
    omega

set_option maxHeartbeats 4000000 in
theorem table_yes (a : Option Addr) (b off n c L : Nat) (z : Nat → Int) (w : World) (h : Ints .i64 w a b off n z) (hok : isOk z n (L : Int) = true) :
    Calls Try.prog 21 #[.slice a n c, .int .i64 L] w fun e w' => ∃ g, e = .returned (.tuple #[.slice (some ⟨g, 0, none⟩) (2 ^ L : Nat) (2 ^ L : Nat), .bool true]) ∧ w.heap.size ≤ g ∧ TabAt w' g (2 ^ L) (symU (natM z) n L) (fun u => bitsU L (xU (natM z) (symU (natM z) n L) u)) (fun u => baseU L (xU (natM z) (symU (natM z) n L) u)) ∧ Touch (fun _ => False) w w' := by
  obtain ⟨h5, h9, hn32, hn0, hzm, hsum⟩ := isOk_nat hok
  obtain ⟨m, hm⟩ : ∃ m, natM z = m := ⟨_, rfl⟩
  rw [hm] at hzm hsum ⊢
  have hI : Ints .i64 w a b off n (fun i => (m i : Int)) := ⟨h.at_, fun i hi => by rw [h.cell i hi, (hzm i hi).1]⟩
  have H := Lib.hid h
  have HI := Lib.hid hI
  have HOK := Lib.hid hok
  have hpb : (2 : Nat) ^ L ≤ 2 ^ 9 := Nat.pow_le_pow_right (by omega) h9
  have hpb5 : (2 : Nat) ^ 5 ≤ 2 ^ L := Nat.pow_le_pow_right (by omega) h5
  have hp := wrap_pow L (by omega)
  have hsl := fun u (hu : u < 2 ^ L) => symU_lt h5 h9 m hsum u hu
  have hxb := fun u (hu : u < 2 ^ L) => xU_bd h5 h9 m hsum u hu
  obtain ⟨Sy, hSy⟩ : ∃ Sy, symU m n L = Sy := ⟨_, rfl⟩
  rw [hSy] at hsl hxb ⊢
  have hSy2 : spreadO m (2 ^ L) n = Sy := hSy
  have hmle : ∀ i, i < n → m i ≤ 2 ^ L := fun i hi => (hzm i hi).2
  obtain ⟨S, hS⟩ : ∃ S : Nat, 2 ^ L = S := ⟨_, rfl⟩
  have hS1 : 2 ^ (L + 1) = 2 * S := by rw [Nat.pow_succ, hS]; omega
  rw [hS1] at hxb
  rw [hS] at hpb hpb5 hp hsum hsl hxb hSy2 hmle ⊢
  have HSL := Lib.hid hsl
  have HXB := Lib.hid hxb
  have HSY := Lib.hid hSy2
  have HML := Lib.hid hmle
  have HS := Lib.hid hS
  have HSUM := Lib.hid hsum
  have hmk := fun w => make_ents S (by omega) w
  have hd : decide ((L : Int) < 0) = false := by simp
  clear h hok hzm hm hI hsl hxb hSy hSy2 hmle hsum hS hS1
  go_enter Try.func21, Try.ntmps21
  go_wp2_with fail
  refine (is_walk a b off n c z L _ H.out (by omega)).mono ?_
  rintro e w1 ⟨rfl, t1⟩
  rw [HOK.out]
  have T1 := Lib.hid t1
  clear t1
  go_wp2_with fail
  clear hmk
  obtain ⟨g, hg⟩ : ∃ g, w1.heap.size = g := ⟨_, rfl⟩
  have hgw : w.heap.size ≤ g := by have := T1.out.size; omega
  have HT0 := Lib.hid (made_tab (N := S) (heap_alloc_new w1 _))
  have TT := Lib.hid (T1.out.alloc (.cells (madeCells #[.int .i64 0, .int .i64 0, .int .i64 0] (S * 3)) 34))
  rw [hg] at HT0
  rw [hg]
  clear hg T1
  go_loopw [8, 9, 10, 24] (fun at_ _ _ i wr => ∃ k : Nat, k ≤ n ∧ i = .int .i64 k ∧ at_ = .int .i64 (pos S (sumN m k) : Nat) ∧ TabAt wr g S (spreadO m S k) (fun _ => 0) (fun _ => 0) ∧ Touch (fun _ => False) w wr) (fun _ _ _ i _ => n - (intOf i).toNat)
  case atStart => exact ⟨0, by omega, rfl, by simp [pos, sumN], HT0.out, TT.out⟩
  case round =>
    obtain ⟨k, hk, rfl, rfl, hh, ht⟩ := hrel
    have HH := Lib.hid hh
    clear hh HT0 TT
    by_cases hlt : k < n
    · obtain rfl := HI.out.at_ (by omega)
      have e1 := ht.cell (HI.out.cell k hlt) id
      have hml := HML.out k hlt
      obtain ⟨mk, hmk⟩ : ∃ q, m k = q := ⟨_, rfl⟩
      rw [hmk] at e1 hml
      have HMK := Lib.hid hmk
      obtain ⟨K, hK⟩ : ∃ K, sumN m k = K := ⟨_, rfl⟩
      obtain ⟨T0, hT0⟩ : ∃ T, spreadO m S k = T := ⟨_, rfl⟩
      rw [hT0] at HH
      rw [hK]
      have HK := Lib.hid hK
      have HTT := Lib.hid hT0
      clear hmk hK hT0
      go_wp2_with fail
      go_loopw [8, 30] (fun at_ i w2 => ∃ j : Nat, j ≤ mk ∧ i = .int .i64 j ∧ at_ = .int .i64 (pos S (K + j) : Nat) ∧ TabAt w2 g S (spreadI S T0 K k j) (fun _ => 0) (fun _ => 0) ∧ Touch (fun _ => False) w w2) (fun _ i _ => mk - (intOf i).toNat)
      case atStart => exact ⟨0, by omega, rfl, rfl, HH.out, ht⟩
      case round =>
        obtain ⟨j, hj, rfl, rfl, hh, ht2⟩ := hrel
        have H2 := Lib.hid hh
        have hpl := pos_lt (size := S) (by omega) (K + j)
        have hps := pos_succ S (K + j)
        obtain ⟨p, hp_⟩ : ∃ p, pos S (K + j) = p := ⟨_, rfl⟩
        have hpk : Hid (pos S (K + j) = p) := Lib.hid hp_
        rw [hp_] at hpl hps ⊢
        clear hh
        by_cases hlt2 : j < mk
        · have hfree := RowAt.free H2.out (p * 3)
          have hcell := (TabAt.get H2.out hpl).1
          have hset := TabAt.set0 H2.out p k
          have hnx : spreadI S T0 K k (j + 1) = upd (spreadI S T0 K k j) p k := by rw [spreadI, hp_]
          have HSET := Lib.hid hset
          have HNX := Lib.hid hnx
          have HPS := Lib.hid hps
          clear hset hnx hps hp_
          go_wp2_with fail
          go_roundw
          case rel =>
            refine ⟨j + 1, by omega, by go_num, ?_, by rw [HNX.out]; exact HSET.out, ht2.setCell (fun h => by have h' : g < w.heap.size := h; omega) _⟩
            rw [show K + (j + 1) = K + j + 1 from rfl, HPS.out]
            exact congrArg (Value.int .i64) (by simp only [Int.natCast_emod, Int.natCast_add, Int.natCast_ediv]; first | done | rfl)
          case measure => simp [intOf]; omega
        · obtain rfl : j = mk := by omega
          have hfin : spreadO m S (k + 1) = spreadI S T0 K k j := by rw [spreadO, HTT.out, HK.out, HMK.out]
          have hKs : sumN m (k + 1) = K + j := by rw [sumN, HK.out, HMK.out]
          have HF := Lib.hid hfin
          have HKS := Lib.hid hKs
          clear hfin hKs hp_ hps hpl
          go_wp2_with fail
          go_roundw
          case rel => exact ⟨k + 1, by omega, by go_num, by rw [HKS.out, hpk.out], by rw [HF.out]; exact H2.out, ht2⟩
          case measure => simp [intOf]; omega
    · obtain rfl : k = n := by omega
      have hT3 : TabAt wr g S Sy (fun _ => 0) (fun _ => 0) := by have := HH.out; rwa [HSY.out] at this
      have HT3 := Lib.hid hT3
      obtain ⟨at_, hat⟩ : ∃ q, pos S (sumN m k) = q := ⟨_, rfl⟩
      rw [hat]
      obtain rfl := HI.out.at_ hn0
      have hcl := Try.slices_Clone_int b off k c (listZ (fun i => (m i : Int)) k) wr (by rw [listZ_len]; omega) (by omega) (fun j hj => by rw [listZ_len] at hj; rw [listZ_get _ hj]; exact ht.cell (HI.out.cell j hj) id)
      have hcz : ((listZ (fun i => (m i : Int)) k).take k).map (Value.int .i64) = cellsZ .i64 (fun i => (m i : Int)) k := by
        rw [List.take_of_length_le (by rw [listZ_len]; omega)]; simp [listZ, cellsZ]
      rw [hcz] at hcl
      have HCL := Lib.hid hcl
      clear hT3 hat hcl hcz HH
      go_wp2_with fail
      refine HCL.out.mono ?_
      rintro e w4 ⟨v4, rfl, hown4, _, hb4⟩
      obtain ⟨gn, cn, rfl, hgn, hrow4⟩ := rowAt_own hown4 hn0
      have ht4 : Touch (fun _ => False) wr w4 := Touch.of_below hb4 (fun k hk hk2 => by omega)
      have hgg : gn ≠ g := by have := RowAt.lt HT3.out; omega
      have HT4 := Lib.hid (RowAt.touch HT3.out ht4 id)
      have HN4 := Lib.hid hrow4
      have HTW := Lib.hid (ht.trans ht4)
      have hgnw : w.heap.size ≤ gn := by have := ht.size; omega
      clear hown4 hb4 hrow4 ht4
      go_wp2_with fail
      go_loopw [12, 13, 53] (fun _ _ i w5 => ∃ u : Nat, u ≤ S ∧ i = .int .i64 u ∧ TabAt w5 g S Sy (fun v => if v < u then bitsU L (xU m Sy v) else 0) (fun v => if v < u then baseU L (xU m Sy v) else 0) ∧ RowAt w5 gn 3 k (fun i => .int .i64 (nextN m Sy u i : Nat)) ∧ Touch (fun _ => False) w w5) (fun _ _ i _ => S - (intOf i).toNat)
      case atStart => exact ⟨0, by omega, rfl, HT4.out, HN4.out, HTW.out⟩
      case round =>
        obtain ⟨u, hu, rfl, hh, hnx, htw⟩ := hrel
        have H5 := Lib.hid hh
        have HN5 := Lib.hid hnx
        clear hh hnx
        by_cases hlu : u < S
        · obtain ⟨c0, c1, c2⟩ := TabAt.get H5.out hlu
          obtain ⟨hs1, _⟩ := HSL.out u hlu
          obtain ⟨hx0, _, _, hx2⟩ := HXB.out u hlu
          have cn0 := RowAt.get HN5.out hs1
          have fn0 := RowAt.free HN5.out (Sy u)
          have hxu : nextN m Sy u (Sy u) = xU m Sy u := rfl
          have hnn : ∀ i, nextN m Sy (u + 1) i = if i = Sy u then nextN m Sy u i + 1 else nextN m Sy u i := fun i => rfl
          obtain ⟨x, hx⟩ : ∃ x, xU m Sy u = x := ⟨_, rfl⟩
          obtain ⟨s, hs⟩ : ∃ s, Sy u = s := ⟨_, rfl⟩
          rw [hs] at c0 hs1 cn0 fn0 hxu
          rw [hx] at hx0 hx2 hxu
          rw [hxu] at cn0
          have hnn2 : ∀ i, nextN m Sy (u + 1) i = if i = s then x + 1 else nextN m Sy u i := fun i => by
            rw [hnn i, hs]
            by_cases e : i = s
            · rw [if_pos e, if_pos e, e, hxu]
            · rw [if_neg e, if_neg e]
          have HNN := Lib.hid hnn2
          have hsp := span_in (log := L) hx0 (by have := HS.out; rw [Nat.pow_succ, this]; omega)
          obtain ⟨y, hy⟩ : ∃ y, x * 2 ^ bitsU L x = y := ⟨_, rfl⟩
          have hyl : y ≤ 2 * S := by
            have h1 := hsp.2.1
            rw [Nat.add_mul, hy, Nat.pow_succ, HS.out] at h1
            omega
          have hbl := blen_le (x := x) (k := L + 1) (by have := HS.out; rw [Nat.pow_succ, this]; omega)
          have hbu : bitsU L x = L + 1 - blen x := rfl
          have hba : baseU L x = (y : Int) - S := by unfold baseU; rw [hy, HS.out]
          have hsh : wrap64 ((x : Int) * 2 ^ bitsU L x) = (y : Nat) := by
            have e : (x : Int) * 2 ^ bitsU L x = ((x * 2 ^ bitsU L x : Nat) : Int) := by simp
            rw [e, hy]; unfold wrap64; omega
          obtain ⟨B, hB⟩ : ∃ B, bitsU L x = B := ⟨_, rfl⟩
          obtain ⟨bl, hbl3⟩ : ∃ B, blen x = B := ⟨_, rfl⟩
          rw [hB] at hsh hbu
          rw [hbl3] at hbl hbu
          have hxs : x ≤ 100000 := small_x hx2 hpb
          have fB : (L : Int) - (bl : Int) + 1 = (B : Nat) := fB_is hbu hbl
          have fw : IntKind.u64.wrap (x : Int) = x := wrapU x (Nat.le_trans hxs (by decide))
          have fs := wrap_sub_small y S hyl hpb
          have fb0 : (0 : Int) ≤ B := Int.natCast_nonneg _
          have fb64 : (B : Int) ≤ 64 := bits_64 hbu h9
          have fd : decide ((B : Int) < 0) = false := by simp
          have HLen := Lib.hid (fun w => blen_walk x hx0 hxs w)
          rw [hbl3] at HLen
          have h6n := RowAt.set HN5.out s (.int .i64 ((x : Int) + 1))
          have h6t : TabAt (wr.setCell ⟨gn, s, none⟩ (.int .i64 ((x : Int) + 1))) g S Sy _ _ := RowAt.other H5.out (Ne.symm hgg) s _
          have h7t := TabAt.set1 h6t u B
          have h7n := RowAt.other h6n hgg (u * 3 + 1) (.int .i64 (B : Nat))
          have h8t := TabAt.set2 h7t u ((y : Int) - S)
          have h8n := RowAt.other h7n hgg (u * 3 + 2) (.int .i64 ((y : Int) - S))
          have f6 := RowAt.free h6t (u * 3 + 1)
          have f7 := RowAt.free h7t (u * 3 + 2)
          have g6 := (TabAt.get h6t hlu).2.1
          have g7 := (TabAt.get h7t hlu).2.1
          have g72 := (TabAt.get h7t hlu).2.2
          simp only [upd, if_true] at g7
          have HB2 := Lib.hid hB
          have HBA := Lib.hid hba
          have HXX := Lib.hid hx
          have HSS := Lib.hid hs
          have H8T := Lib.hid h8t
          have H8N := Lib.hid h8n
          clear h6n h6t h7t h7n h8t h8n hnn hnn2 hsp hy hbu hba hxu hB hbl3 hx hs
          go_wp2_with fail
          have hS512 : S ≤ 512 := hpb
          clear hyl hpb hpb5 hxs hx2 fw hp hx0 hbl
          refine (HLen.out _).mono ?_
          rintro e w8 ⟨rfl, rfl⟩
          go_wp2_with fail
          go_roundw
          case rel =>
            refine ⟨u + 1, by omega, by go_num, ?_, ?_, ((htw.setCell (fun h => by have h' : gn < w.heap.size := h; omega) _).setCell (fun h => by have h' : g < w.heap.size := h; omega) _).setCell (fun h => by have h' : g < w.heap.size := h; omega) _⟩
            · refine RowAt.congr H8T.out fun i hi => ?_
              unfold entC upd
              have e1 : ∀ v, (if v = u then B else if v < u then bitsU L (xU m Sy v) else 0) = if v < u + 1 then bitsU L (xU m Sy v) else 0 := fun v => by
                by_cases e : v = u
                · subst e; rw [if_pos rfl, if_pos (by omega), HXX.out, HB2.out]
                · rw [if_neg e]
                  by_cases e2 : v < u
                  · rw [if_pos e2, if_pos (by omega)]
                  · rw [if_neg e2, if_neg (by omega)]
              have e2 : ∀ v, (if v = u then (y : Int) - S else if v < u then baseU L (xU m Sy v) else 0) = if v < u + 1 then baseU L (xU m Sy v) else 0 := fun v => by
                by_cases e : v = u
                · subst e; rw [if_pos rfl, if_pos (by omega), HXX.out, HBA.out]
                · rw [if_neg e]
                  by_cases e2 : v < u
                  · rw [if_pos e2, if_pos (by omega)]
                  · rw [if_neg e2, if_neg (by omega)]
              rw [e1, e2]
            · refine RowAt.congr H8N.out fun i hi => ?_
              show (if i = s then Value.int .i64 ((x : Int) + 1) else _) = _
              rw [HNN.out i]
              by_cases e : i = s
              · rw [if_pos e, if_pos e]; rfl
              · rw [if_neg e, if_neg e]
          case measure => simp [intOf]; omega
        · obtain rfl : u = S := by omega
          go_wp2_with fail
          go_ret2
          refine ⟨g, rfl, hgw, RowAt.congr H5.out fun i hi => ?_, htw⟩
          unfold entC
          simp [show i / 3 < u by omega]
end Go.Proofs.Ytaacphmbkieacaa
