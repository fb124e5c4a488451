/- fse: Table by the document. -/
import Derived.Test.YtaacphmbkieacaaFaJ
namespace Go.Proofs.Ytaacphmbkieacaa
open Go.RowKit Go.WideShapes Fs
set_option linter.unusedVariables false
set_option linter.unusedSimpArgs false
set_option maxRecDepth 100000

theorem rtable_no (a : Option Addr) (b off n c : Nat) (z : Nat → Int) (log : Int) (w : World) (h : Ints .i64 w a b off n z) (hn : n ≤ 100000) (hno : isOk z n log = false) :
    Calls Try.prog 22 #[.slice a n c, .int .i64 log] w fun e w' => e = .returned (.tuple #[.slice none 0 0, .bool false]) ∧ w = w' := by
  have H := Lib.hid h
  have HN := Lib.hid hno
  clear h hno
  go_enter Try.func22, Try.ntmps22
  go_wp2_with fail
  refine (ris_walk a b off n c z log _ H.out hn).mono ?_
  rintro e w1 ⟨rfl, rfl⟩
  rw [HN.out]
  go_wp2_with fail
  go_ret2
  exact ⟨rfl, rfl⟩

theorem wrapL (x : Nat) (hx : x ≤ 1000000) : IntKind.u64.wrap (x : Int) = x := wrapU x hx

theorem wrap_sub_i (y S : Nat) (h : y ≤ 2 * S) (h2 : S ≤ 2 ^ 9) : IntKind.i64.wrap ((y : Int) - S) = y - S := IntWalk.i64_in _ (by omega)
theorem wrap_nat_i (y S : Nat) (h : y ≤ 2 * S) (h2 : S ≤ 2 ^ 9) : IntKind.i64.wrap (y : Int) = y := IntWalk.i64_in _ (by omega)
theorem RowAt.drewI {w : World} {g : Nat} {e : TypeId} {n : Nat} {F : Nat → Value} (h : RowAt w g e n F) : RowAt w.drew g e n F := h
theorem wrap_suc (x : Nat) (h : x ≤ 100000) : wrap64 ((x : Int) + 1) = x + 1 := by unfold wrap64; omega
theorem small_u {u S : Nat} (h : u < S) (h2 : S ≤ 2 ^ 9) : u ≤ 100000 := by omega
theorem meas_u {u S : Nat} (h : u < S) : S - (intOf (Value.int .i64 ((u : Int) + 1))).toNat < S - (intOf (Value.int .i64 (u : Int))).toNat := by simp [intOf]; omega
theorem lt_suc_not {v u : Nat} (h : ¬ v = u) (h2 : ¬ v < u) : ¬ v < u + 1 := by omega
theorem bits_mil {L bl B : Nat} (h : B = L + 1 - bl) (h9 : L ≤ 9) : B ≤ 1000000 := by omega

set_option maxHeartbeats 4000000 in
theorem rtable_yes (a : Option Addr) (b off n c L : Nat) (z : Nat → Int) (w : World) (h : Ints .i64 w a b off n z) (hok : isOk z n (L : Int) = true) :
    Calls Try.prog 22 #[.slice a n c, .int .i64 L] w fun e w' => ∃ g, e = .returned (.tuple #[.slice (some ⟨g, 0, none⟩) (2 ^ L : Nat) (2 ^ L : Nat), .bool true]) ∧ w.heap.size ≤ g ∧ TabAt w' g (2 ^ L) (symU (natM z) n L) (fun u => bitsU L (xU (natM z) (symU (natM z) n L) u)) (fun u => baseU L (xU (natM z) (symU (natM z) n L) u)) ∧ Touch (fun _ => False) w w' := by
  obtain ⟨h5, h9, hn32, hn0, hzm, hsum⟩ := isOk_nat hok
  obtain ⟨m, hm⟩ : ∃ m, natM z = m := ⟨_, rfl⟩
  rw [hm] at hzm hsum ⊢
  have hI : Ints .i64 w a b off n (fun i => (m i : Int)) := ⟨h.at_, fun i hi => by rw [h.cell i hi, (hzm i hi).1]⟩
  have H := Lib.hid h
  have HI := Lib.hid hI
  have HOK := Lib.hid hok
  have hpb : (2 : Nat) ^ L ≤ 2 ^ 9 := Nat.pow_le_pow_right (by omega) h9
  have hpb5 : (2 : Nat) ^ 5 ≤ 2 ^ L := Nat.pow_le_pow_right (by omega) h5
  have hp := wrap_pow L (by omega)
  have hsl := fun u (hu : u < 2 ^ L) => symU_lt h5 h9 m hsum u hu
  have hxb := fun u (hu : u < 2 ^ L) => xU_bd h5 h9 m hsum u hu
  obtain ⟨Sy, hSy⟩ : ∃ Sy, symU m n L = Sy := ⟨_, rfl⟩
  rw [hSy] at hsl hxb ⊢
  have hSy2 : spreadO m (2 ^ L) n = Sy := hSy
  have hmle : ∀ i, i < n → m i ≤ 2 ^ L := fun i hi => (hzm i hi).2
  obtain ⟨S, hS⟩ : ∃ S : Nat, 2 ^ L = S := ⟨_, rfl⟩
  have hS1 : 2 ^ (L + 1) = 2 * S := by rw [Nat.pow_succ, hS]; omega
  rw [hS1] at hxb
  rw [hS] at hpb hpb5 hp hsum hsl hxb hSy2 hmle ⊢
  have HSL := Lib.hid hsl
  have HXB := Lib.hid hxb
  have HSY := Lib.hid hSy2
  have HML := Lib.hid hmle
  have HS := Lib.hid hS
  have HSUM := Lib.hid hsum
  have hmk := fun w => make_ents S (by omega) w
  have hwL : IntKind.u64.wrap (L : Int) = L := wrapL L (by omega)
  obtain ⟨i0, hi0, hz0, hz1, hz2⟩ := info_parts Try.info3
  have hd : decide ((L : Int) < 0) = false := by simp
  clear h hok hzm hm hI hsl hxb hSy hSy2 hmle hsum hS hS1
  go_enter Try.func22, Try.ntmps22
  go_wp2_with fail
  refine (ris_walk a b off n c z L _ H.out (by omega)).mono ?_
  rintro e w1 ⟨rfl, rfl⟩
  rw [HOK.out]
  go_wp2_with fail
  clear hmk
  obtain ⟨g, hg⟩ : ∃ g, w.heap.size = g := ⟨_, rfl⟩
  have hgw : w.heap.size ≤ g := by omega
  have HT0 := Lib.hid (made_tab (N := S) (heap_alloc_new w _))
  have TT := Lib.hid (Touch.new w (.cells (madeCells #[.int .i64 0, .int .i64 0, .int .i64 0] (S * 3)) 34))
  rw [hg] at HT0
  rw [hg]
  clear hg
  go_loopw [8, 9, 10] (fun at_ i _ wr => ∃ k : Nat, k ≤ n ∧ i = .int .i64 k ∧ at_ = .int .i64 (pos S (sumN m k) : Nat) ∧ TabAt wr g S (spreadO m S k) (fun _ => 0) (fun _ => 0) ∧ Touch (fun _ => False) w wr) (fun _ i _ _ => n - (intOf i).toNat)
  case atStart => exact ⟨0, by omega, rfl, by simp [pos, sumN], HT0.out, TT.out⟩
  case round =>
    obtain ⟨k, hk, rfl, rfl, hh, ht⟩ := hrel
    have HH := Lib.hid hh
    clear hh HT0 TT
    by_cases hlt : k < n
    · obtain rfl := HI.out.at_ (by omega)
      have e1 := ht.cell (HI.out.cell k hlt) id
      have hml := HML.out k hlt
      obtain ⟨mk, hmk⟩ : ∃ q, m k = q := ⟨_, rfl⟩
      rw [hmk] at e1 hml
      have HMK := Lib.hid hmk
      obtain ⟨K, hK⟩ : ∃ K, sumN m k = K := ⟨_, rfl⟩
      obtain ⟨T0, hT0⟩ : ∃ T, spreadO m S k = T := ⟨_, rfl⟩
      rw [hT0] at HH
      rw [hK]
      have HK := Lib.hid hK
      have HTT := Lib.hid hT0
      clear hmk hK hT0
      go_wp2_with fail
      go_loopw [8, 10] (fun at_ i w2 => ∃ j : Nat, j ≤ mk ∧ i = .int .i64 j ∧ at_ = .int .i64 (pos S (K + j) : Nat) ∧ TabAt w2 g S (spreadI S T0 K k j) (fun _ => 0) (fun _ => 0) ∧ Touch (fun _ => False) w w2) (fun _ i _ => mk - (intOf i).toNat)
      case atStart => exact ⟨0, by omega, rfl, rfl, HH.out, ht⟩
      case round =>
        obtain ⟨j, hj, rfl, rfl, hh, ht2⟩ := hrel
        have H2 := Lib.hid hh
        have e2 := ht2.cell (HI.out.cell k hlt) id
        rw [HMK.out] at e2
        have hpl := pos_lt (size := S) (by omega) (K + j)
        have hps := pos_succ S (K + j)
        obtain ⟨p, hp_⟩ : ∃ p, pos S (K + j) = p := ⟨_, rfl⟩
        have hpk : Hid (pos S (K + j) = p) := Lib.hid hp_
        rw [hp_] at hpl hps ⊢
        clear hh
        by_cases hlt2 : j < mk
        · have hfree := RowAt.free H2.out (p * 3)
          have hcell := (TabAt.get H2.out hpl).1
          have hset := TabAt.set0 H2.out p k
          have hnx : spreadI S T0 K k (j + 1) = upd (spreadI S T0 K k j) p k := by rw [spreadI, hp_]
          have HSET := Lib.hid hset
          have HNX := Lib.hid hnx
          have HPS := Lib.hid hps
          clear hset hnx hps hp_
          go_wp2_with fail
          go_roundw
          case rel =>
            refine ⟨j + 1, by omega, by go_num, ?_, by rw [HNX.out]; exact HSET.out, ht2.setCell (fun h => by have h' : g < w.heap.size := h; omega) _⟩
            rw [show K + (j + 1) = K + j + 1 from rfl, HPS.out]
            exact congrArg (Value.int .i64) (by simp only [Int.natCast_emod, Int.natCast_add, Int.natCast_ediv]; first | done | rfl)
          case measure => simp [intOf]; omega
        · obtain rfl : j = mk := by omega
          have hfin : spreadO m S (k + 1) = spreadI S T0 K k j := by rw [spreadO, HTT.out, HK.out, HMK.out]
          have hKs : sumN m (k + 1) = K + j := by rw [sumN, HK.out, HMK.out]
          have HF := Lib.hid hfin
          have HKS := Lib.hid hKs
          clear hfin hKs hp_ hps hpl
          go_wp2_with fail
          go_roundw
          case rel => exact ⟨k + 1, by omega, by go_num, by rw [HKS.out, hpk.out], by rw [HF.out]; exact H2.out, ht2⟩
          case measure => simp [intOf]; omega
    · obtain rfl : k = n := by omega
      have hT3 : TabAt wr g S Sy (fun _ => 0) (fun _ => 0) := by have := HH.out; rwa [HSY.out] at this
      have HT3 := Lib.hid hT3
      obtain ⟨at_, hat⟩ : ∃ q, pos S (sumN m k) = q := ⟨_, rfl⟩
      rw [hat]
      obtain rfl := HI.out.at_ hn0
      have HI4 := Lib.hid (HI.out.touch ht)
      clear hT3 hat HH
      go_wp2_with (refine wpList_append_mine rfl (.tmp 52) (.tmp 53) 22 22 rfl 3 i0 (.int .i64 0) 1 8 Try.underlying22 hi0 hz0 hz1 hz2 rfl (.slice (some ⟨wr.heap.size, 0, none⟩) 0 0) 0 [] rfl (row_of_tab (m := 0) (F := fun _ => .int .i64 0) (heap_alloc_new _ _) (by unfold maxLen; omega)) _ k _ rfl (src_ints c Try.underlying22 (HI4.out.touch (Touch.new wr _))) (by unfold maxLen; omega) (by omega) ?_; intro a5 c5 w4 hown4 ht4' hf4 _; simp only [Nat.zero_add, List.nil_append] at hown4 hf4 ⊢)
      have ht4 := own_app (Touch.new wr _) (OwnB.here wr 0) ht4'
      have o4 := (OwnB.here wr 0).fresh hf4 (Touch.new wr _).size
      obtain ⟨gn, cn, hv4, _, hrow4⟩ := rowAt_own hown4 hn0
      simp at hv4
      obtain ⟨rfl, rfl⟩ := hv4
      have hgn : wr.heap.size ≤ gn := o4 gn rfl
      have hgg : gn ≠ g := by have := RowAt.lt HT3.out; omega
      have HT4 := Lib.hid (RowAt.touch HT3.out ht4 id)
      have HN4 := Lib.hid hrow4
      have HTW := Lib.hid (ht.trans ht4)
      have hgnw : w.heap.size ≤ gn := by have := ht.size; omega
      clear hown4 hrow4 ht4 ht4' hf4 o4
      go_wp2_with fail
      go_loopw [12, 13] (fun i _ w5 => ∃ u : Nat, u ≤ S ∧ i = .int .i64 u ∧ TabAt w5 g S Sy (fun v => if v < u then bitsU L (xU m Sy v) else 0) (fun v => if v < u then baseU L (xU m Sy v) else 0) ∧ RowAt w5 gn 3 k (fun i => .int .i64 (nextN m Sy u i : Nat)) ∧ Touch (fun _ => False) w w5) (fun i _ _ => S - (intOf i).toNat)
      case atStart => exact ⟨0, by omega, rfl, HT4.out, HN4.out, HTW.out⟩
      case round =>
        obtain ⟨u, hu, rfl, hh, hnx, htw⟩ := hrel
        have H5 := Lib.hid hh
        have HN5 := Lib.hid hnx
        clear hh hnx
        by_cases hlu : u < S
        · obtain ⟨c0, c1, c2⟩ := TabAt.get H5.out hlu
          obtain ⟨hs1, _⟩ := HSL.out u hlu
          obtain ⟨hx0, _, _, hx2⟩ := HXB.out u hlu
          have cn0 := RowAt.get HN5.out hs1
          have fn0 := RowAt.free HN5.out (Sy u)
          have hxu : nextN m Sy u (Sy u) = xU m Sy u := rfl
          have hnn : ∀ i, nextN m Sy (u + 1) i = if i = Sy u then nextN m Sy u i + 1 else nextN m Sy u i := fun i => rfl
          obtain ⟨x, hx⟩ : ∃ x, xU m Sy u = x := ⟨_, rfl⟩
          obtain ⟨s, hs⟩ : ∃ s, Sy u = s := ⟨_, rfl⟩
          rw [hs] at c0 hs1 cn0 fn0 hxu
          rw [hx] at hx0 hx2 hxu
          rw [hxu] at cn0
          have hnn2 : ∀ i, nextN m Sy (u + 1) i = if i = s then x + 1 else nextN m Sy u i := fun i => by
            rw [hnn i, hs]
            by_cases e : i = s
            · rw [if_pos e, if_pos e, e, hxu]
            · rw [if_neg e, if_neg e]
          have HNN := Lib.hid hnn2
          have hsp := span_in (log := L) hx0 (by have := HS.out; rw [Nat.pow_succ, this]; omega)
          obtain ⟨y, hy⟩ : ∃ y, x * 2 ^ bitsU L x = y := ⟨_, rfl⟩
          have hyl : y ≤ 2 * S := by
            have h1 := hsp.2.1
            rw [Nat.add_mul, hy, Nat.pow_succ, HS.out] at h1
            omega
          have hbl := blen_le (x := x) (k := L + 1) (by have := HS.out; rw [Nat.pow_succ, this]; omega)
          have hbu : bitsU L x = L + 1 - blen x := rfl
          have hba : baseU L x = (y : Int) - S := by unfold baseU; rw [hy, HS.out]
          have hsh : wrap64 ((x : Int) * 2 ^ bitsU L x) = (y : Nat) := by
            have e : (x : Int) * 2 ^ bitsU L x = ((x * 2 ^ bitsU L x : Nat) : Int) := by simp
            rw [e, hy]; unfold wrap64; omega
          have hsh2 : IntKind.i64.wrap ((x : Int) * 2 ^ bitsU L x) = (y : Nat) := by
            have e : (x : Int) * 2 ^ bitsU L x = ((x * 2 ^ bitsU L x : Nat) : Int) := by simp
            rw [e, hy]; exact wrap_nat_i y S hyl hpb
          obtain ⟨B, hB⟩ : ∃ B, bitsU L x = B := ⟨_, rfl⟩
          obtain ⟨bl, hbl3⟩ : ∃ B, blen x = B := ⟨_, rfl⟩
          rw [hB] at hsh hsh2 hbu
          rw [hbl3] at hbl hbu
          have hS512 : S ≤ 512 := hpb
          have hxs : x ≤ 100000 := small_x hx2 hpb
          have fB : (L : Int) - (bl : Int) + 1 = (B : Nat) := fB_is hbu hbl
          have fw : IntKind.u64.wrap (x : Int) = x := wrapU x (Nat.le_trans hxs (by decide))
          have fs := wrap_sub_small y S hyl hpb
          have fb0 : (0 : Int) ≤ B := Int.natCast_nonneg _
          have fb64 : (B : Int) ≤ 64 := bits_64 hbu h9
          have fd : decide ((B : Int) < 0) = false := by simp
          have HLen := Lib.hid (fun w => digits_walk x (Nat.le_trans hxs (by decide)) w)
          rw [hbl3] at HLen
          have fwB : IntKind.u64.wrap (B : Int) = B := wrapL B (bits_mil hbu h9)
          have f3 : IntKind.i64.wrap ((y : Int) - S) = (y : Int) - S := wrap_sub_i y S hyl hpb
          have h6t := TabAt.set1 H5.out u B
          have h6n := RowAt.other HN5.out hgg (u * 3 + 1) (.int .i64 (B : Nat))
          have h7t := TabAt.set2 h6t u ((y : Int) - S)
          have h7n := RowAt.other h6n hgg (u * 3 + 2) (.int .i64 ((y : Int) - S))
          have h8n := RowAt.set h7n s (.int .i64 ((x : Int) + 1))
          have h8t : TabAt (((wr.setCell ⟨g, u * 3 + 1, none⟩ (.int .i64 (B : Nat))).setCell ⟨g, u * 3 + 2, none⟩ (.int .i64 ((y : Int) - S))).setCell ⟨gn, s, none⟩ (.int .i64 ((x : Int) + 1))) g S Sy _ _ := RowAt.other h7t (Ne.symm hgg) s _
          have f5 := RowAt.free H5.out (u * 3 + 1)
          have f6 := RowAt.free h6t (u * 3 + 2)
          have f7 := RowAt.free h7n s
          have g6 := (TabAt.get h6t hlu).2.1
          have g62 := (TabAt.get h6t hlu).2.2
          simp only [upd, if_true] at g6
          have n6 := RowAt.get h6n hs1
          have n7 := RowAt.get h7n hs1
          simp only [hxu] at n6 n7
          have HB2 := Lib.hid hB
          have HBA := Lib.hid hba
          have HXX := Lib.hid hx
          have HSS := Lib.hid hs
          have H8T := Lib.hid h8t
          have H8N := Lib.hid h8n
          clear h6n h6t h7t h7n h8t h8n hnn hnn2 hsp hy hbu hba hxu hB hbl3 hx hs
          have fx1 := wrap_suc x hxs
          have fu1 := wrap_suc u (small_u hlu hpb)
          clear hyl hpb hpb5 hxs hx2 hp hx0 hbl hS512
          go_wp2_with fail
          refine (HLen.out _).mono ?_
          rintro e w8 ⟨rfl, rfl⟩
          go_wp2_with fail
          go_region
          all_goals clear fB fb0 fb64 hsh hsh2 fs f3 fwB fd HLen fw h5 h9
          all_goals go_wp2_with fail
          all_goals simp only [fx1, fu1]
          go_roundw
          case rel =>
            refine ⟨u + 1, hlu, by go_num, ?_, ?_, (((htw.setCell (fun h => by exact Nat.not_lt.2 hgw h) _).setCell (fun h => by exact Nat.not_lt.2 hgw h) _).setCell (fun h => by exact Nat.not_lt.2 hgnw h) _).drew⟩
            · refine RowAt.congr (RowAt.drewI H8T.out) fun i hi => ?_
              unfold entC upd
              have e1 : ∀ v, (if v = u then B else if v < u then bitsU L (xU m Sy v) else 0) = if v < u + 1 then bitsU L (xU m Sy v) else 0 := fun v => by
                by_cases e : v = u
                · subst e; rw [if_pos rfl, if_pos (Nat.lt_succ_self _), HXX.out, HB2.out]
                · rw [if_neg e]
                  by_cases e2 : v < u
                  · rw [if_pos e2, if_pos (Nat.lt_succ_of_lt e2)]
                  · rw [if_neg e2, if_neg (lt_suc_not e e2)]
              have e2 : ∀ v, (if v = u then (y : Int) - S else if v < u then baseU L (xU m Sy v) else 0) = if v < u + 1 then baseU L (xU m Sy v) else 0 := fun v => by
                by_cases e : v = u
                · subst e; rw [if_pos rfl, if_pos (Nat.lt_succ_self _), HXX.out, HBA.out]
                · rw [if_neg e]
                  by_cases e2 : v < u
                  · rw [if_pos e2, if_pos (Nat.lt_succ_of_lt e2)]
                  · rw [if_neg e2, if_neg (lt_suc_not e e2)]
              rw [e1, e2]
            · refine RowAt.congr (RowAt.drewI H8N.out) fun i hi => ?_
              show (if i = s then Value.int .i64 ((x : Int) + 1) else _) = _
              rw [HNN.out i]
              by_cases e : i = s
              · rw [if_pos e, if_pos e]; rfl
              · rw [if_neg e, if_neg e]
          case measure => exact meas_u hlu
        · obtain rfl : u = S := by omega
          go_wp2_with fail
          go_ret2
          refine ⟨g, rfl, hgw, RowAt.congr H5.out fun i hi => ?_, htw⟩
          unfold entC
          simp [show i / 3 < u by omega]
end Go.Proofs.Ytaacphmbkieacaa
