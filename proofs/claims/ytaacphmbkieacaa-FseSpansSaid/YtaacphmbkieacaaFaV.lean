/- fse: Decode, where there is something. -/
import Derived.Test.YtaacphmbkieacaaFaU
namespace Go.Proofs.Ytaacphmbkieacaa
open Go.RowKit Go.WideShapes Fs
set_option linter.unusedVariables false
set_option linter.unusedSimpArgs false
set_option maxRecDepth 100000

set_option maxHeartbeats 1000000 in
theorem dec_bad (a ab : Option Addr) (b off n c bb ob lb cb L : Nat) (z : Nat → Int) (zb : Nat → Nat) (q : Int) (w : World) (h : Ints .i64 w a b off n z) (hb : Seen w ab bb ob lb zb) (hlb : lb ≤ 100000) (hok : isOk z n (L : Int) = true) (hbad : bitsIn zb lb = none ∨ q < 0) :
    Calls Try.prog 26 #[.slice a n c, .int .i64 L, .slice ab lb cb, .int .i64 q] w fun e w' => e = .returned (.tuple #[.slice none 0 0, .bool false]) ∧ Touch (fun _ => False) w w' := by
  have H := Lib.hid h
  have HB := Lib.hid hb
  have HTB := Lib.hid (fun w h => table_yes a b off n c L z w h hok)
  have hnew := fun w (h : Seen w ab bb ob lb zb) => newr_any ab bb ob lb cb zb w h hlb
  cases hr : bitsIn zb lb with
  | none =>
    rw [hr] at hnew
    have HNEW := Lib.hid hnew
    clear hr hnew hbad h hok hb
    go_enter Try.func26, Try.ntmps26
    go_wp2_with fail
    refine (HTB.out _ H.out).mono ?_
    rintro e w1 ⟨g, rfl, _, _, t1⟩
    have T1 := Lib.hid t1
    clear t1
    go_wp2_with fail
    refine (HNEW.out _ (HB.out.touch T1.out id)).mono ?_
    rintro e w2 ⟨rfl, rfl⟩
    go_wp2_with fail
    go_ret2
    exact ⟨rfl, T1.out⟩
  | some l =>
    have hq : q < 0 := hbad.resolve_left (by rw [hr]; simp)
    have hqd : decide (q < 0) = true := by simpa using hq
    rw [hr] at hnew
    have HNEW := Lib.hid hnew
    clear hr hnew hbad h hok hb
    go_enter Try.func26, Try.ntmps26
    go_wp2_with fail
    refine (HTB.out _ H.out).mono ?_
    rintro e w1 ⟨g, rfl, _, _, t1⟩
    have T1 := Lib.hid t1
    clear t1
    go_wp2_with fail
    refine (HNEW.out _ (HB.out.touch T1.out id)).mono ?_
    rintro e w2 ⟨rfl, v, _, t2, _⟩
    have T2 := Lib.hid (T1.out.trans t2)
    clear t2
    go_wp2_with fail
    go_ret2
    exact ⟨rfl, T2.out⟩

theorem takenV_le (l : List Bool) (n : Nat) (h : n ≤ 9) : takenV l (n : Int) ≤ 512 := Nat.le_trans (Nat.le_of_lt (takenV_lt l n)) (pow_small h)
theorem wrap_qv {q : Int} {v : Nat} (h0 : 0 ≤ q) (h1 : q ≤ 512) (h2 : v ≤ 512) : wrap64 (q + (v : Int)) = ((q + v).toNat : Nat) := by unfold wrap64; omega

theorem decE_yes {l : List Bool} {o : List Nat} (h : l.length = 0) : decE (some (0, l, o)) = some o := if_pos ⟨rfl, h⟩
theorem decE_no {u : Nat} {l : List Bool} {o : List Nat} (h : ¬ (u = 0 ∧ l.length = 0)) : decE (some (u, l, o)) = none := if_neg h
theorem dec_after {w w5 w6 : World} {B g N x : Nat} {Sy Bi : Nat → Nat} {Ba : Nat → Int} {v5 vo : Value} {l5 : List Bool} {o : List Nat} {a6 : Option Addr} {c6 : Nat} (hw5 : Wr w5 84 B v5 l5) (hrow : w5.ownsRow 0 3 1 vo o.length (o.map fun (x : Nat) => Value.int .i64 (x : Int))) (hown : OwnB w.heap.size vo) (htab : TabAt w5 g N Sy Bi Ba) (t5 : Touch (fun _ => False) w w5)
    (hown6 : w6.ownsRow 0 3 1 (.slice a6 (o.length + 1) c6) (o.length + 1) ((o.map fun (x : Nat) => Value.int .i64 (x : Int)) ++ [.int .i64 x])) (ht6 : Touch (fun k => vo.ownBlock = some k) (w5.alloc (.cells #[.int .i64 x] 3)) w6) (hf6 : Fresh (w5.alloc (.cells #[.int .i64 x] 3)).heap.size vo (.slice a6 (o.length + 1) c6)) :
    Wr w6 84 B v5 l5 ∧ w6.ownsRow 0 3 1 (.slice a6 (o.length + 1) c6) (o ++ [x]).length ((o ++ [x]).map fun (x : Nat) => Value.int .i64 (x : Int)) ∧ OwnB w.heap.size (.slice a6 (o.length + 1) c6) ∧ TabAt w6 g N Sy Bi Ba ∧ Touch (fun _ => False) w w6 := by
  have tn := Touch.new w5 (.cells #[.int .i64 x] 3)
  have hrn := tn.row hrow (fun _ _ => id)
  have hwn := hw5.touch tn id (fun _ _ => id)
  have htn := RowAt.touch htab tn id
  refine ⟨hwn.touch ht6 (fun e => own_ne hrn hwn.cell (by decide) e) (fun k hk e => ?_), by simpa using hown6, hown.fresh hf6 (Nat.le_trans t5.size tn.size), RowAt.touch htn ht6 (fun e => ?_), own_app (t5.trans tn) hown ht6⟩
  · obtain ⟨cur, hc⟩ := own_at hwn.row hk
    exact own_ne hrn hc (by decide) e
  · obtain ⟨cur, hc, _⟩ := htn
    exact own_ne hrn hc (by decide) e
theorem app_max {o : List Nat} {k nn : Nat} (h : o.length = k) (hk : k ≤ nn) (hnn : nn ≤ 100000) : o.length + 1 ≤ maxLen ∧ (o.length + 1) * 8 ≤ 140737488355328 := by unfold maxLen; omega
set_option maxHeartbeats 4000000 in
theorem dec_yes (a ab : Option Addr) (b off n c bb ob lb cb L nn : Nat) (z : Nat → Int) (zb : Nat → Nat) (l0 : List Bool) (w : World) (h : Ints .i64 w a b off n z) (hb : Seen w ab bb ob lb zb) (hlb : lb ≤ 100000) (hok : isOk z n (L : Int) = true) (hbits : bitsIn zb lb = some l0) (hnn : nn ≤ 100000) :
    Calls Try.prog 26 #[.slice a n c, .int .i64 L, .slice ab lb cb, .int .i64 nn] w (DecPost w (decF (symU (natM z) n L) (fun u => bitsU L (xU (natM z) (symU (natM z) n L) u)) (fun u => baseU L (xU (natM z) (symU (natM z) n L) u)) L nn l0)) := by
  obtain ⟨h5, h9, hn32, hn0, hzm, hsum⟩ := isOk_nat hok
  have htb := fun w h => table_yes a b off n c L z w h hok
  have T := tabOk_is h5 h9 (natM z) hsum hn32
  obtain ⟨Ba, hBa⟩ : ∃ f, (fun u => baseU L (xU (natM z) (symU (natM z) n L) u)) = f := ⟨_, rfl⟩
  obtain ⟨Bi, hBi⟩ : ∃ f, (fun u => bitsU L (xU (natM z) (symU (natM z) n L) u)) = f := ⟨_, rfl⟩
  obtain ⟨Sy, hSy⟩ : ∃ f, symU (natM z) n L = f := ⟨_, rfl⟩
  rw [hBa, hBi, hSy] at htb T ⊢
  have hv0 : takenV l0 (L : Int) < 2 ^ L := takenV_lt l0 L
  obtain ⟨N, hN⟩ : ∃ N : Nat, 2 ^ L = N := ⟨_, rfl⟩
  rw [hN] at htb T hv0
  have hN512 := T.size
  have hl0 : l0.length ≤ 800000 := by have := bitsIn_len hb.lt hbits; omega
  have hnew := fun w (h : Seen w ab bb ob lb zb) => newr_any ab bb ob lb cb zb w h hlb
  rw [hbits] at hnew
  have HNEW := Lib.hid hnew
  have HT := Lib.hid T
  have HTB := Lib.hid htb
  have H := Lib.hid h
  have HB := Lib.hid hb
  obtain ⟨R, hR⟩ : ∃ R, decF Sy Bi Ba L nn l0 = R := ⟨_, rfl⟩
  rw [hR]
  have hdn : decide ((nn : Int) < 0) = false := by simp
  clear hBa hBi hSy hN T htb h hb hok hzm hsum hbits hnew
  cases htk : takeOk (L : Int) l0.length with
  | false =>
    have hRn : R = none := by rw [← hR]; unfold decF; rw [htk]; rfl
    subst hRn
    have HTK := Lib.hid htk
    clear hR htk
    go_enter Try.func26, Try.ntmps26
    go_wp2_with fail
    refine (HTB.out _ H.out).mono ?_
    rintro e w1 ⟨g, rfl, _, _, t1⟩
    have T1 := Lib.hid t1
    clear t1
    go_wp2_with fail
    refine (HNEW.out _ (HB.out.touch T1.out id)).mono ?_
    rintro e w2 ⟨rfl, v, hw2, t2, f2⟩
    have T2 := Lib.hid (T1.out.trans t2)
    have HW2 := Lib.hid hw2
    have hsz : w.heap.size ≤ w1.heap.size := T1.out.size
    clear t2 hw2 f2
    go_wp2_with fail
    refine (take_walk _ v l0 L _ HW2.out (by omega)).mono ?_
    rintro e w3 ⟨rfl, v3, hw3, _, t3⟩
    rw [HTK.out]
    have T3 := Lib.hid (T2.out.then t3 (fun i hi e => by subst e; omega))
    clear t3 hw3
    go_wp2_with fail
    go_ret2
    exact ⟨rfl, T3.out⟩
  | true =>
    have hRs : decE (decK Sy Bi Ba (some (takenV l0 (L : Int), takenL l0 (L : Int), [])) nn) = R := by rw [← hR]; unfold decF; rw [htk]; rfl
    have HTK := Lib.hid htk
    have hlt0 := takenL_le l0 (L : Int)
    obtain ⟨u0, hu0⟩ : ∃ u, takenV l0 (L : Int) = u := ⟨_, rfl⟩
    obtain ⟨l1, hl1⟩ : ∃ u, takenL l0 (L : Int) = u := ⟨_, rfl⟩
    rw [hu0] at hv0 hRs
    rw [hl1] at hRs hlt0
    have hl800 : l1.length ≤ 800000 := by omega
    have HU0 := Lib.hid hu0
    have HL1 := Lib.hid hl1
    have HR := Lib.hid hRs
    obtain ⟨i0, hi, hz0, hz1, hz2⟩ := info_parts Try.info3
    clear hR htk hu0 hl1 hRs hlt0
    go_enter Try.func26, Try.ntmps26
    go_wp2_with fail
    refine (HTB.out _ H.out).mono ?_
    rintro e w1 ⟨g, rfl, hg, htab, t1⟩
    have T1 := Lib.hid t1
    have HTab1 := Lib.hid htab
    clear t1 htab
    go_wp2_with fail
    refine (HNEW.out _ (HB.out.touch T1.out id)).mono ?_
    rintro e w2 ⟨rfl, v, hw2, t2, f2⟩
    have T2 := Lib.hid (T1.out.trans t2)
    have HW2 := Lib.hid hw2
    have HTab2 := Lib.hid (RowAt.touch HTab1.out t2 id)
    have hsz : w.heap.size ≤ w1.heap.size := T1.out.size
    obtain ⟨B, hBB⟩ : ∃ B, w1.heap.size = B := ⟨_, rfl⟩
    rw [hBB] at HW2 hsz f2 ⊢
    have o2 := (OwnB.nil w.heap.size).fresh f2 hsz
    clear t2 hw2 f2 hBB
    go_wp2_with fail
    refine (take_walk _ v l0 L _ HW2.out (by omega)).mono ?_
    rintro e w3 ⟨rfl, v3, hw3, ho3, t3⟩
    rw [HTK.out, HU0.out]
    rw [HL1.out] at hw3
    have T3 := Lib.hid (T2.out.then t3 (fun i hi e => by subst e; omega))
    have HW3 := Lib.hid hw3
    have hgB : ¬ g = B := fun e => foot_tab HW2.out HTab2.out (by decide) (Or.inl e)
    have HTab3 := Lib.hid (RowAt.touch HTab2.out t3 hgB)
    clear t3 hw3 o2 ho3 hgB
    go_wp2_with fail
    go_loopw [14, 15, 49] (fun u_ out_ i wr => ∃ (k u : Nat) (l : List Bool) (o : List Nat) (v vo : Value), k ≤ nn ∧ i = .int .i64 k ∧ u_ = .int .i64 u ∧ out_ = vo ∧ decK Sy Bi Ba (some (u0, l1, [])) k = some (u, l, o) ∧ Wr wr 84 B v l ∧
      wr.ownsRow 0 3 1 vo o.length (o.map fun (x : Nat) => Value.int .i64 (x : Int)) ∧ OwnB w.heap.size vo ∧ TabAt wr g N Sy Bi Ba ∧ Touch (fun _ => False) w wr) (fun _ _ i _ => nn - (intOf i).toNat)
    case atStart => exact ⟨0, u0, l1, [], v3, _, by omega, rfl, rfl, rfl, rfl, HW3.out, World.ownsRow_nil _ _ _ _, OwnB.nil _, HTab3.out, T3.out⟩
    case round =>
      obtain ⟨k, u, l, o, v, vo, hk, rfl, rfl, rfl, hd, hwr, hrow, hown, htab, ht⟩ := hrel
      obtain ⟨hu, hlen, hol, ho32⟩ := decK_bd HT.out hv0 k hd
      have HD := Lib.hid hd
      have HW := Lib.hid hwr
      have HRow := Lib.hid hrow
      have HTab := Lib.hid htab
      clear hd hwr hrow htab HW3 HTab3 ho32
      by_cases hlt : k < nn
      · obtain ⟨k1, k2, k3⟩ := TabAt.get HTab.out hu
        have hbi := HT.out.bi u hu
        have hlo := HT.out.lo u hu
        have hto := tab_top HT.out hu
        obtain ⟨x, hx⟩ : ∃ x : Nat, Sy u = x := ⟨_, rfl⟩
        obtain ⟨yy, hy⟩ : ∃ x : Nat, Bi u = x := ⟨_, rfl⟩
        obtain ⟨qq, hqq⟩ : ∃ x : Int, Ba u = x := ⟨_, rfl⟩
        have hstep : decK Sy Bi Ba (some (u0, l1, [])) (k + 1) = if takeOk (yy : Int) l.length then some ((qq + (takenV l (yy : Int) : Int)).toNat, takenL l (yy : Int), o ++ [x]) else none := by
          rw [decK, HD.out, ← hx, ← hy, ← hqq]; rfl
        rw [hx] at k1
        rw [hy] at k2 hbi
        rw [hqq] at k3 hlo hto
        have hvl := takenV_le l yy hbi
        have HS := Lib.hid hstep
        have hm : nn - (intOf (Value.int .i64 ((k : Int) + 1))).toNat < nn - (intOf (Value.int .i64 (k : Int))).toNat := meas_u hlt
        have HM := Lib.hid hm
        have fu1 := wrap_suc k (by omega)
        have HAPP := Lib.hid (app_max hol hk hnn)
        have HL10 := Lib.hid (show l.length ≤ 1000000 by omega)
        have hBw : w.heap.size ≤ B := hsz
        clear hx hy hqq hstep hm hlen hol hl0 hl800 hv0 hk hnn hN512 hn32 h5 h9
        have hXB : wr.heap.size ≠ B := fun e => by have := lt_of_block HW.out.cell; omega
        obtain ⟨wa, hwa⟩ : ∃ wa, wr.alloc (.cells #[.int .i64 x, .int .i64 yy, .int .i64 qq] 34) = wa := ⟨_, rfl⟩
        have hbox : wa.heap[wr.heap.size]? = some (.cells #[.int .i64 x, .int .i64 yy, .int .i64 qq] 34 (0, 0)) := by rw [← hwa]; exact heap_alloc_new _ _
        have tA := hwa ▸ Touch.new wr (.cells #[.int .i64 x, .int .i64 yy, .int .i64 qq] 34)
        have TA := Lib.hid tA
        have HBox := Lib.hid hbox
        have HWA := Lib.hid hwa
        clear hwa hbox tA
        cases htk : takeOk (yy : Int) l.length with
        | false =>
          have hRn : R = none := by
            have h1 := HS.out
            rw [htk] at h1
            rw [← HR.out, decK_no Sy Bi Ba h1 hlt]; rfl
          subst hRn
          have HTK2 := Lib.hid htk
          clear htk
          go_wp2_with fail
          rw [HWA.out]
          refine (take_walk B v l yy _ (HW.out.touch TA.out id (fun _ _ => id)) HL10.out).mono ?_
          rintro e w5 ⟨rfl, v5, hw5, ho5, t5⟩
          rw [HTK2.out]
          have T5 := Lib.hid ((ht.trans TA.out).then t5 (fun i hi e => by subst e; exact Nat.not_lt.2 hBw hi))
          clear hw5 ho5 t5
          go_wp2_with fail
          go_ret2
          exact ⟨rfl, T5.out⟩
        | true =>
          have hst := HS.out
          rw [htk] at hst
          have HST := Lib.hid hst
          have HTK2 := Lib.hid htk
          clear htk hst
          go_wp2_with fail
          rw [HWA.out]
          refine (take_walk B v l yy _ (HW.out.touch TA.out id (fun _ _ => id)) HL10.out).mono ?_
          rintro e w5 ⟨rfl, v5, hw5, ho5, t5⟩
          rw [HTK2.out]
          have T5 := Lib.hid ((ht.trans TA.out).then t5 (fun i hi e => by subst e; exact Nat.not_lt.2 hBw hi))
          have hb5 := t5.heap HBox.out hXB
          have k0 : w5.cell? ⟨wr.heap.size, 0, none⟩ = some (.int .i64 x) := by rw [cell_of_row _ _ _ _ _ _ hb5]; rfl
          have k2 : w5.cell? ⟨wr.heap.size, 2, none⟩ = some (.int .i64 qq) := by rw [cell_of_row _ _ _ _ _ _ hb5]; rfl
          have hB5 := hw5.cell
          have hrA := (TA.out.row HRow.out (fun _ _ => id))
          have hrow5 := t5.row hrA (fun k hk e => by subst e; exact own_ne hrA (HW.out.touch TA.out id (fun _ _ => id)).cell (by decide) hk)
          have HTab5 := Lib.hid (RowAt.touch (RowAt.touch HTab.out TA.out id) t5 (fun e => foot_tab (HW.out.touch TA.out id (fun _ _ => id)) (RowAt.touch HTab.out TA.out id) (by decide) (Or.inl e)))
          have HW5 := Lib.hid hw5
          have HRow5 := Lib.hid hrow5
          have Hb5 := Lib.hid hb5
          obtain ⟨vv, hvv⟩ : ∃ vv, takenV l (yy : Int) = vv := ⟨_, rfl⟩
          rw [hvv] at hvl
          have hwq := wrap_qv hlo hto hvl
          have hwqi : IntKind.i64.wrap (qq + (vv : Int)) = ((qq + vv).toNat : Nat) := by rw [IntWalk.i64_in _ (by omega)]; omega
          rw [hvv]
          obtain ⟨uu, huu⟩ : ∃ uu, (qq + (vv : Int)).toNat = uu := ⟨_, rfl⟩
          rw [huu] at hwq hwqi
          have hst := HST.out
          rw [hvv, huu] at hst
          simp only [if_true] at hst
          have HST2 := Lib.hid hst
          clear t5 hw5 hb5 hB5 hrA hrow5 ho5 hvv k1 k3 hvl hlo hto hbi huu hst HST
          go_wp2_with (refine wpList_append_mine rfl (.tmp 64) (.tmp 67) 22 22 rfl 3 i0 (.int .i64 0) 1 8 Try.underlying22 hi hz0 hz1 hz2 rfl u15 _ _ rfl ((Touch.new w5 (.cells #[.int .i64 x] 3)).row HRow5.out (fun _ _ => id)) (.slice (some ⟨w5.heap.size, 0, none⟩) 1 1) 1 [.int .i64 x] rfl (src_one w5 Try.underlying22 _ rfl _ rfl) HAPP.out.1 HAPP.out.2 ?_; intro a6 c6 w6 hown6 ht6 hf6 _; have k6 : w6.cell? ⟨wr.heap.size, 2, none⟩ = some (.int .i64 qq) := ht6.cell ((Touch.new w5 _).cell k2 id) (fun e => own_ne HRow5.out Hb5.out (by decide) e))
          have HA := Lib.hid (dec_after (x := x) HW5.out HRow5.out hown HTab5.out T5.out hown6 ht6 hf6)
          clear hown6 ht6 hf6 k6
          go_roundw
          case rel =>
            obtain ⟨r1, r2, r3, r4, r5⟩ := HA.out
            exact ⟨k + 1, uu, _, o ++ [x], v5, _, hlt, by rw [fu1]; go_num, rfl, rfl, HST2.out, r1, r2, r3, r4, r5⟩
          case measure => rw [fu1]; exact HM.out
      · obtain rfl : k = nn := by omega
        have hR2 : decE (some (u, l, o)) = R := by rw [← HR.out, HD.out]
        have hrw := HRow.out
        rw [← cells_list] at hrw
        obtain ⟨ar, br, cr, hvr, hir⟩ := ints_row hrw
        have HIR := Lib.hid hir
        subst hvr
        clear hrw hir hlen hol hl0 hl800 hv0 hnn hN512 hn32 h5 h9
        by_cases hu0 : u = 0
        · subst hu0
          by_cases hll : l.length = 0
          · have hRs : R = some o := by rw [← hR2]; exact decE_yes hll
            subst hRs
            have HLN := Lib.hid hll
            clear hll hR2
            go_wp2_with fail
            refine (left_walk B v l _ HW.out).mono ?_
            rintro e w6 ⟨rfl, rfl⟩
            rw [HLN.out]
            go_wp2_with fail
            go_ret2
            exact ⟨⟨ar, br, cr, rfl, HIR.out⟩, ht⟩
          · have hRs : R = none := by rw [← hR2]; exact decE_no (fun h => hll h.2)
            subst hRs
            obtain ⟨ln, hln⟩ : ∃ ln, l.length = ln := ⟨_, rfl⟩
            have hld : 0 < ln := by omega
            have HLN := Lib.hid hln
            clear hll hR2 hln
            go_wp2_with fail
            refine (left_walk B v l _ HW.out).mono ?_
            rintro e w6 ⟨rfl, rfl⟩
            rw [HLN.out]
            go_wp2_with fail
            go_ret2
            exact ⟨rfl, ht⟩
        · have hRs : R = none := by rw [← hR2]; exact decE_no (fun h => hu0 h.1)
          subst hRs
          clear hR2
          go_wp2_with fail
          go_ret2
          exact ⟨rfl, ht⟩
end Go.Proofs.Ytaacphmbkieacaa
