/- fse: the document's Decode. -/
import Derived.Test.YtaacphmbkieacaaFaV
namespace Go.Proofs.Ytaacphmbkieacaa
open Go.RowKit Go.WideShapes Fs
set_option linter.unusedVariables false
set_option linter.unusedSimpArgs false
set_option maxRecDepth 100000

/-- How many digits bytes hold. -/
def manyIn (z : Nat → Nat) : Nat → Option Nat
  | 0 => none
  | m + 1 => if z m = 0 then none else some (8 * m + Nat.log2 (z m))
theorem bitsIn_many (z : Nat → Nat) (len : Nat) : bitsIn z len = (manyIn z len).map (readBits z) := by
  cases len with
  | zero => rfl
  | succ m =>
    simp only [bitsIn, manyIn]
    split <;> rfl
theorem manyIn_le {z : Nat → Nat} {len M : Nat} (hz : ∀ i, z i < 256) (h : manyIn z len = some M) : M ≤ 8 * len ∧ 0 < len := by
  cases len with
  | zero => cases h
  | succ m =>
    simp only [manyIn] at h
    split at h
    · cases h
    · cases h
      have := log2_lt8 (z m) (hz m)
      omega
def RNewPost (w : World) (sl : Value) (r : Option Nat) (e : Ending) (w' : World) : Prop :=
  match r with
  | none => e = .returned (.tuple #[.pointer none, .bool false]) ∧ w = w'
  | some M => e = .returned (.tuple #[.pointer (some ⟨w.heap.size, 0, none⟩), .bool true]) ∧ Rd w' w.heap.size sl M ∧ Touch (fun _ => False) w w'
theorem rnewr_any (a : Option Addr) (b off len cap : Nat) (z : Nat → Nat) (w : World) (hz : Seen w a b off len z) (hlen : len ≤ 100000) : Calls Try.prog 50 #[.slice a len cap] w (RNewPost w (.slice a len cap) (manyIn z len)) := by
  cases len with
  | zero => exact rnewr_none a cap w
  | succ m =>
    obtain rfl := hz.at_ (by omega)
    simp only [manyIn]
    by_cases h : z m = 0
    · rw [if_pos h]
      exact rnewr_zero b off m cap w (by omega) (by have := hz.cell m (by omega); rwa [h] at this)
    · rw [if_neg h]
      exact rnewr_yes b off m cap z w hz h (by omega)

set_option maxHeartbeats 1000000 in
theorem rdec_no (a ab : Option Addr) (b off n c bb ob lb cb : Nat) (z : Nat → Int) (zb : Nat → Nat) (log q : Int) (w : World) (h : Ints .i64 w a b off n z) (hb : Seen w ab bb ob lb zb) (hlb : lb ≤ 100000) (hn : n ≤ 100000) (hno : isOk z n log = false) :
    Calls Try.prog 27 #[.slice a n c, .int .i64 log, .slice ab lb cb, .int .i64 q] w fun e w' => e = .returned (.tuple #[.slice none 0 0, .bool false]) ∧ Touch (fun _ => False) w w' := by
  have H := Lib.hid h
  have HB := Lib.hid hb
  have HN := Lib.hid hno
  clear h hno hb
  obtain ⟨r, hr⟩ : ∃ r, manyIn zb lb = r := ⟨_, rfl⟩
  have hnew := fun w (h : Seen w ab bb ob lb zb) => rnewr_any ab bb ob lb cb zb w h hlb
  rw [hr] at hnew
  have HNEW := Lib.hid hnew
  clear hr hnew
  cases r with
  | none =>
    go_enter Try.func27, Try.ntmps27
    go_wp2_with fail
    refine (rtable_no a b off n c z log _ H.out hn HN.out).mono ?_
    rintro e w1 ⟨rfl, rfl⟩
    have T1 := Lib.hid (Touch.refl (fun _ => False) w)
    go_wp2_with fail
    refine (HNEW.out _ (HB.out.touch T1.out id)).mono ?_
    rintro e w2 ⟨rfl, rfl⟩
    go_wp2_with fail
    go_ret2
    exact ⟨rfl, T1.out⟩
  | some M =>
    go_enter Try.func27, Try.ntmps27
    go_wp2_with fail
    refine (rtable_no a b off n c z log _ H.out hn HN.out).mono ?_
    rintro e w1 ⟨rfl, rfl⟩
    have T1 := Lib.hid (Touch.refl (fun _ => False) w)
    go_wp2_with fail
    refine (HNEW.out _ (HB.out.touch T1.out id)).mono ?_
    rintro e w2 ⟨rfl, _, t2⟩
    have T2 := Lib.hid (T1.out.trans t2)
    clear t2
    go_wp2_with fail
    go_ret2
    exact ⟨rfl, T2.out⟩
set_option maxHeartbeats 1000000 in
theorem rdec_bad (a ab : Option Addr) (b off n c bb ob lb cb L : Nat) (z : Nat → Int) (zb : Nat → Nat) (q : Int) (w : World) (h : Ints .i64 w a b off n z) (hb : Seen w ab bb ob lb zb) (hlb : lb ≤ 100000) (hok : isOk z n (L : Int) = true) (hbad : manyIn zb lb = none ∨ q < 0) :
    Calls Try.prog 27 #[.slice a n c, .int .i64 L, .slice ab lb cb, .int .i64 q] w fun e w' => e = .returned (.tuple #[.slice none 0 0, .bool false]) ∧ Touch (fun _ => False) w w' := by
  have H := Lib.hid h
  have HB := Lib.hid hb
  have HTB := Lib.hid (fun w h => rtable_yes a b off n c L z w h hok)
  have hnew := fun w (h : Seen w ab bb ob lb zb) => rnewr_any ab bb ob lb cb zb w h hlb
  cases hr : manyIn zb lb with
  | none =>
    rw [hr] at hnew
    have HNEW := Lib.hid hnew
    clear hr hnew hbad h hok hb
    go_enter Try.func27, Try.ntmps27
    go_wp2_with fail
    refine (HTB.out _ H.out).mono ?_
    rintro e w1 ⟨g, rfl, _, _, t1⟩
    have T1 := Lib.hid t1
    clear t1
    go_wp2_with fail
    refine (HNEW.out _ (HB.out.touch T1.out id)).mono ?_
    rintro e w2 ⟨rfl, rfl⟩
    go_wp2_with fail
    go_ret2
    exact ⟨rfl, T1.out⟩
  | some M =>
    have hq : q < 0 := hbad.resolve_left (by rw [hr]; simp)
    have hqd : decide (q < 0) = true := by simpa using hq
    rw [hr] at hnew
    have HNEW := Lib.hid hnew
    clear hr hnew hbad h hok hb
    go_enter Try.func27, Try.ntmps27
    go_wp2_with fail
    refine (HTB.out _ H.out).mono ?_
    rintro e w1 ⟨g, rfl, _, _, t1⟩
    have T1 := Lib.hid t1
    clear t1
    go_wp2_with fail
    refine (HNEW.out _ (HB.out.touch T1.out id)).mono ?_
    rintro e w2 ⟨rfl, _, t2⟩
    have T2 := Lib.hid (T1.out.trans t2)
    clear t2
    go_wp2_with fail
    go_ret2
    exact ⟨rfl, T2.out⟩


/-- Where one number more stands: what the loop keeps. -/
theorem rdec_after {w w5 w6 : World} {B g N x M : Nat} {Sy Bi : Nat → Nat} {Ba : Nat → Int} {sl vo : Value} {o : List Nat} {a6 : Option Addr} {c6 : Nat} (hw5 : Rd w5 B sl M) (hrow : w5.ownsRow 0 3 1 vo o.length (o.map fun (x : Nat) => Value.int .i64 (x : Int))) (hown : OwnB w.heap.size vo) (htab : TabAt w5 g N Sy Bi Ba) (t5 : Touch (fun _ => False) w w5)
    (hown6 : w6.ownsRow 0 3 1 (.slice a6 (o.length + 1) c6) (o.length + 1) ((o.map fun (x : Nat) => Value.int .i64 (x : Int)) ++ [.int .i64 x])) (ht6 : Touch (fun k => vo.ownBlock = some k) (w5.alloc (.cells #[.int .i64 x] 3)) w6) (hf6 : Fresh (w5.alloc (.cells #[.int .i64 x] 3)).heap.size vo (.slice a6 (o.length + 1) c6)) :
    Rd w6 B sl M ∧ w6.ownsRow 0 3 1 (.slice a6 (o.length + 1) c6) (o ++ [x]).length ((o ++ [x]).map fun (x : Nat) => Value.int .i64 (x : Int)) ∧ OwnB w.heap.size (.slice a6 (o.length + 1) c6) ∧ TabAt w6 g N Sy Bi Ba ∧ Touch (fun _ => False) w w6 := by
  have tn := Touch.new w5 (.cells #[.int .i64 x] 3)
  have hrn := tn.row hrow (fun _ _ => id)
  have hwn := hw5.touch tn id
  have htn := RowAt.touch htab tn id
  refine ⟨hwn.touch ht6 (fun e => own_ne hrn hwn.cell (by decide) e), by simpa using hown6, hown.fresh hf6 (Nat.le_trans t5.size tn.size), RowAt.touch htn ht6 (fun e => ?_), own_app (t5.trans tn) hown ht6⟩
  obtain ⟨cur, hc, _⟩ := htn
  exact own_ne hrn hc (by decide) e
theorem takenV_le9 (z : Nat → Nat) (M n : Nat) (h : n ≤ 9) : takenV (readBits z M) (n : Int) ≤ 512 := takenV_le _ _ h
theorem take_bd {M n : Nat} {N : Nat} (h : M ≤ N) : (if takeOk (n : Int) M then M - (n : Int).toNat else M) ≤ N := by split <;> omega

set_option maxHeartbeats 4000000 in
theorem rdec_yes (a ab : Option Addr) (b off n c bb ob lb cb L nn : Nat) (z : Nat → Int) (zb : Nat → Nat) (l0 : List Bool) (w : World) (h : Ints .i64 w a b off n z) (hb : Seen w ab bb ob lb zb) (hbw : 0 < lb → bb < w.heap.size) (hlb : lb ≤ 100000) (hok : isOk z n (L : Int) = true) (hbits : bitsIn zb lb = some l0) (hnn : nn ≤ 100000) :
    Calls Try.prog 27 #[.slice a n c, .int .i64 L, .slice ab lb cb, .int .i64 nn] w (DecPost w (decF (symU (natM z) n L) (fun u => bitsU L (xU (natM z) (symU (natM z) n L) u)) (fun u => baseU L (xU (natM z) (symU (natM z) n L) u)) L nn l0)) := by
  obtain ⟨h5, h9, hn32, hn0, hzm, hsum⟩ := isOk_nat hok
  have htb := fun w h => rtable_yes a b off n c L z w h hok
  have T := tabOk_is h5 h9 (natM z) hsum hn32
  obtain ⟨Ba, hBa⟩ : ∃ f, (fun u => baseU L (xU (natM z) (symU (natM z) n L) u)) = f := ⟨_, rfl⟩
  obtain ⟨Bi, hBi⟩ : ∃ f, (fun u => bitsU L (xU (natM z) (symU (natM z) n L) u)) = f := ⟨_, rfl⟩
  obtain ⟨Sy, hSy⟩ : ∃ f, symU (natM z) n L = f := ⟨_, rfl⟩
  rw [hBa, hBi, hSy] at htb T ⊢
  rw [bitsIn_many] at hbits
  obtain ⟨M0, hM0, rfl⟩ : ∃ M0, manyIn zb lb = some M0 ∧ readBits zb M0 = l0 := by
    cases hm : manyIn zb lb with
    | none => rw [hm] at hbits; cases hbits
    | some M0 => rw [hm] at hbits; exact ⟨M0, rfl, by simpa using hbits⟩
  have hv0 : takenV (readBits zb M0) (L : Int) < 2 ^ L := takenV_lt _ L
  obtain ⟨N, hN⟩ : ∃ N : Nat, 2 ^ L = N := ⟨_, rfl⟩
  rw [hN] at htb T hv0
  have hN512 := T.size
  obtain ⟨hM8, hlb0⟩ := manyIn_le hb.lt hM0
  have hbbw := hbw hlb0
  have hnew := fun w (h : Seen w ab bb ob lb zb) => rnewr_any ab bb ob lb cb zb w h hlb
  rw [hM0] at hnew
  have HNEW := Lib.hid hnew
  have HT := Lib.hid T
  have HTB := Lib.hid htb
  have H := Lib.hid h
  have HB := Lib.hid hb
  obtain ⟨R, hR⟩ : ∃ R, decF Sy Bi Ba L nn (readBits zb M0) = R := ⟨_, rfl⟩
  rw [hR]
  have hdn : decide ((nn : Int) < 0) = false := by simp
  clear hBa hBi hSy hN T htb h hb hok hzm hsum hbits hnew hbw hM0
  obtain ⟨M1, hM1⟩ : ∃ M1, (if takeOk (L : Int) M0 then M0 - (L : Int).toNat else M0) = M1 := ⟨_, rfl⟩
  have hM18 : M1 ≤ 8 * lb := by rw [← hM1]; exact take_bd hM8
  have HM1 := Lib.hid hM1
  clear hM1
  cases htk : takeOk (L : Int) M0 with
  | false =>
    have hRn : R = none := by rw [← hR]; unfold decF; rw [readBits_length, htk]; rfl
    subst hRn
    have HTK := Lib.hid htk
    clear hR htk
    go_enter Try.func27, Try.ntmps27
    go_wp2_with fail
    refine (HTB.out _ H.out).mono ?_
    rintro e w1 ⟨g, rfl, _, _, t1⟩
    have T1 := Lib.hid t1
    clear t1
    go_wp2_with fail
    refine (HNEW.out _ (HB.out.touch T1.out id)).mono ?_
    rintro e w2 ⟨rfl, hw2, t2⟩
    have T2 := Lib.hid (T1.out.trans t2)
    have HW2 := Lib.hid hw2
    have hsz : w.heap.size ≤ w1.heap.size := T1.out.size
    clear t2 hw2
    go_wp2_with fail
    refine (rtake_walk _ bb ob lb cb M0 ab zb L _ HW2.out (HB.out.touch T2.out id) hM8 hlb (by omega)).mono ?_
    rintro e w3 ⟨rfl, hw3, _, t3⟩
    rw [HTK.out]
    have T3 := Lib.hid (T2.out.then t3 (fun i hi e => by subst e; omega))
    clear t3 hw3
    go_wp2_with fail
    go_ret2
    exact ⟨rfl, T3.out⟩
  | true =>
    have hRs : decE (decK Sy Bi Ba (some (takenV (readBits zb M0) (L : Int), takenL (readBits zb M0) (L : Int), [])) nn) = R := by rw [← hR]; unfold decF; rw [readBits_length, htk]; rfl
    have HTK := Lib.hid htk
    obtain ⟨u0, hu0⟩ : ∃ u, takenV (readBits zb M0) (L : Int) = u := ⟨_, rfl⟩
    rw [hu0] at hv0 hRs
    have HU0 := Lib.hid hu0
    have HR0 := Lib.hid hRs
    obtain ⟨i0, hi, hz0, hz1, hz2⟩ := info_parts Try.info3
    clear hR htk hu0 hRs
    go_enter Try.func27, Try.ntmps27
    go_wp2_with fail
    refine (HTB.out _ H.out).mono ?_
    rintro e w1 ⟨g, rfl, hg, htab, t1⟩
    have T1 := Lib.hid t1
    have HTab1 := Lib.hid htab
    clear t1 htab
    go_wp2_with fail
    refine (HNEW.out _ (HB.out.touch T1.out id)).mono ?_
    rintro e w2 ⟨rfl, hw2, t2⟩
    have T2 := Lib.hid (T1.out.trans t2)
    have HW2 := Lib.hid hw2
    have HTab2 := Lib.hid (RowAt.touch HTab1.out t2 id)
    have hsz : w.heap.size ≤ w1.heap.size := T1.out.size
    obtain ⟨B, hBB⟩ : ∃ B, w1.heap.size = B := ⟨_, rfl⟩
    rw [hBB] at HW2 hsz ⊢
    clear t2 hw2 hBB
    have hBb : B ≠ bb := by omega
    go_wp2_with fail
    refine (rtake_walk _ bb ob lb cb M0 ab zb L _ HW2.out (HB.out.touch T2.out id) hM8 hlb hBb).mono ?_
    rintro e w3 ⟨rfl, hw3, hl3, t3⟩
    rw [HTK.out, HU0.out]
    rw [HM1.out] at hw3 hl3
    have hRs := HR0.out
    rw [hl3] at hRs
    have HR := Lib.hid hRs
    have T3 := Lib.hid (T2.out.then t3 (fun i hi e => by subst e; omega))
    have HW3 := Lib.hid hw3
    have hgB : ¬ g = B := fun e => by
      obtain ⟨cur, hc, _⟩ := HTab2.out
      rw [e, HW2.out.cell] at hc; simp at hc
    have HTab3 := Lib.hid (RowAt.touch HTab2.out t3 hgB)
    clear t3 hw3 hgB hl3 hRs HR0
    go_wp2_with fail
    go_loopw [14, 16, 17] (fun u_ out_ i wr => ∃ (k u M : Nat) (o : List Nat) (vo : Value), k ≤ nn ∧ i = .int .i64 k ∧ u_ = .int .i64 u ∧ out_ = vo ∧ decK Sy Bi Ba (some (u0, readBits zb M1, [])) k = some (u, readBits zb M, o) ∧ M ≤ 8 * lb ∧ Rd wr B (.slice ab lb cb) M ∧
      wr.ownsRow 0 3 1 vo o.length (o.map fun (x : Nat) => Value.int .i64 (x : Int)) ∧ OwnB w.heap.size vo ∧ TabAt wr g N Sy Bi Ba ∧ Touch (fun _ => False) w wr) (fun _ _ i _ => nn - (intOf i).toNat)
    case atStart => exact ⟨0, u0, M1, [], _, by omega, rfl, rfl, rfl, rfl, hM18, HW3.out, World.ownsRow_nil _ _ _ _, OwnB.nil _, HTab3.out, T3.out⟩
    case round =>
      obtain ⟨k, u, M, o, vo, hk, rfl, rfl, rfl, hd, hM, hwr, hrow, hown, htab, ht⟩ := hrel
      obtain ⟨hu, hlen, hol, ho32⟩ := decK_bd HT.out hv0 k hd
      have HD := Lib.hid hd
      have HW := Lib.hid hwr
      have HRow := Lib.hid hrow
      have HTab := Lib.hid htab
      clear hd hwr hrow htab HW3 HTab3 ho32
      by_cases hlt : k < nn
      · obtain ⟨k1, k2, k3⟩ := TabAt.get HTab.out hu
        have hbi := HT.out.bi u hu
        have hlo := HT.out.lo u hu
        have hto := tab_top HT.out hu
        obtain ⟨x, hx⟩ : ∃ x : Nat, Sy u = x := ⟨_, rfl⟩
        obtain ⟨yy, hy⟩ : ∃ x : Nat, Bi u = x := ⟨_, rfl⟩
        obtain ⟨qq, hqq⟩ : ∃ x : Int, Ba u = x := ⟨_, rfl⟩
        have hstep : decK Sy Bi Ba (some (u0, readBits zb M1, [])) (k + 1) = if takeOk (yy : Int) M then some ((qq + (takenV (readBits zb M) (yy : Int) : Int)).toNat, takenL (readBits zb M) (yy : Int), o ++ [x]) else none := by
          rw [decK, HD.out, ← hx, ← hy, ← hqq, ← readBits_length zb M]; simp only [decS, readBits_length]
        rw [hx] at k1
        rw [hy] at k2 hbi
        rw [hqq] at k3 hlo hto
        have hvl := takenV_le9 zb M yy hbi
        have HS := Lib.hid hstep
        have hm : nn - (intOf (Value.int .i64 ((k : Int) + 1))).toNat < nn - (intOf (Value.int .i64 (k : Int))).toNat := meas_u hlt
        have HM := Lib.hid hm
        have fu1 := wrap_suc k (by omega)
        have HAPP := Lib.hid (app_max hol hk hnn)
        have hBw : w.heap.size ≤ B := hsz
        have hM2 : (if takeOk (yy : Int) M then M - (yy : Int).toNat else M) ≤ 8 * lb := take_bd hM
        have HM2 := Lib.hid hM2
        have HMM := Lib.hid hM
        have HLB := Lib.hid hlb
        clear hx hy hqq hstep hm hlen hol hv0 hk hnn hN512 hn32 h5 h9 hM2 hM hM8 hM18 hlb
        cases htk : takeOk (yy : Int) M with
        | false =>
          have hRn : R = none := by
            have h1 := HS.out
            rw [htk] at h1
            rw [← HR.out, decK_no Sy Bi Ba h1 hlt]; rfl
          subst hRn
          have HTK2 := Lib.hid htk
          clear htk
          go_wp2_with fail
          refine (rtake_walk B bb ob lb cb M ab zb yy _ HW.out (HB.out.touch ht id) HMM.out HLB.out hBb).mono ?_
          rintro e w5 ⟨rfl, hw5, _, t5⟩
          rw [HTK2.out]
          have T5 := Lib.hid (ht.then t5 (fun i hi e => by subst e; exact Nat.not_lt.2 hBw hi))
          clear hw5 t5
          go_wp2_with fail
          go_ret2
          exact ⟨rfl, T5.out⟩
        | true =>
          have hst := HS.out
          rw [htk] at hst
          have HST := Lib.hid hst
          have HTK2 := Lib.hid htk
          clear htk hst
          go_wp2_with fail
          refine (rtake_walk B bb ob lb cb M ab zb yy _ HW.out (HB.out.touch ht id) HMM.out HLB.out hBb).mono ?_
          rintro e w5 ⟨rfl, hw5, hl5, t5⟩
          rw [HTK2.out]
          obtain ⟨M5, hM5⟩ : ∃ M5, (if takeOk (yy : Int) M then M - (yy : Int).toNat else M) = M5 := ⟨_, rfl⟩
          have hM58 : M5 ≤ 8 * lb := by rw [← hM5]; exact HM2.out
          rw [hM5] at hw5 hl5
          have T5 := Lib.hid (ht.then t5 (fun i hi e => by subst e; exact Nat.not_lt.2 hBw hi))
          have hgB : ¬ g = B := fun e => by
            obtain ⟨cur, hc, _⟩ := HTab.out
            rw [e, HW.out.cell] at hc; simp at hc
          have k0 := t5.cell k1 hgB
          have k2' := t5.cell k3 hgB
          have hrow5 := t5.row HRow.out (fun k hk e => by subst e; exact own_ne HRow.out HW.out.cell (by decide) hk)
          have HTab5 := Lib.hid (RowAt.touch HTab.out t5 hgB)
          have HW5 := Lib.hid hw5
          have HRow5 := Lib.hid hrow5
          obtain ⟨vv, hvv⟩ : ∃ vv, takenV (readBits zb M) (yy : Int) = vv := ⟨_, rfl⟩
          rw [hvv] at hvl
          have hwq := wrap_qv hlo hto hvl
          have hwqi : IntKind.i64.wrap (qq + (vv : Int)) = ((qq + vv).toNat : Nat) := by rw [IntWalk.i64_in _ (by omega)]; omega
          rw [hvv]
          obtain ⟨uu, huu⟩ : ∃ uu, (qq + (vv : Int)).toNat = uu := ⟨_, rfl⟩
          rw [huu] at hwq hwqi
          have hst := HST.out
          rw [hvv, huu, hl5] at hst
          simp only [if_true] at hst
          have HST2 := Lib.hid hst
          have HM58 := Lib.hid hM58
          clear t5 hw5 hrow5 hvv k1 k2 k3 hvl hlo hto hbi huu hst HST hgB hM5 hM58 hl5
          go_wp2_with (refine wpList_append_mine rfl (.tmp 66) (.tmp 72) 22 22 rfl 3 i0 (.int .i64 0) 1 8 Try.underlying22 hi hz0 hz1 hz2 rfl u16 _ _ rfl ((Touch.new w5 (.cells #[.int .i64 x] 3)).row HRow5.out (fun _ _ => id)) (.slice (some ⟨w5.heap.size, 0, none⟩) 1 1) 1 [.int .i64 x] rfl (src_one w5 Try.underlying22 _ rfl _ rfl) HAPP.out.1 HAPP.out.2 ?_; intro a6 c6 w6 hown6 ht6 hf6 _; have k6 : w6.cell? ⟨g, u * 3 + 2, none⟩ = some (.int .i64 qq) := ht6.cell ((Touch.new w5 _).cell k2' id) (fun e => by obtain ⟨cur, hc, _⟩ := HTab5.out; exact own_ne HRow5.out hc (by decide) e))
          have HA := Lib.hid (rdec_after (x := x) HW5.out HRow5.out hown HTab5.out T5.out hown6 ht6 hf6)
          clear hown6 ht6 hf6 k6
          go_roundw
          case rel =>
            obtain ⟨r1, r2, r3, r4, r5⟩ := HA.out
            exact ⟨k + 1, uu, M5, o ++ [x], _, hlt, by first | rfl | (rw [fu1]; go_num) | go_num, rfl, rfl, HST2.out, HM58.out, r1, r2, r3, r4, r5⟩
          case measure => first | exact HM.out | (rw [fu1]; exact HM.out)
      · obtain rfl : k = nn := by omega
        have hR2 : decE (some (u, readBits zb M, o)) = R := by rw [← HR.out, HD.out]
        have hrw := HRow.out
        rw [← cells_list] at hrw
        obtain ⟨ar, br, cr, hvr, hir⟩ := ints_row hrw
        have HIR := Lib.hid hir
        subst hvr
        have kM : wr.cell? ⟨B, 1, none⟩ = some (.int .i64 M) := HW.out.cellN
        clear hrw hir hlen hol hv0 hnn hN512 hn32 h5 h9 hM hM8 hM18 hlb
        by_cases hu0 : u = 0
        · subst hu0
          by_cases hll : M = 0
          · have hRs : R = some o := by rw [← hR2]; exact decE_yes (by rw [readBits_length]; exact hll)
            subst hRs
            subst hll
            clear hR2
            go_wp2_with fail
            go_ret2
            exact ⟨⟨ar, br, cr, rfl, HIR.out⟩, ht⟩
          · have hRs : R = none := by rw [← hR2]; exact decE_no (fun h => hll (by have := h.2; rwa [readBits_length] at this))
            subst hRs
            have hld : 0 < M := by omega
            clear hll hR2
            go_wp2_with fail
            go_ret2
            exact ⟨rfl, ht⟩
        · have hRs : R = none := by rw [← hR2]; exact decE_no (fun h => hu0 h.1)
          subst hRs
          clear hR2
          go_wp2_with fail
          go_ret2
          exact ⟨rfl, ht⟩
end Go.Proofs.Ytaacphmbkieacaa
