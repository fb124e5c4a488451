/- fse: Norm by the document. -/
import Derived.Test.YtaacphmbkieacaaFaE
namespace Go.Proofs.Ytaacphmbkieacaa
open Go.RowKit Go.WideShapes Fs
set_option linter.unusedVariables false
set_option linter.unusedSimpArgs false
set_option maxRecDepth 100000

theorem cnt_bd {z : Nat → Int} {k : Nat} (h : all01 cntOk z k = true) : ∀ i, i < k → 0 ≤ z i ∧ z i ≤ 1073741824 := fun i hi => by
  have := (all01_iff _ z k).1 h i hi
  simpa [cntOk] using this
theorem cnt_sum {z : Nat → Int} {k : Nat} (hk : k ≤ 32) (h : all01 cntOk z k = true) : 0 ≤ sumZ z k ∧ sumZ z k ≤ 34359738368 := by
  have h1 := sumZ_nonneg (z := z) (n := k) (fun i hi => (cnt_bd h i hi).1)
  have h2 := sumZ_le (z := z) (B := 1073741824) (by omega) (n := k) (fun i hi => (cnt_bd h i hi).2)
  omega
theorem cnt_fail {z : Nat → Int} {n k : Nat} (hk : k < n) (h : cntOk (z k) = false) : all01 cntOk z n = false := by
  cases hh : all01 cntOk z n with
  | false => rfl
  | true =>
    have := (all01_iff _ z n).1 hh k hk
    rw [h] at this; cases this

set_option maxHeartbeats 1000000 in
theorem rnorm_no (a : Option Addr) (b off n c : Nat) (z : Nat → Int) (log : Int) (w : World) (h : Ints .i64 w a b off n z) (hn : n ≤ 100000) (hno : normOk z n log = false) :
    Calls Try.prog 16 #[.slice a n c, .int .i64 log] w fun e w' => e = .returned (.tuple #[.slice none 0 0, .bool false]) ∧ w = w' := by
  have H := Lib.hid h
  clear h
  cases hlog : logOk log with
  | false =>
    have hl : log < 5 ∨ (5 ≤ log ∧ 9 < log) := by simp [logOk] at hlog; omega
    clear hlog hno
    rcases hl with hl | ⟨hl, hl2⟩
    all_goals
      go_enter Try.func16, Try.ntmps16
      go_wp2_with fail
      go_ret2
      exact ⟨rfl, rfl⟩
  | true =>
    have hl := hlog
    simp [logOk] at hl
    have p1 : decide (log < 5) = false := by simp; omega
    have p2 : decide (9 < log) = false := by simp; omega
    by_cases hn32 : n ≤ 32
    · have q : decide ((32 : Int) < (n : Int)) = false := by simp; omega
      have hno2 : all01 cntOk z n = true → sumZ z n = 0 := fun hall => by
        have : normOk z n log = (logOk log && decide (n ≤ 32) && all01 cntOk z n && decide (sumZ z n ≠ 0)) := rfl
        rw [this, hlog, hall] at hno
        simp [hn32] at hno
        exact hno
      have HNO := Lib.hid hno2
      obtain ⟨hl1, hl2⟩ := hl
      clear hlog hno hno2
      go_enter Try.func16, Try.ntmps16
      go_wp2_with fail
      go_loop [6, 7] (fun s i => ∃ k : Nat, k ≤ n ∧ i = .int .i64 k ∧ s = .int .i64 (sumZ z k) ∧ all01 cntOk z k = true) (fun _ i => n - (intOf i).toNat)
      case atStart => exact ⟨0, by omega, rfl, rfl, rfl⟩
      case round =>
        obtain ⟨k, hk, rfl, rfl, hall⟩ := hrel
        have HA := Lib.hid hall
        obtain ⟨b1, b2⟩ := cnt_sum (by omega) hall
        clear hall
        by_cases hlt : k < n
        · obtain rfl := H.out.at_ (by omega)
          have e1 := H.out.cell k hlt
          have hnew : sumZ z (k + 1) = sumZ z k + z k := rfl
          have hor : all01 cntOk z (k + 1) = cntOk (z k) := by rw [all01, HA.out]; rfl
          obtain ⟨s, hs⟩ : ∃ s, sumZ z k = s := ⟨_, rfl⟩
          obtain ⟨x, hx⟩ : ∃ x, z k = x := ⟨_, rfl⟩
          rw [hs, hx] at hnew
          rw [hs] at b1 b2
          rw [hx] at e1 hor
          rw [hs]
          have HX := Lib.hid hx
          have HN := Lib.hid hnew
          have HOr := Lib.hid hor
          clear hs hx hnew hor
          by_cases hx0 : x < 0
          · go_wp2_with fail
            go_ret2
            exact ⟨rfl, rfl⟩
          · by_cases hx1 : 1073741824 < x
            · go_wp2_with fail
              go_ret2
              exact ⟨rfl, rfl⟩
            · go_wp2_with fail
              go_round
              case rel => exact ⟨k + 1, by omega, by go_num, by rw [HN.out], by rw [HOr.out]; simp [cntOk]; omega⟩
              case measure => simp [intOf]; omega
        · obtain rfl : k = n := by omega
          have hz := HNO.out HA.out
          obtain ⟨s, hs⟩ : ∃ s, sumZ z k = s := ⟨_, rfl⟩
          rw [hs] at hz
          rw [hs]
          clear hs b1 b2
          subst hz
          go_wp2_with fail
          go_ret2
          exact ⟨rfl, rfl⟩
    · have q : decide ((32 : Int) < (n : Int)) = true := by simp; omega
      obtain ⟨hl1, hl2⟩ := hl
      clear hlog hno
      go_enter Try.func16, Try.ntmps16
      go_wp2_with fail
      go_ret2
      exact ⟨rfl, rfl⟩

set_option maxHeartbeats 4000000 in
theorem rnorm_yes (a : Option Addr) (b off n c L : Nat) (z : Nat → Int) (w : World) (h : Ints .i64 w a b off n z) (hok : normOk z n (L : Int) = true) :
    Calls Try.prog 16 #[.slice a n c, .int .i64 L] w fun e w' => e = .returned (.tuple #[.slice (some ⟨w.heap.size, 0, none⟩) n n, .bool true]) ∧ w'.heap[w.heap.size]? = some (.cells (tabI n (normZ z n L)) 3 (0, 0)) ∧ Touch (fun _ => False) w w' := by
  have H := Lib.hid h
  have hk := hok
  simp only [normOk, Bool.and_eq_true, decide_eq_true_eq] at hk
  obtain ⟨⟨⟨hlog, hn32⟩, hall⟩, hsum⟩ := hk
  have hl := hlog
  simp [logOk] at hl
  have hL9 : L ≤ 9 := by omega
  have hL5 : 5 ≤ L := by omega
  have hpb : (2 : Nat) ^ L ≤ 2 ^ 9 := Nat.pow_le_pow_right (by omega) hL9
  have hpb5 : (2 : Nat) ^ 5 ≤ 2 ^ L := Nat.pow_le_pow_right (by omega) hL5
  have hall' : all01 cntOk z n = true := hall
  have hcb := cnt_bd hall'
  have hn0 : 0 < n := by
    rcases Nat.eq_zero_or_pos n with e | e
    · subst e; exact absurd rfl hsum
    · exact e
  obtain ⟨hA0, hA1⟩ := cnt_sum hn32 hall'
  have hone : ∀ i, i < n → z i ≤ sumZ z n := fun i hi => sumZ_one (fun j hj => (hcb j hj).1) hi
  have hp := wrap_pow L (by omega)
  obtain ⟨Z, hZ⟩ : ∃ Z, normZ z n L = Z := ⟨_, rfl⟩
  rw [hZ]
  unfold normZ at hZ
  obtain ⟨S, hS⟩ : ∃ S : Nat, 2 ^ L = S := ⟨_, rfl⟩
  obtain ⟨A, hA⟩ : ∃ A, sumZ z n = A := ⟨_, rfl⟩
  rw [hA] at hZ hA0 hA1 hsum hone
  rw [hS] at hZ hp hpb hpb5
  have HSt := Lib.hid (fun i (hi : i < n) => startZ_bd (c := z) (all := A) (size := S) (hcb i hi).1 (hone i hi) (by omega))
  have HZ := Lib.hid hZ
  have HAA := Lib.hid hA
  have HALL : Hid (all01 cntOk z n = true) := Lib.hid hall
  have HCB := Lib.hid hcb
  have p1 : decide ((L : Int) < 5) = false := by simp; omega
  have p2 : decide ((9 : Int) < (L : Int)) = false := by simp; omega
  have q : decide ((32 : Int) < (n : Int)) = false := by simp; omega
  have hd : decide ((L : Int) < 0) = false := by simp
  have hw : IntKind.u64.wrap (L : Int) = L := by rw [IntKind.wrap_u64]; omega
  have hA2 : 0 < A := by omega
  have hne : (A == 0) = false := by simp; omega
  have hmk := fun w => make_ints n (by omega) w
  clear h hok hlog hl hall hall' hcb hone hZ hA hS hsum
  go_enter Try.func16, Try.ntmps16
  go_wp2_with fail
  go_loop [6, 7] (fun s i => ∃ k : Nat, k ≤ n ∧ i = .int .i64 k ∧ ∃ ss : Int, s = .int .i64 ss ∧ ss = sumZ z k) (fun _ i => n - (intOf i).toNat)
  case atStart => exact ⟨0, by omega, rfl, 0, rfl, rfl⟩
  case round =>
    obtain ⟨k, hk, rfl, ss, rfl, hss⟩ := hrel
    have hall : all01 cntOk z k = true := (all01_iff _ z k).2 fun i hi => (all01_iff _ z n).1 HALL.out i (by omega)
    obtain ⟨b1, b2⟩ := cnt_sum (by omega) hall
    rw [← hss] at b1 b2
    have HSS := Lib.hid hss
    clear hall hss
    by_cases hlt : k < n
    · obtain rfl := H.out.at_ (by omega)
      have e1 := H.out.cell k hlt
      have hx := HCB.out k hlt
      have hnew : sumZ z (k + 1) = sumZ z k + z k := rfl
      rw [← HSS.out] at hnew
      obtain ⟨x, hxe⟩ : ∃ x, z k = x := ⟨_, rfl⟩
      rw [hxe] at e1 hx hnew
      obtain ⟨hx0, hx1⟩ := hx
      have HN := Lib.hid hnew
      clear hxe hnew
      go_wp2_with fail
      go_round
      case rel => exact ⟨k + 1, by omega, by go_num, _, rfl, by rw [HN.out]⟩
      case measure => simp [intOf]; omega
    · obtain rfl : k = n := by omega
      obtain rfl : ss = A := by rw [HSS.out, HAA.out]
      clear b1 b2
      go_wp2_with fail
      clear hmk
      go_loopw [10, 11] (fun s i wr => ∃ j : Nat, j ≤ k ∧ i = .int .i64 j ∧ s = .int .i64 (sumZ (startZ z ss S) j) ∧ wr.heap[w.heap.size]? = some (.cells (tabI k (fun i => if i < j then startZ z ss S i else 0)) 3 (0, 0)) ∧ Touch (fun _ => False) w wr) (fun _ i _ => k - (intOf i).toNat)
      case atStart => exact ⟨0, by omega, rfl, rfl, heap_alloc_new w _, Touch.new w _⟩
      case round =>
        obtain ⟨j, hj, rfl, rfl, hh, ht⟩ := hrel
        have HH := Lib.hid hh
        have hsbd : 0 ≤ sumZ (startZ z ss S) j ∧ sumZ (startZ z ss S) j ≤ 16384 := by
          have h1 := sumZ_nonneg (z := startZ z ss S) (n := j) (fun i hi => (HSt.out i (by omega)).1)
          have h2 := sumZ_le (z := startZ z ss S) (B := 512) (by omega) (n := j) (fun i hi => by have := (HSt.out i (by omega)).2.1; omega)
          omega
        clear hh
        by_cases hlt2 : j < k
        · obtain rfl := H.out.at_ (by omega)
          have e1 := ht.cell (H.out.cell j hlt2) id
          have hfree := tab_free HH.out j
          have hcell := tab_cell HH.out hlt2
          have hx := HCB.out j hlt2
          have hstb := HSt.out j hlt2
          have hst : startZ z ss S j = if 0 < z j then max 1 (z j * S / ss) else 0 := rfl
          have hnew : sumZ (startZ z ss S) (j + 1) = sumZ (startZ z ss S) j + startZ z ss S j := rfl
          obtain ⟨s1, hs1⟩ : ∃ s, sumZ (startZ z ss S) j = s := ⟨_, rfl⟩
          rw [hs1] at hnew hsbd
          rw [hs1]
          obtain ⟨x, hxe⟩ : ∃ x, z j = x := ⟨_, rfl⟩
          rw [hxe] at e1 hx hst
          obtain ⟨hx0, hx1⟩ := hx
          have HX := Lib.hid hst
          have HNW := Lib.hid hnew
          clear hxe hst hnew hs1
          by_cases hpos : 0 < x
          · obtain ⟨y, hy⟩ : ∃ y, x * (S : Int) = y := ⟨_, rfl⟩
            have hy0 : 0 ≤ y := by rw [← hy]; exact Int.mul_nonneg hx0 (by omega)
            have hy1 : y ≤ 1073741824 * 512 := by rw [← hy]; exact Int.mul_le_mul hx1 (by omega) (by omega) (by omega)
            have hsh : wrap64 (x * (S : Int)) = y := by rw [hy]; unfold wrap64; omega
            have hqd : wrap64 (y.tdiv ss) = y / ss := by
              rw [Int.tdiv_eq_ediv_of_nonneg hy0]
              have h1 := Int.ediv_nonneg hy0 (show 0 ≤ ss by omega)
              have h2 := Int.ediv_le_self ss hy0
              generalize y / ss = q at *
              unfold wrap64; omega
            have hnv : startZ z ss S j = max 1 (y / ss) := by rw [HX.out, if_pos hpos, hy]
            rw [hnv] at hstb
            obtain ⟨v, hv⟩ : ∃ v, max 1 (y / ss) = v := ⟨_, rfl⟩
            rw [hv] at hnv hstb
            obtain ⟨hv0, hv1, _⟩ := hstb
            have HNV := Lib.hid hnv
            have hvl : v ≤ 512 := by omega
            have hcell2 : (wr.setCell ⟨w.heap.size, j, none⟩ (.int .i64 v)).cell? ⟨w.heap.size, j, none⟩ = some (.int .i64 v) := by
              have := tab_cell (tab_store HH.out j (.int .i64 v)) hlt2
              simpa using this
            clear hy hnv
            go_wp2_with fail
            go_roundw
            case rel =>
              refine ⟨j + 1, by omega, by go_num, by rw [HNW.out, HNV.out], ?_, ht.setCell (fun h => by simp at h) _⟩
              refine Eq.trans (tab_store HH.out j _) ?_
              unfold tabI
              congr 2
              apply tab_congr
              intro i _
              by_cases e : i = j
              · subst e; simp [HNV.out]
              · by_cases h1 : i < j
                · simp [e, h1, Nat.lt_succ_of_lt h1]
                · simp [e, h1]; omega
            case measure => simp [intOf]; omega
          · have hnv : startZ z ss S j = 0 := by rw [HX.out, if_neg hpos]
            have HNV := Lib.hid hnv
            clear hnv hstb
            go_wp2_with fail
            go_roundw
            case rel =>
              refine ⟨j + 1, by omega, by go_num, by rw [HNW.out, HNV.out]; go_num, ?_, ht⟩
              refine Eq.trans HH.out ?_
              unfold tabI
              congr 2
              apply tab_congr
              intro i _
              by_cases e : i = j
              · subst e; simp [HNV.out]
              · by_cases h1 : i < j
                · simp [h1, Nat.lt_succ_of_lt h1]
                · simp [h1]; omega
            case measure => simp [intOf]; omega
        · obtain rfl : j = k := by omega
          have hst : wr.heap[w.heap.size]? = some (.cells (tabI j (startZ z ss S)) 3 (0, 0)) := by
            refine Eq.trans HH.out ?_
            unfold tabI
            congr 2
            apply tab_congr
            intro i hi
            simp [hi]
          have HS0 := Lib.hid hst
          have hsum0 : ∀ (zc : Nat → Int), (∀ i, i < j → 0 ≤ zc i ∧ zc i ≤ S) → 0 ≤ sumZ zc j ∧ sumZ zc j ≤ 16384 := fun zc h => by
            have h1 := sumZ_nonneg (z := zc) (n := j) (fun i hi => (h i hi).1)
            have h2 := sumZ_le (z := zc) (B := 512) (by omega) (n := j) (fun i hi => by have := (h i hi).2; omega)
            omega
          have HSM := Lib.hid hsum0
          have HB0 := Lib.hid (show ∀ i, i < j → 0 ≤ startZ z ss S i ∧ startZ z ss S i ≤ S from fun i hi => ⟨(HSt.out i hi).1, (HSt.out i hi).2.1⟩)
          obtain ⟨s0, hs0⟩ : ∃ s, sumZ (startZ z ss S) j = s := ⟨_, rfl⟩
          rw [hs0] at hsbd ⊢
          have HS00 := Lib.hid hs0
          clear hst hsum0 hs0 HH
          go_wp2_with fail
          go_loopw [10, 12, 13, 14] (fun l _ _ _ w2 => ∃ zc : Nat → Int, ∃ s1 : Int, w2.heap[w.heap.size]? = some (.cells (tabI j zc) 3 (0, 0)) ∧ l = .int .i64 s1 ∧ s1 = sumZ zc j ∧ (∀ i, i < j → 0 ≤ zc i ∧ zc i ≤ S) ∧ adj j S (sumZ zc j - S).natAbs zc = Z ∧ Touch (fun _ => False) w w2) (fun l _ _ _ _ => (intOf l - S).natAbs)
          case atStart => exact ⟨startZ z ss S, _, HS0.out, rfl, by rw [HS00.out], HB0.out, HZ.out, ht⟩
          case round =>
            obtain ⟨zc, s1, hh, rfl, hs1, hb, hadj, ht2⟩ := hrel
            have hsb2 := HSM.out zc hb
            have HH := Lib.hid hh
            have HBB := Lib.hid hb
            have HAD := Lib.hid hadj
            have HS1 := Lib.hid hs1
            rw [← hs1] at hsb2
            clear hh hb hadj hs1 HS0
            by_cases h0 : s1 = S
            · have hfin : zc = Z := by rw [← HAD.out, adj_done]; rw [← HS1.out]; omega
              have HF := Lib.hid hfin
              clear hfin
              subst h0
              go_wp2_with fail
              go_ret2
              exact ⟨rfl, by rw [← HF.out]; exact HH.out, ht2⟩
            · have hne0 : (s1 != (S : Int)) = true := by simpa using h0
              have hsne : sumZ zc j ≠ S := by rw [← HS1.out]; omega
              have hmb := mxI_le zc (j - 1)
              have hbb := bump_bd (z := zc) (n := j) (S := S) hn0 (by omega) HBB.out hsne
              have hsn := sumZ_bump zc j S hn0
              have had := adj_step j S zc hn0 hsne
              rw [HAD.out] at had
              have hcells : ∀ q i, i < j → (wr.drewN q).cell? ⟨w.heap.size, i, none⟩ = some (.int .i64 (zc i)) := fun q i hi => (Touch.eq_drewN (S := fun _ => False) wr q).cell (tab_cell HH.out hi) id
              have HCL := Lib.hid hcells
              obtain ⟨W9, rfl⟩ : ∃ W, W = wr := ⟨_, rfl⟩
              clear hcells
              go_wp2_with fail
              go_loopw [12, 13] (fun kk i w3 => ∃ t q : Nat, t ≤ j ∧ i = .int .i64 t ∧ kk = .int .i64 (mxI zc (t - 1) : Nat) ∧ w3 = W9.drewN q) (fun _ i _ => j - (intOf i).toNat)
              case atStart => exact ⟨0, 0, by omega, rfl, rfl, rfl⟩
              case round =>
                obtain ⟨t, q9, ht9, rfl, rfl, rfl⟩ := hrel
                have hm1 := mxI_le zc (t - 1)
                by_cases hlt3 : t < j
                · have e1 : ∀ q, (W9.drewN q).cell? ⟨w.heap.size, t, none⟩ = some (.int .i64 (zc t)) := fun q => HCL.out q t hlt3
                  have e2 : ∀ q, (W9.drewN q).cell? ⟨w.heap.size, mxI zc (t - 1), none⟩ = some (.int .i64 (zc (mxI zc (t - 1)))) := fun q => HCL.out q _ (by omega)
                  have hstep : mxI zc (t + 1 - 1) = if zc (mxI zc (t - 1)) < zc t then t else mxI zc (t - 1) := by
                    cases t with
                    | zero => show 0 = if zc 0 < zc 0 then 0 else 0; split <;> rfl
                    | succ t => rfl
                  have HST := Lib.hid hstep
                  obtain ⟨m, hm⟩ : ∃ m, mxI zc (t - 1) = m := ⟨_, rfl⟩
                  rw [hm] at hm1 e2 HST ⊢
                  have hmj : m < j := by omega
                  clear hstep hm
                  by_cases hgt : zc m < zc t
                  · go_wp2_with fail
                    go_quiet (fail)
                    go_wp2_with fail
                    go_roundw
                    case rel => exact ⟨t + 1, _, by omega, by go_num, by rw [HST.out, if_pos (by omega)], rfl⟩
                    case measure => simp [intOf]; omega
                  · go_wp2_with fail
                    go_quiet (fail)
                    go_wp2_with fail
                    go_roundw
                    case rel => exact ⟨t + 1, _, by omega, by go_num, by rw [HST.out, if_neg (by omega)], rfl⟩
                    case measure => simp [intOf]; omega
                · obtain rfl : t = j := by omega
                  have hbz : bump zc t S (mxI zc (t - 1)) = zc (mxI zc (t - 1)) + if sumZ zc t < S then 1 else -1 := by unfold bump addAt; rw [if_pos rfl]
                  have hbo : ∀ i, i ≠ mxI zc (t - 1) → bump zc t S i = zc i := fun i hi => by unfold bump addAt; rw [if_neg hi]
                  have hbm := HBB.out (mxI zc (t - 1)) (by omega)
                  have hcm : (W9.drewN q9).cell? ⟨w.heap.size, mxI zc (t - 1), none⟩ = some (.int .i64 (zc (mxI zc (t - 1)))) := HCL.out q9 _ (by omega)
                  have hfm : (W9.drewN q9).frozen? ⟨w.heap.size, mxI zc (t - 1), none⟩ = false := tab_free (w := W9.drewN q9) HH.out (mxI zc (t - 1))
                  rw [← HS1.out] at hsn hbz
                  obtain ⟨zb, hzb⟩ : ∃ zb, bump zc t S = zb := ⟨_, rfl⟩
                  obtain ⟨m, hm⟩ : ∃ m, mxI zc (t - 1) = m := ⟨_, rfl⟩
                  rw [hzb] at hbb hsn had hbz hbo
                  rw [hm] at hm1 hbz hbo hbm hcm hfm ⊢
                  obtain ⟨x, hx⟩ : ∃ x, zc m = x := ⟨_, rfl⟩
                  rw [hx] at hbz hbm hcm
                  have hmk' : m < t := by omega
                  have HBO := Lib.hid hbo
                  have HBB2 := Lib.hid hbb
                  have HADD := Lib.hid had
                  obtain ⟨hx0, hx1⟩ := hbm
                  obtain ⟨s2, hs2⟩ : ∃ s, sumZ zb t = s := ⟨_, rfl⟩
                  have hs2b := HSM.out zb hbb
                  rw [hs2] at hsn hs2b
                  have HS2 := Lib.hid hs2
                  have hnewh : ∀ v : Int, v = zb m → ∀ q, ((W9.drewN q).setCell ⟨w.heap.size, m, none⟩ (.int .i64 v)).heap[w.heap.size]? = some (.cells (tabI t zb) 3 (0, 0)) := fun v hv q => by
                    refine Eq.trans (tab_store (w := W9.drewN q) HH.out m _) ?_
                    unfold tabI
                    congr 2
                    apply tab_congr
                    intro i _
                    by_cases e : i = m
                    · subst e; rw [if_pos rfl, hv]
                    · rw [if_neg e, HBO.out i e]
                  have HNH := Lib.hid hnewh
                  clear hbo hbb had hzb hm hx hs2 hnewh
                  by_cases hpos : s1 < S
                  · rw [if_pos hpos] at hsn hbz
                    have hlp : ¬ (S : Int) < s1 := by omega
                    have HBZ := Lib.hid (show x + 1 = zb m by omega)
                    have HSN := Lib.hid hsn
                    clear hbz hsn
                    go_wp2_with fail
                    go_roundw
                    case rel => exact ⟨zb, _, HNH.out _ HBZ.out _, rfl, by rw [HS2.out]; have := HSN.out; omega, HBB2.out, HADD.out.symm, (ht2.drewN _).setCell (fun h => by simp at h) _⟩
                    case measure => simp [intOf]; have := HSN.out; omega
                  · rw [if_neg hpos] at hsn hbz
                    have hlp : (S : Int) < s1 := by omega
                    have HBZ := Lib.hid (show x - 1 = zb m by omega)
                    have HSN := Lib.hid hsn
                    clear hbz hsn
                    go_wp2_with fail
                    go_roundw
                    case rel => exact ⟨zb, _, HNH.out _ HBZ.out _, rfl, by rw [HS2.out]; have := HSN.out; omega, HBB2.out, HADD.out.symm, (ht2.drewN _).setCell (fun h => by simp at h) _⟩
                    case measure => simp [intOf]; have := HSN.out; omega
end Go.Proofs.Ytaacphmbkieacaa
