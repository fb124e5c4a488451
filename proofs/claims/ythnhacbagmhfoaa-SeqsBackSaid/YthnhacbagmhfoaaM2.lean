/- seqs: measures, tables, symbols as digits and back, of the program and of the document: contracts that the claim's later texts use. No condition. -/
import Derived.Test.YthnhacbagmhfoaaM1
import Derived.RangeFuncNested
import Derived.RangeFuncBound
import Derived.RangeFuncCalls
import Derived.RangeFuncLeaves
import Derived.Shelf.Abstract
import Derived.Shelf.RegionOpen
import Derived.WalkKit
import Derived.OwnWalkIn
import Derived.TacticsInMore
import Derived.LoopNIn
import Derived.LoopIn
import Derived.Deep.RegionHeld3
/- fse: Norm, where counts may be. -/
namespace Go.Proofs.Ythnhacbagmhfoaa
open Go.RowKit Go.WideShapes Fs
set_option linter.unusedVariables false
set_option linter.unusedSimpArgs false
set_option maxRecDepth 100000

theorem bump_bd {z : Nat → Int} {n : Nat} {S : Int} (hn : 0 < n) (hS : 0 < S) (h : ∀ i, i < n → 0 ≤ z i ∧ z i ≤ S) (hne : sumZ z n ≠ S) : ∀ i, i < n → 0 ≤ bump z n S i ∧ bump z n S i ≤ S := by
  intro i hi
  have hm := mxI_le z (n - 1)
  have h1 := h i hi
  unfold bump addAt
  split
  · rename_i e
    split
    · rename_i hlt
      have := sumZ_one (z := z) (n := n) (fun j hj => (h j hj).1) hi
      omega
    · rename_i hge
      have : 0 < z i := by
        by_cases h0 : 0 < z i
        · exact h0
        · have h2 := sumZ_le (z := z) (B := 0) (by omega) (n := n) (fun j hj => by have := mxI_ge z (n - 1) j (by omega); rw [← e] at this; omega)
          omega
      omega
  · exact h1

theorem wrap_shl (x : Int) (L : Nat) (hx0 : 0 ≤ x) (hx : x ≤ 1073741824) (hL : L ≤ 9) : wrap64 (x * 2 ^ L) = x * ((2 ^ L : Nat) : Int) := by
  have hpb : (2 : Nat) ^ L ≤ 2 ^ 9 := Nat.pow_le_pow_right (by omega) hL
  have e : ((2 : Int) ^ L) = ((2 ^ L : Nat) : Int) := by simp
  rw [e]
  generalize 2 ^ L = S at *
  have h1 : x * (S : Int) ≤ 1073741824 * 512 := Int.mul_le_mul hx (by omega) (by omega) (by omega)
  have h2 : 0 ≤ x * (S : Int) := Int.mul_nonneg hx0 (by omega)
  unfold wrap64; omega

set_option maxHeartbeats 2000000 in
theorem norm_yes (a : Option Addr) (b off n c L : Nat) (z : Nat → Int) (w : World) (h : Ints .i64 w a b off n z) (hok : normOk z n (L : Int) = true) :
    Calls Try.prog 64 #[.slice a n c, .int .i64 L] w fun e w' => e = .returned (.tuple #[.slice (some ⟨w.heap.size, 0, none⟩) n n, .bool true]) ∧ w'.heap[w.heap.size]? = some (.cells (tabI n (normZ z n L)) 3 (0, 0)) ∧ Touch (fun _ => False) w w' := by
  have H := Lib.hid h
  have hk := hok
  simp only [normOk, Bool.and_eq_true, decide_eq_true_eq] at hk
  obtain ⟨⟨⟨hlog, hn32⟩, hall⟩, hsum⟩ := hk
  have hl := hlog
  simp [logOk] at hl
  have hL9 : L ≤ 9 := by omega
  have hL5 : 5 ≤ L := by omega
  have hpb : (2 : Nat) ^ L ≤ 2 ^ 9 := Nat.pow_le_pow_right (by omega) hL9
  have hpb5 : (2 : Nat) ^ 5 ≤ 2 ^ L := Nat.pow_le_pow_right (by omega) hL5
  have hcb : ∀ i, i < n → 0 ≤ z i ∧ z i ≤ 1073741824 := fun i hi => by
    have := (all01_iff _ z n).1 hall i hi
    simpa using this
  have hbd : ∀ i, i < n → -2147483648 ≤ z i ∧ z i ≤ 2147483648 := fun i hi => by have := hcb i hi; omega
  have hA0 := sumZ_nonneg (z := z) (n := n) (fun i hi => (hcb i hi).1)
  have hA1 := sumZ_le (z := z) (B := 1073741824) (by omega) (n := n) (fun i hi => (hcb i hi).2)
  have hn0 : 0 < n := by
    rcases Nat.eq_zero_or_pos n with e | e
    · subst e; exact absurd rfl hsum
    · exact e
  have hone : ∀ i, i < n → z i ≤ sumZ z n := fun i hi => sumZ_one (fun j hj => (hcb j hj).1) hi
  have hp := wrap_pow L (by omega)
  have hshl := fun x h0 h1 => wrap_shl x L h0 h1 hL9
  obtain ⟨Z, hZ⟩ : ∃ Z, normZ z n L = Z := ⟨_, rfl⟩
  rw [hZ]
  unfold normZ at hZ
  obtain ⟨S, hS⟩ : ∃ S : Nat, 2 ^ L = S := ⟨_, rfl⟩
  obtain ⟨A, hA⟩ : ∃ A, sumZ z n = A := ⟨_, rfl⟩
  rw [hA] at hZ hA0 hA1 hsum hone
  rw [hS] at hZ hp hpb hpb5 hshl
  have HSt := Lib.hid (fun i (hi : i < n) => startZ_bd (c := z) (all := A) (size := S) (hcb i hi).1 (hone i hi) (by omega))
  have HZ := Lib.hid hZ
  have HAA := Lib.hid hA
  have HLG := Lib.hid hlog
  have HALL : Hid (all01 cntOk z n = true) := Lib.hid hall
  have HCB := Lib.hid hcb
  have HBD := Lib.hid hbd
  have HSH := Lib.hid hshl
  have q : decide ((32 : Int) < (n : Int)) = false := by simp; omega
  have hd : decide ((L : Int) < 0) = false := by simp
  have hA2 : 0 < A := by omega
  have hne : (A == 0) = false := by simp; omega
  have hmk := fun w => make_ints n (by omega) w
  clear h hok hlog hl hall hcb hbd hone hZ hA hS hshl hsum
  go_enter Try.func64, Try.ntmps64
  go_wp2_with fail
  refine (log_walk L _).mono ?_
  rintro e w1 ⟨rfl, rfl⟩
  rw [HLG.out]
  go_wp2_with fail
  refine (contains28 a b off n c z _ H.out true HALL.out (by omega)).mono ?_
  rintro e w1 ⟨rfl, rfl⟩
  go_wp2_with fail
  refine (sum_walk a b off n c z _ H.out (by omega) HBD.out).mono ?_
  rintro e w1 ⟨rfl, rfl⟩
  rw [HAA.out]
  go_wp2_with fail
  refine (sum_walk a b off n c z _ H.out (by omega) HBD.out).mono ?_
  rintro e w1 ⟨rfl, rfl⟩
  rw [HAA.out]
  go_wp2_with fail
  clear hmk
  go_loopw [9, 10, 38] (fun _ _ i wr => ∃ k : Nat, k ≤ n ∧ i = .int .i64 k ∧ wr.heap[w.heap.size]? = some (.cells (tabI n (fun i => if i < k then startZ z A S i else 0)) 3 (0, 0)) ∧ Touch (fun _ => False) w wr) (fun _ _ i _ => n - (intOf i).toNat)
  case atStart => exact ⟨0, by omega, rfl, heap_alloc_new w _, Touch.new w _⟩
  case round =>
    obtain ⟨k, hk, rfl, hh, ht⟩ := hrel
    have HH := Lib.hid hh
    clear hh
    by_cases hlt : k < n
    · obtain rfl := H.out.at_ (by omega)
      have e1 := ht.cell (H.out.cell k hlt) id
      have hfree := tab_free HH.out k
      have hcell := tab_cell HH.out hlt
      have hx := HCB.out k hlt
      have hst : startZ z A S k = if 0 < z k then max 1 (z k * S / A) else 0 := rfl
      obtain ⟨x, hxe⟩ : ∃ x, z k = x := ⟨_, rfl⟩
      rw [hxe] at e1 hx hst
      obtain ⟨hx0, hx1⟩ := hx
      have HX := Lib.hid hst
      clear hxe hst
      by_cases hpos : 0 < x
      · have hsh := HSH.out x hx0 hx1
        obtain ⟨y, hy⟩ : ∃ y, x * (S : Int) = y := ⟨_, rfl⟩
        have hy0 : 0 ≤ y := by rw [← hy]; exact Int.mul_nonneg hx0 (by omega)
        have hy1 : y ≤ 1073741824 * 512 := by rw [← hy]; exact Int.mul_le_mul hx1 (by omega) (by omega) (by omega)
        rw [hy] at hsh
        have hqd : wrap64 (y.tdiv A) = y / A := by
          rw [Int.tdiv_eq_ediv_of_nonneg hy0]
          have h1 := Int.ediv_nonneg hy0 (show 0 ≤ A by omega)
          have h2 := Int.ediv_le_self A hy0
          generalize y / A = q at *
          unfold wrap64; omega
        have HY := Lib.hid hy
        clear hy
        go_wp2_with fail
        have hnew : startZ z A S k = max 1 (y / A) := by rw [HX.out, if_pos hpos, HY.out]
        go_roundw
        case rel =>
          refine ⟨k + 1, by omega, by go_num, ?_, ht.setCell (fun h => by simp at h) _⟩
          refine Eq.trans (tab_store HH.out k _) ?_
          unfold tabI
          congr 2
          apply tab_congr
          intro i _
          by_cases e : i = k
          · subst e; simp [hnew]
          · by_cases h1 : i < k
            · simp [e, h1, Nat.lt_succ_of_lt h1]
            · simp [e, h1]; omega
        case measure => simp [intOf]; omega
      · have hnew : startZ z A S k = 0 := by rw [HX.out, if_neg hpos]
        have HNW := Lib.hid hnew
        clear hnew
        go_wp2_with fail
        go_roundw
        case rel =>
          refine ⟨k + 1, by omega, by go_num, ?_, ht⟩
          refine Eq.trans HH.out ?_
          unfold tabI
          congr 2
          apply tab_congr
          intro i _
          by_cases e : i = k
          · subst e; simp [HNW.out]
          · by_cases h1 : i < k
            · simp [h1, Nat.lt_succ_of_lt h1]
            · simp [h1]; omega
        case measure => simp [intOf]; omega
    · obtain rfl : k = n := by omega
      have hst : wr.heap[w.heap.size]? = some (.cells (tabI k (startZ z A S)) 3 (0, 0)) := by
        refine Eq.trans HH.out ?_
        unfold tabI
        congr 2
        apply tab_congr
        intro i hi
        simp [hi]
      have HS0 := Lib.hid hst
      have hsum0 : ∀ (zc : Nat → Int), (∀ i, i < k → 0 ≤ zc i ∧ zc i ≤ S) → 0 ≤ sumZ zc k ∧ sumZ zc k ≤ 16384 := fun zc h => by
        have h1 := sumZ_nonneg (z := zc) (n := k) (fun i hi => (h i hi).1)
        have h2 := sumZ_le (z := zc) (B := 512) (by omega) (n := k) (fun i hi => by have := (h i hi).2; omega)
        omega
      have HSM := Lib.hid hsum0
      have HSumW := Lib.hid (fun (w2 : World) (zc : Nat → Int) (hh : w2.heap[w.heap.size]? = some (.cells (tabI k zc) 3 (0, 0))) (hb : ∀ i, i < k → 0 ≤ zc i ∧ zc i ≤ S) => sum_walk (some ⟨w.heap.size, 0, none⟩) w.heap.size 0 k k zc w2 ⟨fun _ => rfl, fun i hi => by rw [Nat.zero_add]; exact tab_cell hh hi⟩ (by omega) (fun i hi => by have := hb i hi; omega))
      have hb0 : ∀ i, i < k → 0 ≤ startZ z A S i ∧ startZ z A S i ≤ S := fun i hi => ⟨(HSt.out i hi).1, (HSt.out i hi).2.1⟩
      obtain ⟨s0, hs0⟩ : ∃ s, sumZ (startZ z A S) k = s := ⟨_, rfl⟩
      have hsb := HSM.out _ hb0
      rw [hs0] at hsb
      have HS00 := Lib.hid hs0
      have HB0 := Lib.hid hb0
      have hsc : ∀ q, Calls Try.prog 85 #[.slice (some ⟨w.heap.size, 0, none⟩) k k] (wr.drewN q) fun e w' => e = .returned (.int .i64 s0) ∧ wr.drewN q = w' := fun q => by
        have := HSumW.out (wr.drewN q) (startZ z A S) HS0.out HB0.out
        rw [HS00.out] at this; exact this
      have HSC := Lib.hid hsc
      have f1 : IntKind.i64.wrap ((S : Int) - s0) = (S : Int) - s0 := IntWalk.i64_in _ (by omega)
      have fp : IntKind.i64.wrap ((2 : Int) ^ L) = (S : Int) := by
        have e := hp
        generalize (2 : Int) ^ L = t at e ⊢
        unfold wrap64 at e
        rw [IntKind.wrap_i64]; omega
      clear hst hsum0 hb0 hs0 hsc HH
      go_wp2_with fail
      go_quiet ((go_at_call 85; exact quiet_same (HSC.out _)))
      go_wp2_with fail
      go_loopw [11, 12] (fun l _ w2 => ∃ zc : Nat → Int, ∃ ll : Int, w2.heap[w.heap.size]? = some (.cells (tabI k zc) 3 (0, 0)) ∧ l = .int .i64 ll ∧ ll = (S : Int) - sumZ zc k ∧ (∀ i, i < k → 0 ≤ zc i ∧ zc i ≤ S) ∧ adj k S (sumZ zc k - S).natAbs zc = Z ∧ Touch (fun _ => False) w w2) (fun l _ _ => (intOf l).natAbs)
      case atStart => exact ⟨startZ z A S, _, HS0.out, rfl, by rw [HS00.out], HB0.out, HZ.out, ht.drewN _⟩
      case round =>
        obtain ⟨zc, ll, hh, rfl, hll, hb, hadj, ht2⟩ := hrel
        have hsb2 := HSM.out zc hb
        have HH := Lib.hid hh
        have HBB := Lib.hid hb
        have HAD := Lib.hid hadj
        have HLL := Lib.hid hll
        obtain ⟨s1, hs1⟩ : ∃ s, sumZ zc k = s := ⟨_, rfl⟩
        rw [hs1] at hll hsb2
        have HS1 := Lib.hid hs1
        clear hh hb hadj hs1 HSC f1 HS0
        by_cases h0 : ll = 0
        · have hfin : zc = Z := by rw [← HAD.out, adj_done]; rw [HS1.out]; omega
          have HF := Lib.hid hfin
          clear hfin hll
          subst h0
          go_wp2_with fail
          go_ret2
          exact ⟨rfl, by rw [← HF.out]; exact HH.out, ht2⟩
        · have hne0 : (ll != 0) = true := by simpa using h0
          have hsne : sumZ zc k ≠ S := by rw [HS1.out]; omega
          have hmb := mxI_le zc (k - 1)
          have hbb := bump_bd (z := zc) (n := k) (S := S) hn0 (by omega) HBB.out hsne
          have hsn := sumZ_bump zc k S hn0
          have had := adj_step k S zc hn0 hsne
          rw [HAD.out] at had
          have hcells : ∀ i, i < k → wr.cell? ⟨w.heap.size, i, none⟩ = some (.int .i64 (zc i)) := fun i hi => tab_cell HH.out hi
          have HG := Lib.hid (fun (o : Unit) => greatest_walk w.heap.size k k zc wr hn0 (by omega) hcells)
          have HF := Lib.hid (fun (o : Unit) => first_walk w.heap.size k k zc wr hn0 (by omega) hcells)
          have hbz : bump zc k S (mxI zc (k - 1)) = zc (mxI zc (k - 1)) + if sumZ zc k < S then 1 else -1 := by unfold bump addAt; rw [if_pos rfl]
          have hbo : ∀ i, i ≠ mxI zc (k - 1) → bump zc k S i = zc i := fun i hi => by unfold bump addAt; rw [if_neg hi]
          have hbm := HBB.out (mxI zc (k - 1)) (by omega)
          have hcm := hcells (mxI zc (k - 1)) (by omega)
          have hfm := tab_free HH.out (mxI zc (k - 1))
          rw [HS1.out] at hsn hbz
          obtain ⟨zb, hzb⟩ : ∃ zb, bump zc k S = zb := ⟨_, rfl⟩
          obtain ⟨m, hm⟩ : ∃ m, mxI zc (k - 1) = m := ⟨_, rfl⟩
          rw [hzb] at hbb hsn had hbz hbo
          rw [hm] at hmb hbz hbo hbm hcm hfm HG HF
          obtain ⟨x, hx⟩ : ∃ x, zc m = x := ⟨_, rfl⟩
          rw [hx] at hbz hbm hcm HG HF
          have hmk' : m < k := by omega
          have HBO := Lib.hid hbo
          have HBB2 := Lib.hid hbb
          have HADD := Lib.hid had
          obtain ⟨hx0, hx1⟩ := hbm
          obtain ⟨s2, hs2⟩ : ∃ s, sumZ zb k = s := ⟨_, rfl⟩
          have hs2b := HSM.out zb hbb
          rw [hs2] at hsn hs2b
          have HS2 := Lib.hid hs2
          have hnewh : ∀ v : Int, v = zb m → (wr.setCell ⟨w.heap.size, m, none⟩ (.int .i64 v)).heap[w.heap.size]? = some (.cells (tabI k zb) 3 (0, 0)) := fun v hv => by
            refine Eq.trans (tab_store HH.out m _) ?_
            unfold tabI
            congr 2
            apply tab_congr
            intro i _
            by_cases e : i = m
            · subst e; rw [if_pos rfl, hv]
            · rw [if_neg e, HBO.out i e]
          have HNH := Lib.hid hnewh
          have hsw : ∀ v : Int, v = zb m → ∀ q, Calls Try.prog 85 #[.slice (some ⟨w.heap.size, 0, none⟩) k k] ((wr.setCell ⟨w.heap.size, m, none⟩ (.int .i64 v)).drewN q) fun e w' => e = .returned (.int .i64 s2) ∧ (wr.setCell ⟨w.heap.size, m, none⟩ (.int .i64 v)).drewN q = w' := fun v hv q => by
            have := HSumW.out ((wr.setCell ⟨w.heap.size, m, none⟩ (.int .i64 v)).drewN q) zb (HNH.out v hv) HBB2.out
            rw [HS2.out] at this; exact this
          have HSW := Lib.hid hsw
          have f2 : IntKind.i64.wrap ((S : Int) - s2) = (S : Int) - s2 := IntWalk.i64_in _ (by omega)
          clear hcells hbo hbb had hzb hm hx hs2 hnewh hsw
          by_cases hpos : s1 < S
          · rw [if_pos hpos] at hsn hbz
            have hlp : 0 < ll := by omega
            have HBZ := Lib.hid hbz.symm
            have HSN := Lib.hid hsn
            clear hll hbz hsn
            go_wp2_with fail
            refine (HG.out ()).mono ?_
            rintro e w5 ⟨rfl, rfl⟩
            go_wp2_with fail
            refine (HF.out ()).mono ?_
            rintro e w5 ⟨rfl, rfl⟩
            go_wp2_with fail
            go_quiet ((go_at_call 85; exact quiet_same (HSW.out _ HBZ.out _)))
            go_wp2_with fail
            go_roundw
            case rel => exact ⟨zb, _, HNH.out _ HBZ.out, rfl, by rw [HS2.out], HBB2.out, HADD.out.symm, (ht2.setCell (fun h => by simp at h) _).drewN _⟩
            case measure => simp [intOf]; have := HSN.out; have := HLL.out; rw [HS1.out] at this; omega
          · rw [if_neg hpos] at hsn hbz
            have hlp : ¬ 0 < ll := by omega
            have HBZ := Lib.hid (show x - 1 = zb m by omega)
            have HSN := Lib.hid hsn
            clear hll hbz hsn
            go_wp2_with fail
            refine (HG.out ()).mono ?_
            rintro e w5 ⟨rfl, rfl⟩
            go_wp2_with fail
            refine (HF.out ()).mono ?_
            rintro e w5 ⟨rfl, rfl⟩
            go_wp2_with fail
            go_quiet ((go_at_call 85; exact quiet_same (HSW.out _ HBZ.out _)))
            go_wp2_with fail
            go_roundw
            case rel => exact ⟨zb, _, HNH.out _ HBZ.out, rfl, by rw [HS2.out], HBB2.out, HADD.out.symm, (ht2.setCell (fun h => by simp at h) _).drewN _⟩
            case measure => simp [intOf]; have := HSN.out; have := HLL.out; rw [HS1.out] at this; omega
end Go.Proofs.Ythnhacbagmhfoaa

/- fse: Norm by the document. -/
namespace Go.Proofs.Ythnhacbagmhfoaa
open Go.RowKit Go.WideShapes Fs
set_option linter.unusedVariables false
set_option linter.unusedSimpArgs false
set_option maxRecDepth 100000

theorem cnt_bd {z : Nat → Int} {k : Nat} (h : all01 cntOk z k = true) : ∀ i, i < k → 0 ≤ z i ∧ z i ≤ 1073741824 := fun i hi => by
  have := (all01_iff _ z k).1 h i hi
  simpa [cntOk] using this
theorem cnt_sum {z : Nat → Int} {k : Nat} (hk : k ≤ 32) (h : all01 cntOk z k = true) : 0 ≤ sumZ z k ∧ sumZ z k ≤ 34359738368 := by
  have h1 := sumZ_nonneg (z := z) (n := k) (fun i hi => (cnt_bd h i hi).1)
  have h2 := sumZ_le (z := z) (B := 1073741824) (by omega) (n := k) (fun i hi => (cnt_bd h i hi).2)
  omega
theorem cnt_fail {z : Nat → Int} {n k : Nat} (hk : k < n) (h : cntOk (z k) = false) : all01 cntOk z n = false := by
  cases hh : all01 cntOk z n with
  | false => rfl
  | true =>
    have := (all01_iff _ z n).1 hh k hk
    rw [h] at this; cases this

set_option maxHeartbeats 1000000 in
theorem rnorm_no (a : Option Addr) (b off n c : Nat) (z : Nat → Int) (log : Int) (w : World) (h : Ints .i64 w a b off n z) (hn : n ≤ 100000) (hno : normOk z n log = false) :
    Calls Try.prog 75 #[.slice a n c, .int .i64 log] w fun e w' => e = .returned (.tuple #[.slice none 0 0, .bool false]) ∧ w = w' := by
  have H := Lib.hid h
  clear h
  cases hlog : logOk log with
  | false =>
    have hl : log < 5 ∨ (5 ≤ log ∧ 9 < log) := by simp [logOk] at hlog; omega
    clear hlog hno
    rcases hl with hl | ⟨hl, hl2⟩
    all_goals
      go_enter Try.func75, Try.ntmps75
      go_wp2_with fail
      go_ret2
      exact ⟨rfl, rfl⟩
  | true =>
    have hl := hlog
    simp [logOk] at hl
    have p1 : decide (log < 5) = false := by simp; omega
    have p2 : decide (9 < log) = false := by simp; omega
    by_cases hn32 : n ≤ 32
    · have q : decide ((32 : Int) < (n : Int)) = false := by simp; omega
      have hno2 : all01 cntOk z n = true → sumZ z n = 0 := fun hall => by
        have : normOk z n log = (logOk log && decide (n ≤ 32) && all01 cntOk z n && decide (sumZ z n ≠ 0)) := rfl
        rw [this, hlog, hall] at hno
        simp [hn32] at hno
        exact hno
      have HNO := Lib.hid hno2
      obtain ⟨hl1, hl2⟩ := hl
      clear hlog hno hno2
      go_enter Try.func75, Try.ntmps75
      go_wp2_with fail
      go_loop [6, 7] (fun s i => ∃ k : Nat, k ≤ n ∧ i = .int .i64 k ∧ s = .int .i64 (sumZ z k) ∧ all01 cntOk z k = true) (fun _ i => n - (intOf i).toNat)
      case atStart => exact ⟨0, by omega, rfl, rfl, rfl⟩
      case round =>
        obtain ⟨k, hk, rfl, rfl, hall⟩ := hrel
        have HA := Lib.hid hall
        obtain ⟨b1, b2⟩ := cnt_sum (by omega) hall
        clear hall
        by_cases hlt : k < n
        · obtain rfl := H.out.at_ (by omega)
          have e1 := H.out.cell k hlt
          have hnew : sumZ z (k + 1) = sumZ z k + z k := rfl
          have hor : all01 cntOk z (k + 1) = cntOk (z k) := by rw [all01, HA.out]; rfl
          obtain ⟨s, hs⟩ : ∃ s, sumZ z k = s := ⟨_, rfl⟩
          obtain ⟨x, hx⟩ : ∃ x, z k = x := ⟨_, rfl⟩
          rw [hs, hx] at hnew
          rw [hs] at b1 b2
          rw [hx] at e1 hor
          rw [hs]
          have HX := Lib.hid hx
          have HN := Lib.hid hnew
          have HOr := Lib.hid hor
          clear hs hx hnew hor
          by_cases hx0 : x < 0
          · go_wp2_with fail
            go_ret2
            exact ⟨rfl, rfl⟩
          · by_cases hx1 : 1073741824 < x
            · go_wp2_with fail
              go_ret2
              exact ⟨rfl, rfl⟩
            · go_wp2_with fail
              go_round
              case rel => exact ⟨k + 1, by omega, by go_num, by rw [HN.out], by rw [HOr.out]; simp [cntOk]; omega⟩
              case measure => simp [intOf]; omega
        · obtain rfl : k = n := by omega
          have hz := HNO.out HA.out
          obtain ⟨s, hs⟩ : ∃ s, sumZ z k = s := ⟨_, rfl⟩
          rw [hs] at hz
          rw [hs]
          clear hs b1 b2
          subst hz
          go_wp2_with fail
          go_ret2
          exact ⟨rfl, rfl⟩
    · have q : decide ((32 : Int) < (n : Int)) = true := by simp; omega
      obtain ⟨hl1, hl2⟩ := hl
      clear hlog hno
      go_enter Try.func75, Try.ntmps75
      go_wp2_with fail
      go_ret2
      exact ⟨rfl, rfl⟩

set_option maxHeartbeats 4000000 in
theorem rnorm_yes (a : Option Addr) (b off n c L : Nat) (z : Nat → Int) (w : World) (h : Ints .i64 w a b off n z) (hok : normOk z n (L : Int) = true) :
    Calls Try.prog 75 #[.slice a n c, .int .i64 L] w fun e w' => e = .returned (.tuple #[.slice (some ⟨w.heap.size, 0, none⟩) n n, .bool true]) ∧ w'.heap[w.heap.size]? = some (.cells (tabI n (normZ z n L)) 3 (0, 0)) ∧ Touch (fun _ => False) w w' := by
  have H := Lib.hid h
  have hk := hok
  simp only [normOk, Bool.and_eq_true, decide_eq_true_eq] at hk
  obtain ⟨⟨⟨hlog, hn32⟩, hall⟩, hsum⟩ := hk
  have hl := hlog
  simp [logOk] at hl
  have hL9 : L ≤ 9 := by omega
  have hL5 : 5 ≤ L := by omega
  have hpb : (2 : Nat) ^ L ≤ 2 ^ 9 := Nat.pow_le_pow_right (by omega) hL9
  have hpb5 : (2 : Nat) ^ 5 ≤ 2 ^ L := Nat.pow_le_pow_right (by omega) hL5
  have hall' : all01 cntOk z n = true := hall
  have hcb := cnt_bd hall'
  have hn0 : 0 < n := by
    rcases Nat.eq_zero_or_pos n with e | e
    · subst e; exact absurd rfl hsum
    · exact e
  obtain ⟨hA0, hA1⟩ := cnt_sum hn32 hall'
  have hone : ∀ i, i < n → z i ≤ sumZ z n := fun i hi => sumZ_one (fun j hj => (hcb j hj).1) hi
  have hp := wrap_pow L (by omega)
  obtain ⟨Z, hZ⟩ : ∃ Z, normZ z n L = Z := ⟨_, rfl⟩
  rw [hZ]
  unfold normZ at hZ
  obtain ⟨S, hS⟩ : ∃ S : Nat, 2 ^ L = S := ⟨_, rfl⟩
  obtain ⟨A, hA⟩ : ∃ A, sumZ z n = A := ⟨_, rfl⟩
  rw [hA] at hZ hA0 hA1 hsum hone
  rw [hS] at hZ hp hpb hpb5
  have HSt := Lib.hid (fun i (hi : i < n) => startZ_bd (c := z) (all := A) (size := S) (hcb i hi).1 (hone i hi) (by omega))
  have HZ := Lib.hid hZ
  have HAA := Lib.hid hA
  have HALL : Hid (all01 cntOk z n = true) := Lib.hid hall
  have HCB := Lib.hid hcb
  have p1 : decide ((L : Int) < 5) = false := by simp; omega
  have p2 : decide ((9 : Int) < (L : Int)) = false := by simp; omega
  have q : decide ((32 : Int) < (n : Int)) = false := by simp; omega
  have hd : decide ((L : Int) < 0) = false := by simp
  have hw : IntKind.u64.wrap (L : Int) = L := by rw [IntKind.wrap_u64]; omega
  have hA2 : 0 < A := by omega
  have hne : (A == 0) = false := by simp; omega
  have hmk := fun w => make_ints n (by omega) w
  clear h hok hlog hl hall hall' hcb hone hZ hA hS hsum
  go_enter Try.func75, Try.ntmps75
  go_wp2_with fail
  go_loop [6, 7] (fun s i => ∃ k : Nat, k ≤ n ∧ i = .int .i64 k ∧ ∃ ss : Int, s = .int .i64 ss ∧ ss = sumZ z k) (fun _ i => n - (intOf i).toNat)
  case atStart => exact ⟨0, by omega, rfl, 0, rfl, rfl⟩
  case round =>
    obtain ⟨k, hk, rfl, ss, rfl, hss⟩ := hrel
    have hall : all01 cntOk z k = true := (all01_iff _ z k).2 fun i hi => (all01_iff _ z n).1 HALL.out i (by omega)
    obtain ⟨b1, b2⟩ := cnt_sum (by omega) hall
    rw [← hss] at b1 b2
    have HSS := Lib.hid hss
    clear hall hss
    by_cases hlt : k < n
    · obtain rfl := H.out.at_ (by omega)
      have e1 := H.out.cell k hlt
      have hx := HCB.out k hlt
      have hnew : sumZ z (k + 1) = sumZ z k + z k := rfl
      rw [← HSS.out] at hnew
      obtain ⟨x, hxe⟩ : ∃ x, z k = x := ⟨_, rfl⟩
      rw [hxe] at e1 hx hnew
      obtain ⟨hx0, hx1⟩ := hx
      have HN := Lib.hid hnew
      clear hxe hnew
      go_wp2_with fail
      go_round
      case rel => exact ⟨k + 1, by omega, by go_num, _, rfl, by rw [HN.out]⟩
      case measure => simp [intOf]; omega
    · obtain rfl : k = n := by omega
      obtain rfl : ss = A := by rw [HSS.out, HAA.out]
      clear b1 b2
      go_wp2_with fail
      clear hmk
      go_loopw [10, 11] (fun s i wr => ∃ j : Nat, j ≤ k ∧ i = .int .i64 j ∧ s = .int .i64 (sumZ (startZ z ss S) j) ∧ wr.heap[w.heap.size]? = some (.cells (tabI k (fun i => if i < j then startZ z ss S i else 0)) 3 (0, 0)) ∧ Touch (fun _ => False) w wr) (fun _ i _ => k - (intOf i).toNat)
      case atStart => exact ⟨0, by omega, rfl, rfl, heap_alloc_new w _, Touch.new w _⟩
      case round =>
        obtain ⟨j, hj, rfl, rfl, hh, ht⟩ := hrel
        have HH := Lib.hid hh
        have hsbd : 0 ≤ sumZ (startZ z ss S) j ∧ sumZ (startZ z ss S) j ≤ 16384 := by
          have h1 := sumZ_nonneg (z := startZ z ss S) (n := j) (fun i hi => (HSt.out i (by omega)).1)
          have h2 := sumZ_le (z := startZ z ss S) (B := 512) (by omega) (n := j) (fun i hi => by have := (HSt.out i (by omega)).2.1; omega)
          omega
        clear hh
        by_cases hlt2 : j < k
        · obtain rfl := H.out.at_ (by omega)
          have e1 := ht.cell (H.out.cell j hlt2) id
          have hfree := tab_free HH.out j
          have hcell := tab_cell HH.out hlt2
          have hx := HCB.out j hlt2
          have hstb := HSt.out j hlt2
          have hst : startZ z ss S j = if 0 < z j then max 1 (z j * S / ss) else 0 := rfl
          have hnew : sumZ (startZ z ss S) (j + 1) = sumZ (startZ z ss S) j + startZ z ss S j := rfl
          obtain ⟨s1, hs1⟩ : ∃ s, sumZ (startZ z ss S) j = s := ⟨_, rfl⟩
          rw [hs1] at hnew hsbd
          rw [hs1]
          obtain ⟨x, hxe⟩ : ∃ x, z j = x := ⟨_, rfl⟩
          rw [hxe] at e1 hx hst
          obtain ⟨hx0, hx1⟩ := hx
          have HX := Lib.hid hst
          have HNW := Lib.hid hnew
          clear hxe hst hnew hs1
          by_cases hpos : 0 < x
          · obtain ⟨y, hy⟩ : ∃ y, x * (S : Int) = y := ⟨_, rfl⟩
            have hy0 : 0 ≤ y := by rw [← hy]; exact Int.mul_nonneg hx0 (by omega)
            have hy1 : y ≤ 1073741824 * 512 := by rw [← hy]; exact Int.mul_le_mul hx1 (by omega) (by omega) (by omega)
            have hsh : wrap64 (x * (S : Int)) = y := by rw [hy]; unfold wrap64; omega
            have hqd : wrap64 (y.tdiv ss) = y / ss := by
              rw [Int.tdiv_eq_ediv_of_nonneg hy0]
              have h1 := Int.ediv_nonneg hy0 (show 0 ≤ ss by omega)
              have h2 := Int.ediv_le_self ss hy0
              generalize y / ss = q at *
              unfold wrap64; omega
            have hnv : startZ z ss S j = max 1 (y / ss) := by rw [HX.out, if_pos hpos, hy]
            rw [hnv] at hstb
            obtain ⟨v, hv⟩ : ∃ v, max 1 (y / ss) = v := ⟨_, rfl⟩
            rw [hv] at hnv hstb
            obtain ⟨hv0, hv1, _⟩ := hstb
            have HNV := Lib.hid hnv
            have hvl : v ≤ 512 := by omega
            have hcell2 : (wr.setCell ⟨w.heap.size, j, none⟩ (.int .i64 v)).cell? ⟨w.heap.size, j, none⟩ = some (.int .i64 v) := by
              have := tab_cell (tab_store HH.out j (.int .i64 v)) hlt2
              simpa using this
            clear hy hnv
            go_wp2_with fail
            go_roundw
            case rel =>
              refine ⟨j + 1, by omega, by go_num, by rw [HNW.out, HNV.out], ?_, ht.setCell (fun h => by simp at h) _⟩
              refine Eq.trans (tab_store HH.out j _) ?_
              unfold tabI
              congr 2
              apply tab_congr
              intro i _
              by_cases e : i = j
              · subst e; simp [HNV.out]
              · by_cases h1 : i < j
                · simp [e, h1, Nat.lt_succ_of_lt h1]
                · simp [e, h1]; omega
            case measure => simp [intOf]; omega
          · have hnv : startZ z ss S j = 0 := by rw [HX.out, if_neg hpos]
            have HNV := Lib.hid hnv
            clear hnv hstb
            go_wp2_with fail
            go_roundw
            case rel =>
              refine ⟨j + 1, by omega, by go_num, by rw [HNW.out, HNV.out]; go_num, ?_, ht⟩
              refine Eq.trans HH.out ?_
              unfold tabI
              congr 2
              apply tab_congr
              intro i _
              by_cases e : i = j
              · subst e; simp [HNV.out]
              · by_cases h1 : i < j
                · simp [h1, Nat.lt_succ_of_lt h1]
                · simp [h1]; omega
            case measure => simp [intOf]; omega
        · obtain rfl : j = k := by omega
          have hst : wr.heap[w.heap.size]? = some (.cells (tabI j (startZ z ss S)) 3 (0, 0)) := by
            refine Eq.trans HH.out ?_
            unfold tabI
            congr 2
            apply tab_congr
            intro i hi
            simp [hi]
          have HS0 := Lib.hid hst
          have hsum0 : ∀ (zc : Nat → Int), (∀ i, i < j → 0 ≤ zc i ∧ zc i ≤ S) → 0 ≤ sumZ zc j ∧ sumZ zc j ≤ 16384 := fun zc h => by
            have h1 := sumZ_nonneg (z := zc) (n := j) (fun i hi => (h i hi).1)
            have h2 := sumZ_le (z := zc) (B := 512) (by omega) (n := j) (fun i hi => by have := (h i hi).2; omega)
            omega
          have HSM := Lib.hid hsum0
          have HB0 := Lib.hid (show ∀ i, i < j → 0 ≤ startZ z ss S i ∧ startZ z ss S i ≤ S from fun i hi => ⟨(HSt.out i hi).1, (HSt.out i hi).2.1⟩)
          obtain ⟨s0, hs0⟩ : ∃ s, sumZ (startZ z ss S) j = s := ⟨_, rfl⟩
          rw [hs0] at hsbd ⊢
          have HS00 := Lib.hid hs0
          clear hst hsum0 hs0 HH
          go_wp2_with fail
          go_loopw [10, 12, 13, 14] (fun l _ _ _ w2 => ∃ zc : Nat → Int, ∃ s1 : Int, w2.heap[w.heap.size]? = some (.cells (tabI j zc) 3 (0, 0)) ∧ l = .int .i64 s1 ∧ s1 = sumZ zc j ∧ (∀ i, i < j → 0 ≤ zc i ∧ zc i ≤ S) ∧ adj j S (sumZ zc j - S).natAbs zc = Z ∧ Touch (fun _ => False) w w2) (fun l _ _ _ _ => (intOf l - S).natAbs)
          case atStart => exact ⟨startZ z ss S, _, HS0.out, rfl, by rw [HS00.out], HB0.out, HZ.out, ht⟩
          case round =>
            obtain ⟨zc, s1, hh, rfl, hs1, hb, hadj, ht2⟩ := hrel
            have hsb2 := HSM.out zc hb
            have HH := Lib.hid hh
            have HBB := Lib.hid hb
            have HAD := Lib.hid hadj
            have HS1 := Lib.hid hs1
            rw [← hs1] at hsb2
            clear hh hb hadj hs1 HS0
            by_cases h0 : s1 = S
            · have hfin : zc = Z := by rw [← HAD.out, adj_done]; rw [← HS1.out]; omega
              have HF := Lib.hid hfin
              clear hfin
              subst h0
              go_wp2_with fail
              go_ret2
              exact ⟨rfl, by rw [← HF.out]; exact HH.out, ht2⟩
            · have hne0 : (s1 != (S : Int)) = true := by simpa using h0
              have hsne : sumZ zc j ≠ S := by rw [← HS1.out]; omega
              have hmb := mxI_le zc (j - 1)
              have hbb := bump_bd (z := zc) (n := j) (S := S) hn0 (by omega) HBB.out hsne
              have hsn := sumZ_bump zc j S hn0
              have had := adj_step j S zc hn0 hsne
              rw [HAD.out] at had
              have hcells : ∀ q i, i < j → (wr.drewN q).cell? ⟨w.heap.size, i, none⟩ = some (.int .i64 (zc i)) := fun q i hi => (Touch.eq_drewN (S := fun _ => False) wr q).cell (tab_cell HH.out hi) id
              have HCL := Lib.hid hcells
              obtain ⟨W9, rfl⟩ : ∃ W, W = wr := ⟨_, rfl⟩
              clear hcells
              go_wp2_with fail
              go_loopw [12, 13] (fun kk i w3 => ∃ t q : Nat, t ≤ j ∧ i = .int .i64 t ∧ kk = .int .i64 (mxI zc (t - 1) : Nat) ∧ w3 = W9.drewN q) (fun _ i _ => j - (intOf i).toNat)
              case atStart => exact ⟨0, 0, by omega, rfl, rfl, rfl⟩
              case round =>
                obtain ⟨t, q9, ht9, rfl, rfl, rfl⟩ := hrel
                have hm1 := mxI_le zc (t - 1)
                by_cases hlt3 : t < j
                · have e1 : ∀ q, (W9.drewN q).cell? ⟨w.heap.size, t, none⟩ = some (.int .i64 (zc t)) := fun q => HCL.out q t hlt3
                  have e2 : ∀ q, (W9.drewN q).cell? ⟨w.heap.size, mxI zc (t - 1), none⟩ = some (.int .i64 (zc (mxI zc (t - 1)))) := fun q => HCL.out q _ (by omega)
                  have hstep : mxI zc (t + 1 - 1) = if zc (mxI zc (t - 1)) < zc t then t else mxI zc (t - 1) := by
                    cases t with
                    | zero => show 0 = if zc 0 < zc 0 then 0 else 0; split <;> rfl
                    | succ t => rfl
                  have HST := Lib.hid hstep
                  obtain ⟨m, hm⟩ : ∃ m, mxI zc (t - 1) = m := ⟨_, rfl⟩
                  rw [hm] at hm1 e2 HST ⊢
                  have hmj : m < j := by omega
                  clear hstep hm
                  by_cases hgt : zc m < zc t
                  · go_wp2_with fail
                    go_quiet (fail)
                    go_wp2_with fail
                    go_roundw
                    case rel => exact ⟨t + 1, _, by omega, by go_num, by rw [HST.out, if_pos (by omega)], rfl⟩
                    case measure => simp [intOf]; omega
                  · go_wp2_with fail
                    go_quiet (fail)
                    go_wp2_with fail
                    go_roundw
                    case rel => exact ⟨t + 1, _, by omega, by go_num, by rw [HST.out, if_neg (by omega)], rfl⟩
                    case measure => simp [intOf]; omega
                · obtain rfl : t = j := by omega
                  have hbz : bump zc t S (mxI zc (t - 1)) = zc (mxI zc (t - 1)) + if sumZ zc t < S then 1 else -1 := by unfold bump addAt; rw [if_pos rfl]
                  have hbo : ∀ i, i ≠ mxI zc (t - 1) → bump zc t S i = zc i := fun i hi => by unfold bump addAt; rw [if_neg hi]
                  have hbm := HBB.out (mxI zc (t - 1)) (by omega)
                  have hcm : (W9.drewN q9).cell? ⟨w.heap.size, mxI zc (t - 1), none⟩ = some (.int .i64 (zc (mxI zc (t - 1)))) := HCL.out q9 _ (by omega)
                  have hfm : (W9.drewN q9).frozen? ⟨w.heap.size, mxI zc (t - 1), none⟩ = false := tab_free (w := W9.drewN q9) HH.out (mxI zc (t - 1))
                  rw [← HS1.out] at hsn hbz
                  obtain ⟨zb, hzb⟩ : ∃ zb, bump zc t S = zb := ⟨_, rfl⟩
                  obtain ⟨m, hm⟩ : ∃ m, mxI zc (t - 1) = m := ⟨_, rfl⟩
                  rw [hzb] at hbb hsn had hbz hbo
                  rw [hm] at hm1 hbz hbo hbm hcm hfm ⊢
                  obtain ⟨x, hx⟩ : ∃ x, zc m = x := ⟨_, rfl⟩
                  rw [hx] at hbz hbm hcm
                  have hmk' : m < t := by omega
                  have HBO := Lib.hid hbo
                  have HBB2 := Lib.hid hbb
                  have HADD := Lib.hid had
                  obtain ⟨hx0, hx1⟩ := hbm
                  obtain ⟨s2, hs2⟩ : ∃ s, sumZ zb t = s := ⟨_, rfl⟩
                  have hs2b := HSM.out zb hbb
                  rw [hs2] at hsn hs2b
                  have HS2 := Lib.hid hs2
                  have hnewh : ∀ v : Int, v = zb m → ∀ q, ((W9.drewN q).setCell ⟨w.heap.size, m, none⟩ (.int .i64 v)).heap[w.heap.size]? = some (.cells (tabI t zb) 3 (0, 0)) := fun v hv q => by
                    refine Eq.trans (tab_store (w := W9.drewN q) HH.out m _) ?_
                    unfold tabI
                    congr 2
                    apply tab_congr
                    intro i _
                    by_cases e : i = m
                    · subst e; rw [if_pos rfl, hv]
                    · rw [if_neg e, HBO.out i e]
                  have HNH := Lib.hid hnewh
                  clear hbo hbb had hzb hm hx hs2 hnewh
                  by_cases hpos : s1 < S
                  · rw [if_pos hpos] at hsn hbz
                    have hlp : ¬ (S : Int) < s1 := by omega
                    have HBZ := Lib.hid (show x + 1 = zb m by omega)
                    have HSN := Lib.hid hsn
                    clear hbz hsn
                    go_wp2_with fail
                    go_roundw
                    case rel => exact ⟨zb, _, HNH.out _ HBZ.out _, rfl, by rw [HS2.out]; have := HSN.out; omega, HBB2.out, HADD.out.symm, (ht2.drewN _).setCell (fun h => by simp at h) _⟩
                    case measure => simp [intOf]; have := HSN.out; omega
                  · rw [if_neg hpos] at hsn hbz
                    have hlp : (S : Int) < s1 := by omega
                    have HBZ := Lib.hid (show x - 1 = zb m by omega)
                    have HSN := Lib.hid hsn
                    clear hbz hsn
                    go_wp2_with fail
                    go_roundw
                    case rel => exact ⟨zb, _, HNH.out _ HBZ.out _, rfl, by rw [HS2.out]; have := HSN.out; omega, HBB2.out, HADD.out.symm, (ht2.drewN _).setCell (fun h => by simp at h) _⟩
                    case measure => simp [intOf]; have := HSN.out; omega
end Go.Proofs.Ythnhacbagmhfoaa

/- fse: numbers that a row holds. -/
namespace Go.Proofs.Ythnhacbagmhfoaa
open Go.RowKit Go.WideShapes Fs
set_option linter.unusedVariables false
set_option linter.unusedSimpArgs false
set_option maxRecDepth 100000
theorem tab_ints {w : World} {g n : Nat} {z : Nat → Int} (h : w.heap[g]? = some (.cells (tabI n z) 3 (0, 0))) : Ints .i64 w (some ⟨g, 0, none⟩) g 0 n z :=
  ⟨fun _ => rfl, fun i hi => by rw [Nat.zero_add]; exact tab_cell h hi⟩
theorem Ints.congr {k : IntKind} {w : World} {a : Option Addr} {b off n : Nat} {z y : Nat → Int} (h : Ints k w a b off n z) (e : ∀ i, i < n → z i = y i) : Ints k w a b off n y :=
  ⟨h.at_, fun i hi => by rw [h.cell i hi, e i hi]⟩
theorem two_ints {w : World} {g : Nat} {e : TypeId} {x y : Int} {z : Nat → Int} (h : w.heap[g]? = some (.cells #[.int .i64 x, .int .i64 y] e (0, 0))) (h0 : x = z 0) (h1 : y = z 1) : Ints .i64 w (some ⟨g, 0, none⟩) g 0 2 z :=
  ⟨fun _ => rfl, fun i hi => by
    rw [cell_of_row _ _ _ _ _ _ h]
    have : i = 0 ∨ i = 1 := by omega
    rcases this with rfl | rfl
    · rw [← h0]; rfl
    · rw [← h1]; rfl⟩

end Go.Proofs.Ythnhacbagmhfoaa

/- fse: rows and tables in memory; digits; a row copied. -/
namespace Go.Proofs.Ythnhacbagmhfoaa
open Go.RowKit Go.WideShapes Fs
set_option linter.unusedVariables false
set_option linter.unusedSimpArgs false
set_option maxRecDepth 100000

/-- A block, the first n cells of which are known, that can be written. -/
def RowAt (w : World) (g : Nat) (e : TypeId) (n : Nat) (F : Nat → Value) : Prop := ∃ cur : Array Value, w.heap[g]? = some (.cells cur e (0, 0)) ∧ ∀ i, i < n → cur[i]? = some (F i)
theorem RowAt.get {w : World} {g : Nat} {e : TypeId} {n : Nat} {F : Nat → Value} (h : RowAt w g e n F) {i : Nat} (hi : i < n) : w.cell? ⟨g, i, none⟩ = some (F i) := by
  obtain ⟨cur, h1, h2⟩ := h
  rw [cell_of_row _ _ _ _ _ _ h1]; exact h2 i hi
theorem RowAt.free {w : World} {g : Nat} {e : TypeId} {n : Nat} {F : Nat → Value} (h : RowAt w g e n F) (i : Nat) : w.frozen? ⟨g, i, none⟩ = false := by
  obtain ⟨cur, h1, _⟩ := h
  simp [World.frozen?, h1]
theorem RowAt.lt {w : World} {g : Nat} {e : TypeId} {n : Nat} {F : Nat → Value} (h : RowAt w g e n F) : g < w.heap.size := by
  obtain ⟨cur, h1, _⟩ := h
  exact lt_of_block h1
theorem RowAt.congr {w : World} {g : Nat} {e : TypeId} {n : Nat} {F G : Nat → Value} (h : RowAt w g e n F) (e' : ∀ i, i < n → F i = G i) : RowAt w g e n G := by
  obtain ⟨cur, h1, h2⟩ := h
  exact ⟨cur, h1, fun i hi => by rw [h2 i hi, e' i hi]⟩
theorem RowAt.set {w : World} {g : Nat} {e : TypeId} {n : Nat} {F : Nat → Value} (h : RowAt w g e n F) (i : Nat) (u : Value) : RowAt (w.setCell ⟨g, i, none⟩ u) g e n (fun k => if k = i then u else F k) := by
  obtain ⟨cur, h1, h2⟩ := h
  refine ⟨_, heap_setCell_same h1 u, fun j hj => ?_⟩
  rw [Array.getElem?_setIfInBounds]
  have hj2 := (Array.getElem?_eq_some_iff.1 (h2 j hj)).1
  show _ = some (if j = i then u else F j)
  by_cases e : i = j
  · subst e; rw [if_pos rfl, if_pos hj2, if_pos rfl]
  · rw [if_neg e, if_neg (fun h => e h.symm), h2 j hj]
theorem RowAt.touch {w w' : World} {g : Nat} {e : TypeId} {n : Nat} {F : Nat → Value} {S : Nat → Prop} (h : RowAt w g e n F) (ht : Touch S w w') (hs : ¬ S g) : RowAt w' g e n F := by
  obtain ⟨cur, h1, h2⟩ := h
  exact ⟨cur, ht.heap h1 hs, h2⟩
theorem RowAt.other {w : World} {g g' : Nat} {e : TypeId} {n : Nat} {F : Nat → Value} (h : RowAt w g e n F) (hg : g ≠ g') (i : Nat) (u : Value) : RowAt (w.setCell ⟨g', i, none⟩ u) g e n F :=
  h.touch ((Touch.refl (· = g') w).setCell (p := ⟨g', i, none⟩) (fun _ => rfl) u) hg
theorem RowAt.ints {w : World} {g n : Nat} {z : Nat → Int} {e : TypeId} (h : RowAt w g e n (fun i => .int .i64 (z i))) : Ints .i64 w (some ⟨g, 0, none⟩) g 0 n z :=
  ⟨fun _ => rfl, fun i hi => by rw [Nat.zero_add]; exact h.get hi⟩
theorem rowAt_own {w : World} {e : TypeId} {B : Nat} {v : Value} {n : Nat} {z : Nat → Int} (h : w.ownsRow B e 1 v n (cellsZ .i64 z n)) (hn : 0 < n) : ∃ g c, v = .slice (some ⟨g, 0, none⟩) n c ∧ B ≤ g ∧ RowAt w g e n (fun i => .int .i64 (z i)) := by
  rcases h.2 with ⟨_, h⟩ | ⟨g, cap, cur, rfl, hB, h1, h2, _, h4, h5⟩
  · omega
  · refine ⟨g, cap, rfl, hB, cur, h1, fun i hi => ?_⟩
    have := congrArg (·[i]?) h5
    simp only [Nat.mul_one] at this
    rw [List.getElem?_take_of_lt hi, cellsZ_get hi, Array.getElem?_toList] at this
    exact this

/-- A state's three cells. -/
def entC (Sy Bi : Nat → Nat) (Ba : Nat → Int) (i : Nat) : Value := if i % 3 = 0 then .int .i64 (Sy (i / 3)) else if i % 3 = 1 then .int .i64 (Bi (i / 3)) else .int .i64 (Ba (i / 3))
theorem ent0 (Sy Bi : Nat → Nat) (Ba : Nat → Int) (u : Nat) : entC Sy Bi Ba (u * 3) = .int .i64 (Sy u) := by
  unfold entC; rw [if_pos (by omega), show u * 3 / 3 = u by omega]
theorem ent1 (Sy Bi : Nat → Nat) (Ba : Nat → Int) (u : Nat) : entC Sy Bi Ba (u * 3 + 1) = .int .i64 (Bi u) := by
  unfold entC; rw [if_neg (by omega), if_pos (by omega), show (u * 3 + 1) / 3 = u by omega]
theorem ent2 (Sy Bi : Nat → Nat) (Ba : Nat → Int) (u : Nat) : entC Sy Bi Ba (u * 3 + 2) = .int .i64 (Ba u) := by
  unfold entC; rw [if_neg (by omega), if_neg (by omega), show (u * 3 + 2) / 3 = u by omega]
/-- A table of N states. -/
def TabAt (w : World) (g N : Nat) (Sy Bi : Nat → Nat) (Ba : Nat → Int) : Prop := RowAt w g 128 (N * 3) (entC Sy Bi Ba)
theorem TabAt.get {w : World} {g N : Nat} {Sy Bi : Nat → Nat} {Ba : Nat → Int} (h : TabAt w g N Sy Bi Ba) {u : Nat} (hu : u < N) : w.cell? ⟨g, u * 3, none⟩ = some (.int .i64 (Sy u)) ∧ w.cell? ⟨g, u * 3 + 1, none⟩ = some (.int .i64 (Bi u)) ∧ w.cell? ⟨g, u * 3 + 2, none⟩ = some (.int .i64 (Ba u)) :=
  ⟨by rw [RowAt.get h (by omega), ent0], by rw [RowAt.get h (by omega), ent1], by rw [RowAt.get h (by omega), ent2]⟩
section
variable {w : World} {g N : Nat} {Sy Bi : Nat → Nat} {Ba : Nat → Int} (h : TabAt w g N Sy Bi Ba) (u : Nat)
include h
theorem TabAt.set0 (v : Nat) : TabAt (w.setCell ⟨g, u * 3, none⟩ (.int .i64 v)) g N (upd Sy u v) Bi Ba :=
  (RowAt.set h (u * 3) _).congr fun i hi => by
    unfold entC upd
    by_cases e : i = u * 3
    · subst e; rw [if_pos rfl, if_pos (by omega), if_pos (by omega)]
    · rw [if_neg e]
      by_cases e0 : i % 3 = 0
      · rw [if_pos e0, if_pos e0, if_neg (by omega)]
      · rw [if_neg e0, if_neg e0]
theorem TabAt.set1 (v : Nat) : TabAt (w.setCell ⟨g, u * 3 + 1, none⟩ (.int .i64 v)) g N Sy (upd Bi u v) Ba :=
  (RowAt.set h (u * 3 + 1) _).congr fun i hi => by
    unfold entC upd
    by_cases e : i = u * 3 + 1
    · subst e; rw [if_pos rfl, if_neg (by omega), if_pos (by omega), if_pos (by omega)]
    · rw [if_neg e]
      by_cases e0 : i % 3 = 0
      · rw [if_pos e0, if_pos e0]
      · rw [if_neg e0, if_neg e0]
        by_cases e1 : i % 3 = 1
        · rw [if_pos e1, if_pos e1, if_neg (by omega)]
        · rw [if_neg e1, if_neg e1]
theorem TabAt.set2 (v : Int) : TabAt (w.setCell ⟨g, u * 3 + 2, none⟩ (.int .i64 v)) g N Sy Bi (upd Ba u v) :=
  (RowAt.set h (u * 3 + 2) _).congr fun i hi => by
    unfold entC upd
    by_cases e : i = u * 3 + 2
    · subst e; rw [if_pos rfl, if_neg (by omega), if_neg (by omega), if_pos (by omega)]
    · rw [if_neg e]
      by_cases e0 : i % 3 = 0
      · rw [if_pos e0, if_pos e0]
      · rw [if_neg e0, if_neg e0]
        by_cases e1 : i % 3 = 1
        · rw [if_pos e1, if_pos e1]
        · rw [if_neg e1, if_neg e1, if_neg (by omega)]
end
theorem Try.info128 : (Try.prog.info? 128).map (fun i => (i.zero, i.size, i.bytes)) = some (some (.agg #[.int .i64 0, .int .i64 0, .int .i64 0]), 3, 24) := by kernel_rfl
theorem made3_get (z : Value) (n i : Nat) (h : i < n * 3) : (madeCells #[z, z, z] (n * 3))[i]? = some z := by
  have h3 : i % 3 = 0 ∨ i % 3 = 1 ∨ i % 3 = 2 := by omega
  rcases h3 with h3 | h3 | h3 <;> simp [madeCells, h, h3]
theorem made_tab {w : World} {g N : Nat} (h : w.heap[g]? = some (.cells (madeCells #[.int .i64 0, .int .i64 0, .int .i64 0] (N * 3)) 128 (0, 0))) : TabAt w g N (fun _ => 0) (fun _ => 0) (fun _ => 0) :=
  ⟨_, h, fun i hi => by rw [made3_get _ N i hi]; unfold entC; split; rfl; split <;> rfl⟩
theorem make_ents (N : Nat) (hN : N ≤ 100000) (w : World) : (Instr.makeSlice 120 (.int .i64 N) (.int .i64 N)).run Try.prog w = .ok (.slice (some ⟨w.heap.size, 0, none⟩) N N) (w.alloc (.cells (madeCells #[.int .i64 0, .int .i64 0, .int .i64 0] (N * 3)) 128)) := by
  obtain ⟨i0, hi, hz0, hz1, hz2⟩ := info_parts Try.info128
  have := run_make (P := Try.prog) w 120 128 i0 (.agg #[.int .i64 0, .int .i64 0, .int .i64 0]) Try.underlying120 hi hz0 .i64 .i64 N N (by omega) (by omega) (by rw [hz2]; omega) (by omega)
  rw [this, hz1]
  simp [Value.cells]

theorem blen_half (x : Nat) (h : 0 < x) : blen x = blen (x / 2) + 1 := by
  obtain ⟨a, b, c⟩ := blen_pos h
  obtain ⟨k, hk⟩ : ∃ k, blen x = k + 1 := ⟨blen x - 1, by omega⟩
  rw [hk] at a b ⊢
  simp only [Nat.add_sub_cancel] at a
  congr 1
  cases k with
  | zero =>
    have : x = 1 := by simp at a b; omega
    subst this; rfl
  | succ k =>
    rw [Nat.pow_succ] at a b
    have h2 := blen_is (x := x / 2) (k := k) (by omega) (by omega)
    rw [h2]
theorem digits_walk (x : Nat) (hx : x ≤ 1000000) (w : World) : Calls Try.prog 101 #[.int .i64 x] w fun e w' => e = .returned (.int .i64 (blen x : Nat)) ∧ w = w' := by
  obtain ⟨R, hR⟩ : ∃ R, blen x = R := ⟨_, rfl⟩
  rw [hR]
  have HR := Lib.hid hR
  clear hR
  go_enter Try.func101, Try.ntmps101
  go_wp2_with fail
  go_loop [0, 3] (fun n k => ∃ a j : Nat, a ≤ 1000000 ∧ j + a ≤ x ∧ n = .int .i64 a ∧ k = .int .i64 j ∧ j + blen a = R) (fun n _ => (intOf n).toNat)
  case atStart => exact ⟨x, 0, hx, by omega, rfl, rfl, by have := HR.out; omega⟩
  case round =>
    obtain ⟨a, j, ha, hja, rfl, rfl, hb⟩ := hrel
    have HB := Lib.hid hb
    clear hb
    by_cases h0 : a = 0
    · subst h0
      have : j = R := by have := HB.out; simpa [blen] using this
      subst this
      go_wp2_with fail
      go_ret
      exact ⟨rfl, rfl⟩
    · have hh := blen_half a (by omega)
      have HH := Lib.hid hh
      have hpos : 0 < a := by omega
      clear hh h0
      go_wp2_with fail
      go_round
      case rel => exact ⟨a / 2, j + 1, by omega, by omega, by go_num, by go_num, by have := HH.out; have := HB.out; omega⟩
      case measure => simp [intOf]; omega
end Go.Proofs.Ythnhacbagmhfoaa

/- fse: Table. -/
namespace Go.Proofs.Ythnhacbagmhfoaa
open Go.RowKit Go.WideShapes Fs
set_option linter.unusedVariables false
set_option linter.unusedSimpArgs false
set_option maxRecDepth 100000

theorem wrap_sub_small (y S : Nat) (h : y ≤ 2 * S) (h2 : S ≤ 2 ^ 9) : wrap64 ((y : Int) - S) = y - S := by unfold wrap64; omega
theorem bits_64 {L bl B : Nat} (h : B = L + 1 - bl) (h9 : L ≤ 9) : (B : Int) ≤ 64 := by omega
theorem wrapU (x : Nat) (hx : x ≤ 1000000) : IntKind.u64.wrap (x : Int) = x := by rw [IntKind.wrap_u64]; omega
theorem blen_walk (x : Nat) (h0 : 0 < x) (hx : x ≤ 100000) (w : World) : Calls Try.prog 33 #[.int .u64 x] w fun e w' => e = .returned (.int .i64 (blen x : Nat)) ∧ w = w' := by
  have h1 : (x : Int) ≤ 100000 := by omega
  have h := Try.bits_Len (x : Int) w (Int.natCast_nonneg _) (Int.le_trans h1 (by decide))
  have h2 : x < 2 ^ 64 := Nat.lt_of_lt_of_le (show x < 2 ^ 17 by omega) (Nat.pow_le_pow_right (by decide) (by decide))
  rw [Int.toNat_natCast, bitLen_is x (Nat.ne_of_gt h0) h2] at h
  have e : Nat.log2 x + 1 = blen x := by unfold blen; rw [if_neg (Nat.ne_of_gt h0)]
  rw [e] at h
  exact h.mono fun e w' ⟨a, b⟩ => ⟨a, b.symm⟩

theorem small_x {x S : Nat} (h : x < 2 * S) (hS : S ≤ 2 ^ 9) : x ≤ 100000 := by omega
theorem fB_is {L bl B : Nat} (h : B = L + 1 - bl) (h2 : bl ≤ L + 1) : (L : Int) - (bl : Int) + 1 = (B : Nat) := by omega
theorem table_no (a : Option Addr) (b off n c : Nat) (z : Nat → Int) (log : Int) (w : World) (h : Ints .i64 w a b off n z) (hn : n ≤ 100000) (hno : isOk z n log = false) :
    Calls Try.prog 87 #[.slice a n c, .int .i64 log] w fun e w' => e = .returned (.tuple #[.slice none 0 0, .bool false]) ∧ Touch (fun _ => False) w w' := by
  have H := Lib.hid h
  have HN := Lib.hid hno
  clear h hno
  go_enter Try.func87, Try.ntmps87
  go_wp2_with fail
  refine (is_walk a b off n c z log _ H.out hn).mono ?_
  rintro e w1 ⟨rfl, t1⟩
  rw [HN.out]
  go_wp2_with fail
  go_ret2
  exact ⟨rfl, t1⟩

/-- Shares as natural numbers. -/
def natM (z : Nat → Int) (i : Nat) : Nat := (z i).toNat
theorem isOk_nat {z : Nat → Int} {n L : Nat} (h : isOk z n (L : Int) = true) : 5 ≤ L ∧ L ≤ 9 ∧ n ≤ 32 ∧ 0 < n ∧ (∀ i, i < n → z i = (natM z i : Nat) ∧ natM z i ≤ 2 ^ L) ∧ sumN (natM z) n = 2 ^ L := by
  rw [isOk_is] at h
  simp only [Bool.and_eq_true, decide_eq_true_eq] at h
  obtain ⟨⟨⟨h1, h2⟩, h3⟩, h4⟩ := h
  simp [logOk] at h1
  have hz : ∀ i, i < n → 0 ≤ z i ∧ z i ≤ ((2 ^ L : Nat) : Int) := fun i hi => by
    have := (all01_iff _ z n).1 h3 i hi
    simp only [shrOk, decide_eq_true_eq] at this
    exact this
  have hs : ∀ k, k ≤ n → sumZ z k = (sumN (natM z) k : Nat) := by
    intro k
    induction k with
    | zero => intro _; rfl
    | succ k ih =>
      intro hk
      have := hz k (by omega)
      rw [sumZ, sumN, ih (by omega)]
      unfold natM
      omega
  refine ⟨by omega, by omega, h2, ?_, fun i hi => ?_, ?_⟩
  · rcases Nat.eq_zero_or_pos n with e | e
    · subst e
      have := Nat.two_pow_pos L
      rw [hs 0 (by omega)] at h4
      simp only [sumN] at h4
      omega
    · exact e
  · have := hz i hi
    unfold natM
    omega
  · have := hs n (by omega)
    omega

set_option maxHeartbeats 4000000 in
theorem table_yes (a : Option Addr) (b off n c L : Nat) (z : Nat → Int) (w : World) (h : Ints .i64 w a b off n z) (hok : isOk z n (L : Int) = true) :
    Calls Try.prog 87 #[.slice a n c, .int .i64 L] w fun e w' => ∃ g, e = .returned (.tuple #[.slice (some ⟨g, 0, none⟩) (2 ^ L : Nat) (2 ^ L : Nat), .bool true]) ∧ w.heap.size ≤ g ∧ TabAt w' g (2 ^ L) (symU (natM z) n L) (fun u => bitsU L (xU (natM z) (symU (natM z) n L) u)) (fun u => baseU L (xU (natM z) (symU (natM z) n L) u)) ∧ Touch (fun _ => False) w w' := by
  obtain ⟨h5, h9, hn32, hn0, hzm, hsum⟩ := isOk_nat hok
  obtain ⟨m, hm⟩ : ∃ m, natM z = m := ⟨_, rfl⟩
  rw [hm] at hzm hsum ⊢
  have hI : Ints .i64 w a b off n (fun i => (m i : Int)) := ⟨h.at_, fun i hi => by rw [h.cell i hi, (hzm i hi).1]⟩
  have H := Lib.hid h
  have HI := Lib.hid hI
  have HOK := Lib.hid hok
  have hpb : (2 : Nat) ^ L ≤ 2 ^ 9 := Nat.pow_le_pow_right (by omega) h9
  have hpb5 : (2 : Nat) ^ 5 ≤ 2 ^ L := Nat.pow_le_pow_right (by omega) h5
  have hp := wrap_pow L (by omega)
  have hsl := fun u (hu : u < 2 ^ L) => symU_lt h5 h9 m hsum u hu
  have hxb := fun u (hu : u < 2 ^ L) => xU_bd h5 h9 m hsum u hu
  obtain ⟨Sy, hSy⟩ : ∃ Sy, symU m n L = Sy := ⟨_, rfl⟩
  rw [hSy] at hsl hxb ⊢
  have hSy2 : spreadO m (2 ^ L) n = Sy := hSy
  have hmle : ∀ i, i < n → m i ≤ 2 ^ L := fun i hi => (hzm i hi).2
  obtain ⟨S, hS⟩ : ∃ S : Nat, 2 ^ L = S := ⟨_, rfl⟩
  have hS1 : 2 ^ (L + 1) = 2 * S := by rw [Nat.pow_succ, hS]; omega
  rw [hS1] at hxb
  rw [hS] at hpb hpb5 hp hsum hsl hxb hSy2 hmle ⊢
  have HSL := Lib.hid hsl
  have HXB := Lib.hid hxb
  have HSY := Lib.hid hSy2
  have HML := Lib.hid hmle
  have HS := Lib.hid hS
  have HSUM := Lib.hid hsum
  have hmk := fun w => make_ents S (by omega) w
  have hd : decide ((L : Int) < 0) = false := by simp
  clear h hok hzm hm hI hsl hxb hSy hSy2 hmle hsum hS hS1
  go_enter Try.func87, Try.ntmps87
  go_wp2_with fail
  refine (is_walk a b off n c z L _ H.out (by omega)).mono ?_
  rintro e w1 ⟨rfl, t1⟩
  rw [HOK.out]
  have T1 := Lib.hid t1
  clear t1
  go_wp2_with fail
  clear hmk
  obtain ⟨g, hg⟩ : ∃ g, w1.heap.size = g := ⟨_, rfl⟩
  have hgw : w.heap.size ≤ g := by have := T1.out.size; omega
  have HT0 := Lib.hid (made_tab (N := S) (heap_alloc_new w1 _))
  have TT := Lib.hid (T1.out.alloc (.cells (madeCells #[.int .i64 0, .int .i64 0, .int .i64 0] (S * 3)) 128))
  rw [hg] at HT0
  rw [hg]
  clear hg T1
  go_loopw [8, 9, 10, 24] (fun at_ _ _ i wr => ∃ k : Nat, k ≤ n ∧ i = .int .i64 k ∧ at_ = .int .i64 (pos S (sumN m k) : Nat) ∧ TabAt wr g S (spreadO m S k) (fun _ => 0) (fun _ => 0) ∧ Touch (fun _ => False) w wr) (fun _ _ _ i _ => n - (intOf i).toNat)
  case atStart => exact ⟨0, by omega, rfl, by simp [pos, sumN], HT0.out, TT.out⟩
  case round =>
    obtain ⟨k, hk, rfl, rfl, hh, ht⟩ := hrel
    have HH := Lib.hid hh
    clear hh HT0 TT
    by_cases hlt : k < n
    · obtain rfl := HI.out.at_ (by omega)
      have e1 := ht.cell (HI.out.cell k hlt) id
      have hml := HML.out k hlt
      obtain ⟨mk, hmk⟩ : ∃ q, m k = q := ⟨_, rfl⟩
      rw [hmk] at e1 hml
      have HMK := Lib.hid hmk
      obtain ⟨K, hK⟩ : ∃ K, sumN m k = K := ⟨_, rfl⟩
      obtain ⟨T0, hT0⟩ : ∃ T, spreadO m S k = T := ⟨_, rfl⟩
      rw [hT0] at HH
      rw [hK]
      have HK := Lib.hid hK
      have HTT := Lib.hid hT0
      clear hmk hK hT0
      go_wp2_with fail
      go_loopw [8, 30] (fun at_ i w2 => ∃ j : Nat, j ≤ mk ∧ i = .int .i64 j ∧ at_ = .int .i64 (pos S (K + j) : Nat) ∧ TabAt w2 g S (spreadI S T0 K k j) (fun _ => 0) (fun _ => 0) ∧ Touch (fun _ => False) w w2) (fun _ i _ => mk - (intOf i).toNat)
      case atStart => exact ⟨0, by omega, rfl, rfl, HH.out, ht⟩
      case round =>
        obtain ⟨j, hj, rfl, rfl, hh, ht2⟩ := hrel
        have H2 := Lib.hid hh
        have hpl := pos_lt (size := S) (by omega) (K + j)
        have hps := pos_succ S (K + j)
        obtain ⟨p, hp_⟩ : ∃ p, pos S (K + j) = p := ⟨_, rfl⟩
        have hpk : Hid (pos S (K + j) = p) := Lib.hid hp_
        rw [hp_] at hpl hps ⊢
        clear hh
        by_cases hlt2 : j < mk
        · have hfree := RowAt.free H2.out (p * 3)
          have hcell := (TabAt.get H2.out hpl).1
          have hset := TabAt.set0 H2.out p k
          have hnx : spreadI S T0 K k (j + 1) = upd (spreadI S T0 K k j) p k := by rw [spreadI, hp_]
          have HSET := Lib.hid hset
          have HNX := Lib.hid hnx
          have HPS := Lib.hid hps
          clear hset hnx hps hp_
          go_wp2_with fail
          go_roundw
          case rel =>
            refine ⟨j + 1, by omega, by go_num, ?_, by rw [HNX.out]; exact HSET.out, ht2.setCell (fun h => by have h' : g < w.heap.size := h; omega) _⟩
            rw [show K + (j + 1) = K + j + 1 from rfl, HPS.out]
            exact congrArg (Value.int .i64) (by simp only [Int.natCast_emod, Int.natCast_add, Int.natCast_ediv]; first | done | rfl)
          case measure => simp [intOf]; omega
        · obtain rfl : j = mk := by omega
          have hfin : spreadO m S (k + 1) = spreadI S T0 K k j := by rw [spreadO, HTT.out, HK.out, HMK.out]
          have hKs : sumN m (k + 1) = K + j := by rw [sumN, HK.out, HMK.out]
          have HF := Lib.hid hfin
          have HKS := Lib.hid hKs
          clear hfin hKs hp_ hps hpl
          go_wp2_with fail
          go_roundw
          case rel => exact ⟨k + 1, by omega, by go_num, by rw [HKS.out, hpk.out], by rw [HF.out]; exact H2.out, ht2⟩
          case measure => simp [intOf]; omega
    · obtain rfl : k = n := by omega
      have hT3 : TabAt wr g S Sy (fun _ => 0) (fun _ => 0) := by have := HH.out; rwa [HSY.out] at this
      have HT3 := Lib.hid hT3
      obtain ⟨at_, hat⟩ : ∃ q, pos S (sumN m k) = q := ⟨_, rfl⟩
      rw [hat]
      obtain rfl := HI.out.at_ hn0
      have hcl := Try.slices_Clone_int b off k c (listZ (fun i => (m i : Int)) k) wr (by rw [listZ_len]; omega) (by omega) (fun j hj => by rw [listZ_len] at hj; rw [listZ_get _ hj]; exact ht.cell (HI.out.cell j hj) id)
      have hcz : ((listZ (fun i => (m i : Int)) k).take k).map (Value.int .i64) = cellsZ .i64 (fun i => (m i : Int)) k := by
        rw [List.take_of_length_le (by rw [listZ_len]; omega)]; simp [listZ, cellsZ]
      rw [hcz] at hcl
      have HCL := Lib.hid hcl
      clear hT3 hat hcl hcz HH
      go_wp2_with fail
      refine HCL.out.mono ?_
      rintro e w4 ⟨v4, rfl, hown4, _, hb4⟩
      obtain ⟨gn, cn, rfl, hgn, hrow4⟩ := rowAt_own hown4 hn0
      have ht4 : Touch (fun _ => False) wr w4 := Touch.of_below hb4 (fun k hk hk2 => by omega)
      have hgg : gn ≠ g := by have := RowAt.lt HT3.out; omega
      have HT4 := Lib.hid (RowAt.touch HT3.out ht4 id)
      have HN4 := Lib.hid hrow4
      have HTW := Lib.hid (ht.trans ht4)
      have hgnw : w.heap.size ≤ gn := by have := ht.size; omega
      clear hown4 hb4 hrow4 ht4
      go_wp2_with fail
      go_loopw [12, 13, 53] (fun _ _ i w5 => ∃ u : Nat, u ≤ S ∧ i = .int .i64 u ∧ TabAt w5 g S Sy (fun v => if v < u then bitsU L (xU m Sy v) else 0) (fun v => if v < u then baseU L (xU m Sy v) else 0) ∧ RowAt w5 gn 3 k (fun i => .int .i64 (nextN m Sy u i : Nat)) ∧ Touch (fun _ => False) w w5) (fun _ _ i _ => S - (intOf i).toNat)
      case atStart => exact ⟨0, by omega, rfl, HT4.out, HN4.out, HTW.out⟩
      case round =>
        obtain ⟨u, hu, rfl, hh, hnx, htw⟩ := hrel
        have H5 := Lib.hid hh
        have HN5 := Lib.hid hnx
        clear hh hnx
        by_cases hlu : u < S
        · obtain ⟨c0, c1, c2⟩ := TabAt.get H5.out hlu
          obtain ⟨hs1, _⟩ := HSL.out u hlu
          obtain ⟨hx0, _, _, hx2⟩ := HXB.out u hlu
          have cn0 := RowAt.get HN5.out hs1
          have fn0 := RowAt.free HN5.out (Sy u)
          have hxu : nextN m Sy u (Sy u) = xU m Sy u := rfl
          have hnn : ∀ i, nextN m Sy (u + 1) i = if i = Sy u then nextN m Sy u i + 1 else nextN m Sy u i := fun i => rfl
          obtain ⟨x, hx⟩ : ∃ x, xU m Sy u = x := ⟨_, rfl⟩
          obtain ⟨s, hs⟩ : ∃ s, Sy u = s := ⟨_, rfl⟩
          rw [hs] at c0 hs1 cn0 fn0 hxu
          rw [hx] at hx0 hx2 hxu
          rw [hxu] at cn0
          have hnn2 : ∀ i, nextN m Sy (u + 1) i = if i = s then x + 1 else nextN m Sy u i := fun i => by
            rw [hnn i, hs]
            by_cases e : i = s
            · rw [if_pos e, if_pos e, e, hxu]
            · rw [if_neg e, if_neg e]
          have HNN := Lib.hid hnn2
          have hsp := span_in (log := L) hx0 (by have := HS.out; rw [Nat.pow_succ, this]; omega)
          obtain ⟨y, hy⟩ : ∃ y, x * 2 ^ bitsU L x = y := ⟨_, rfl⟩
          have hyl : y ≤ 2 * S := by
            have h1 := hsp.2.1
            rw [Nat.add_mul, hy, Nat.pow_succ, HS.out] at h1
            omega
          have hbl := blen_le (x := x) (k := L + 1) (by have := HS.out; rw [Nat.pow_succ, this]; omega)
          have hbu : bitsU L x = L + 1 - blen x := rfl
          have hba : baseU L x = (y : Int) - S := by unfold baseU; rw [hy, HS.out]
          have hsh : wrap64 ((x : Int) * 2 ^ bitsU L x) = (y : Nat) := by
            have e : (x : Int) * 2 ^ bitsU L x = ((x * 2 ^ bitsU L x : Nat) : Int) := by simp
            rw [e, hy]; unfold wrap64; omega
          obtain ⟨B, hB⟩ : ∃ B, bitsU L x = B := ⟨_, rfl⟩
          obtain ⟨bl, hbl3⟩ : ∃ B, blen x = B := ⟨_, rfl⟩
          rw [hB] at hsh hbu
          rw [hbl3] at hbl hbu
          have hxs : x ≤ 100000 := small_x hx2 hpb
          have fB : (L : Int) - (bl : Int) + 1 = (B : Nat) := fB_is hbu hbl
          have fw : IntKind.u64.wrap (x : Int) = x := wrapU x (Nat.le_trans hxs (by decide))
          have fs := wrap_sub_small y S hyl hpb
          have fb0 : (0 : Int) ≤ B := Int.natCast_nonneg _
          have fb64 : (B : Int) ≤ 64 := bits_64 hbu h9
          have fd : decide ((B : Int) < 0) = false := by simp
          have HLen := Lib.hid (fun w => blen_walk x hx0 hxs w)
          rw [hbl3] at HLen
          have h6n := RowAt.set HN5.out s (.int .i64 ((x : Int) + 1))
          have h6t : TabAt (wr.setCell ⟨gn, s, none⟩ (.int .i64 ((x : Int) + 1))) g S Sy _ _ := RowAt.other H5.out (Ne.symm hgg) s _
          have h7t := TabAt.set1 h6t u B
          have h7n := RowAt.other h6n hgg (u * 3 + 1) (.int .i64 (B : Nat))
          have h8t := TabAt.set2 h7t u ((y : Int) - S)
          have h8n := RowAt.other h7n hgg (u * 3 + 2) (.int .i64 ((y : Int) - S))
          have f6 := RowAt.free h6t (u * 3 + 1)
          have f7 := RowAt.free h7t (u * 3 + 2)
          have g6 := (TabAt.get h6t hlu).2.1
          have g7 := (TabAt.get h7t hlu).2.1
          have g72 := (TabAt.get h7t hlu).2.2
          simp only [upd, if_true] at g7
          have HB2 := Lib.hid hB
          have HBA := Lib.hid hba
          have HXX := Lib.hid hx
          have HSS := Lib.hid hs
          have H8T := Lib.hid h8t
          have H8N := Lib.hid h8n
          clear h6n h6t h7t h7n h8t h8n hnn hnn2 hsp hy hbu hba hxu hB hbl3 hx hs
          go_wp2_with fail
          have hS512 : S ≤ 512 := hpb
          clear hyl hpb hpb5 hxs hx2 fw hp hx0 hbl
          refine (HLen.out _).mono ?_
          rintro e w8 ⟨rfl, rfl⟩
          go_wp2_with fail
          go_roundw
          case rel =>
            refine ⟨u + 1, by omega, by go_num, ?_, ?_, ((htw.setCell (fun h => by have h' : gn < w.heap.size := h; omega) _).setCell (fun h => by have h' : g < w.heap.size := h; omega) _).setCell (fun h => by have h' : g < w.heap.size := h; omega) _⟩
            · refine RowAt.congr H8T.out fun i hi => ?_
              unfold entC upd
              have e1 : ∀ v, (if v = u then B else if v < u then bitsU L (xU m Sy v) else 0) = if v < u + 1 then bitsU L (xU m Sy v) else 0 := fun v => by
                by_cases e : v = u
                · subst e; rw [if_pos rfl, if_pos (by omega), HXX.out, HB2.out]
                · rw [if_neg e]
                  by_cases e2 : v < u
                  · rw [if_pos e2, if_pos (by omega)]
                  · rw [if_neg e2, if_neg (by omega)]
              have e2 : ∀ v, (if v = u then (y : Int) - S else if v < u then baseU L (xU m Sy v) else 0) = if v < u + 1 then baseU L (xU m Sy v) else 0 := fun v => by
                by_cases e : v = u
                · subst e; rw [if_pos rfl, if_pos (by omega), HXX.out, HBA.out]
                · rw [if_neg e]
                  by_cases e2 : v < u
                  · rw [if_pos e2, if_pos (by omega)]
                  · rw [if_neg e2, if_neg (by omega)]
              rw [e1, e2]
            · refine RowAt.congr H8N.out fun i hi => ?_
              show (if i = s then Value.int .i64 ((x : Int) + 1) else _) = _
              rw [HNN.out i]
              by_cases e : i = s
              · rw [if_pos e, if_pos e]; rfl
              · rw [if_neg e, if_neg e]
          case measure => simp [intOf]; omega
        · obtain rfl : u = S := by omega
          go_wp2_with fail
          go_ret2
          refine ⟨g, rfl, hgw, RowAt.congr H5.out fun i hi => ?_, htw⟩
          unfold entC
          simp [show i / 3 < u by omega]
end Go.Proofs.Ythnhacbagmhfoaa

/- fse: Table by the document. -/
namespace Go.Proofs.Ythnhacbagmhfoaa
open Go.RowKit Go.WideShapes Fs
set_option linter.unusedVariables false
set_option linter.unusedSimpArgs false
set_option maxRecDepth 100000

theorem rtable_no (a : Option Addr) (b off n c : Nat) (z : Nat → Int) (log : Int) (w : World) (h : Ints .i64 w a b off n z) (hn : n ≤ 100000) (hno : isOk z n log = false) :
    Calls Try.prog 93 #[.slice a n c, .int .i64 log] w fun e w' => e = .returned (.tuple #[.slice none 0 0, .bool false]) ∧ w = w' := by
  have H := Lib.hid h
  have HN := Lib.hid hno
  clear h hno
  go_enter Try.func93, Try.ntmps93
  go_wp2_with fail
  refine (ris_walk a b off n c z log _ H.out hn).mono ?_
  rintro e w1 ⟨rfl, rfl⟩
  rw [HN.out]
  go_wp2_with fail
  go_ret2
  exact ⟨rfl, rfl⟩

theorem wrapL (x : Nat) (hx : x ≤ 1000000) : IntKind.u64.wrap (x : Int) = x := wrapU x hx

theorem wrap_sub_i (y S : Nat) (h : y ≤ 2 * S) (h2 : S ≤ 2 ^ 9) : IntKind.i64.wrap ((y : Int) - S) = y - S := IntWalk.i64_in _ (by omega)
theorem wrap_nat_i (y S : Nat) (h : y ≤ 2 * S) (h2 : S ≤ 2 ^ 9) : IntKind.i64.wrap (y : Int) = y := IntWalk.i64_in _ (by omega)
theorem RowAt.drewI {w : World} {g : Nat} {e : TypeId} {n : Nat} {F : Nat → Value} (h : RowAt w g e n F) : RowAt w.drew g e n F := h
theorem wrap_suc (x : Nat) (h : x ≤ 100000) : wrap64 ((x : Int) + 1) = x + 1 := by unfold wrap64; omega
theorem small_u {u S : Nat} (h : u < S) (h2 : S ≤ 2 ^ 9) : u ≤ 100000 := by omega
theorem meas_u {u S : Nat} (h : u < S) : S - (intOf (Value.int .i64 ((u : Int) + 1))).toNat < S - (intOf (Value.int .i64 (u : Int))).toNat := by simp [intOf]; omega
theorem lt_suc_not {v u : Nat} (h : ¬ v = u) (h2 : ¬ v < u) : ¬ v < u + 1 := by omega
theorem bits_mil {L bl B : Nat} (h : B = L + 1 - bl) (h9 : L ≤ 9) : B ≤ 1000000 := by omega

set_option maxHeartbeats 4000000 in
theorem rtable_yes (a : Option Addr) (b off n c L : Nat) (z : Nat → Int) (w : World) (h : Ints .i64 w a b off n z) (hok : isOk z n (L : Int) = true) :
    Calls Try.prog 93 #[.slice a n c, .int .i64 L] w fun e w' => ∃ g, e = .returned (.tuple #[.slice (some ⟨g, 0, none⟩) (2 ^ L : Nat) (2 ^ L : Nat), .bool true]) ∧ w.heap.size ≤ g ∧ TabAt w' g (2 ^ L) (symU (natM z) n L) (fun u => bitsU L (xU (natM z) (symU (natM z) n L) u)) (fun u => baseU L (xU (natM z) (symU (natM z) n L) u)) ∧ Touch (fun _ => False) w w' := by
  obtain ⟨h5, h9, hn32, hn0, hzm, hsum⟩ := isOk_nat hok
  obtain ⟨m, hm⟩ : ∃ m, natM z = m := ⟨_, rfl⟩
  rw [hm] at hzm hsum ⊢
  have hI : Ints .i64 w a b off n (fun i => (m i : Int)) := ⟨h.at_, fun i hi => by rw [h.cell i hi, (hzm i hi).1]⟩
  have H := Lib.hid h
  have HI := Lib.hid hI
  have HOK := Lib.hid hok
  have hpb : (2 : Nat) ^ L ≤ 2 ^ 9 := Nat.pow_le_pow_right (by omega) h9
  have hpb5 : (2 : Nat) ^ 5 ≤ 2 ^ L := Nat.pow_le_pow_right (by omega) h5
  have hp := wrap_pow L (by omega)
  have hsl := fun u (hu : u < 2 ^ L) => symU_lt h5 h9 m hsum u hu
  have hxb := fun u (hu : u < 2 ^ L) => xU_bd h5 h9 m hsum u hu
  obtain ⟨Sy, hSy⟩ : ∃ Sy, symU m n L = Sy := ⟨_, rfl⟩
  rw [hSy] at hsl hxb ⊢
  have hSy2 : spreadO m (2 ^ L) n = Sy := hSy
  have hmle : ∀ i, i < n → m i ≤ 2 ^ L := fun i hi => (hzm i hi).2
  obtain ⟨S, hS⟩ : ∃ S : Nat, 2 ^ L = S := ⟨_, rfl⟩
  have hS1 : 2 ^ (L + 1) = 2 * S := by rw [Nat.pow_succ, hS]; omega
  rw [hS1] at hxb
  rw [hS] at hpb hpb5 hp hsum hsl hxb hSy2 hmle ⊢
  have HSL := Lib.hid hsl
  have HXB := Lib.hid hxb
  have HSY := Lib.hid hSy2
  have HML := Lib.hid hmle
  have HS := Lib.hid hS
  have HSUM := Lib.hid hsum
  have hmk := fun w => make_ents S (by omega) w
  have hwL : IntKind.u64.wrap (L : Int) = L := wrapL L (by omega)
  obtain ⟨i0, hi0, hz0, hz1, hz2⟩ := info_parts Try.info3
  have hd : decide ((L : Int) < 0) = false := by simp
  clear h hok hzm hm hI hsl hxb hSy hSy2 hmle hsum hS hS1
  go_enter Try.func93, Try.ntmps93
  go_wp2_with fail
  refine (ris_walk a b off n c z L _ H.out (by omega)).mono ?_
  rintro e w1 ⟨rfl, rfl⟩
  rw [HOK.out]
  go_wp2_with fail
  clear hmk
  obtain ⟨g, hg⟩ : ∃ g, w.heap.size = g := ⟨_, rfl⟩
  have hgw : w.heap.size ≤ g := by omega
  have HT0 := Lib.hid (made_tab (N := S) (heap_alloc_new w _))
  have TT := Lib.hid (Touch.new w (.cells (madeCells #[.int .i64 0, .int .i64 0, .int .i64 0] (S * 3)) 128))
  rw [hg] at HT0
  rw [hg]
  clear hg
  go_loopw [8, 9, 10] (fun at_ i _ wr => ∃ k : Nat, k ≤ n ∧ i = .int .i64 k ∧ at_ = .int .i64 (pos S (sumN m k) : Nat) ∧ TabAt wr g S (spreadO m S k) (fun _ => 0) (fun _ => 0) ∧ Touch (fun _ => False) w wr) (fun _ i _ _ => n - (intOf i).toNat)
  case atStart => exact ⟨0, by omega, rfl, by simp [pos, sumN], HT0.out, TT.out⟩
  case round =>
    obtain ⟨k, hk, rfl, rfl, hh, ht⟩ := hrel
    have HH := Lib.hid hh
    clear hh HT0 TT
    by_cases hlt : k < n
    · obtain rfl := HI.out.at_ (by omega)
      have e1 := ht.cell (HI.out.cell k hlt) id
      have hml := HML.out k hlt
      obtain ⟨mk, hmk⟩ : ∃ q, m k = q := ⟨_, rfl⟩
      rw [hmk] at e1 hml
      have HMK := Lib.hid hmk
      obtain ⟨K, hK⟩ : ∃ K, sumN m k = K := ⟨_, rfl⟩
      obtain ⟨T0, hT0⟩ : ∃ T, spreadO m S k = T := ⟨_, rfl⟩
      rw [hT0] at HH
      rw [hK]
      have HK := Lib.hid hK
      have HTT := Lib.hid hT0
      clear hmk hK hT0
      go_wp2_with fail
      go_loopw [8, 10] (fun at_ i w2 => ∃ j : Nat, j ≤ mk ∧ i = .int .i64 j ∧ at_ = .int .i64 (pos S (K + j) : Nat) ∧ TabAt w2 g S (spreadI S T0 K k j) (fun _ => 0) (fun _ => 0) ∧ Touch (fun _ => False) w w2) (fun _ i _ => mk - (intOf i).toNat)
      case atStart => exact ⟨0, by omega, rfl, rfl, HH.out, ht⟩
      case round =>
        obtain ⟨j, hj, rfl, rfl, hh, ht2⟩ := hrel
        have H2 := Lib.hid hh
        have e2 := ht2.cell (HI.out.cell k hlt) id
        rw [HMK.out] at e2
        have hpl := pos_lt (size := S) (by omega) (K + j)
        have hps := pos_succ S (K + j)
        obtain ⟨p, hp_⟩ : ∃ p, pos S (K + j) = p := ⟨_, rfl⟩
        have hpk : Hid (pos S (K + j) = p) := Lib.hid hp_
        rw [hp_] at hpl hps ⊢
        clear hh
        by_cases hlt2 : j < mk
        · have hfree := RowAt.free H2.out (p * 3)
          have hcell := (TabAt.get H2.out hpl).1
          have hset := TabAt.set0 H2.out p k
          have hnx : spreadI S T0 K k (j + 1) = upd (spreadI S T0 K k j) p k := by rw [spreadI, hp_]
          have HSET := Lib.hid hset
          have HNX := Lib.hid hnx
          have HPS := Lib.hid hps
          clear hset hnx hps hp_
          go_wp2_with fail
          go_roundw
          case rel =>
            refine ⟨j + 1, by omega, by go_num, ?_, by rw [HNX.out]; exact HSET.out, ht2.setCell (fun h => by have h' : g < w.heap.size := h; omega) _⟩
            rw [show K + (j + 1) = K + j + 1 from rfl, HPS.out]
            exact congrArg (Value.int .i64) (by simp only [Int.natCast_emod, Int.natCast_add, Int.natCast_ediv]; first | done | rfl)
          case measure => simp [intOf]; omega
        · obtain rfl : j = mk := by omega
          have hfin : spreadO m S (k + 1) = spreadI S T0 K k j := by rw [spreadO, HTT.out, HK.out, HMK.out]
          have hKs : sumN m (k + 1) = K + j := by rw [sumN, HK.out, HMK.out]
          have HF := Lib.hid hfin
          have HKS := Lib.hid hKs
          clear hfin hKs hp_ hps hpl
          go_wp2_with fail
          go_roundw
          case rel => exact ⟨k + 1, by omega, by go_num, by rw [HKS.out, hpk.out], by rw [HF.out]; exact H2.out, ht2⟩
          case measure => simp [intOf]; omega
    · obtain rfl : k = n := by omega
      have hT3 : TabAt wr g S Sy (fun _ => 0) (fun _ => 0) := by have := HH.out; rwa [HSY.out] at this
      have HT3 := Lib.hid hT3
      obtain ⟨at_, hat⟩ : ∃ q, pos S (sumN m k) = q := ⟨_, rfl⟩
      rw [hat]
      obtain rfl := HI.out.at_ hn0
      have HI4 := Lib.hid (HI.out.touch ht)
      clear hT3 hat HH
      go_wp2_with (refine wpList_append_mine rfl (.tmp 52) (.tmp 53) 43 43 rfl 3 i0 (.int .i64 0) 1 8 Try.underlying43 hi0 hz0 hz1 hz2 rfl (.slice (some ⟨wr.heap.size, 0, none⟩) 0 0) 0 [] rfl (row_of_tab (m := 0) (F := fun _ => .int .i64 0) (heap_alloc_new _ _) (by unfold maxLen; omega)) _ k _ rfl (src_ints c Try.underlying43 (HI4.out.touch (Touch.new wr _))) (by unfold maxLen; omega) (by omega) ?_; intro a5 c5 w4 hown4 ht4' hf4 _; simp only [Nat.zero_add, List.nil_append] at hown4 hf4 ⊢)
      have ht4 := own_app (Touch.new wr _) (OwnB.here wr 0) ht4'
      have o4 := (OwnB.here wr 0).fresh hf4 (Touch.new wr _).size
      obtain ⟨gn, cn, hv4, _, hrow4⟩ := rowAt_own hown4 hn0
      simp at hv4
      obtain ⟨rfl, rfl⟩ := hv4
      have hgn : wr.heap.size ≤ gn := o4 gn rfl
      have hgg : gn ≠ g := by have := RowAt.lt HT3.out; omega
      have HT4 := Lib.hid (RowAt.touch HT3.out ht4 id)
      have HN4 := Lib.hid hrow4
      have HTW := Lib.hid (ht.trans ht4)
      have hgnw : w.heap.size ≤ gn := by have := ht.size; omega
      clear hown4 hrow4 ht4 ht4' hf4 o4
      go_wp2_with fail
      go_loopw [12, 13] (fun i _ w5 => ∃ u : Nat, u ≤ S ∧ i = .int .i64 u ∧ TabAt w5 g S Sy (fun v => if v < u then bitsU L (xU m Sy v) else 0) (fun v => if v < u then baseU L (xU m Sy v) else 0) ∧ RowAt w5 gn 3 k (fun i => .int .i64 (nextN m Sy u i : Nat)) ∧ Touch (fun _ => False) w w5) (fun i _ _ => S - (intOf i).toNat)
      case atStart => exact ⟨0, by omega, rfl, HT4.out, HN4.out, HTW.out⟩
      case round =>
        obtain ⟨u, hu, rfl, hh, hnx, htw⟩ := hrel
        have H5 := Lib.hid hh
        have HN5 := Lib.hid hnx
        clear hh hnx
        by_cases hlu : u < S
        · obtain ⟨c0, c1, c2⟩ := TabAt.get H5.out hlu
          obtain ⟨hs1, _⟩ := HSL.out u hlu
          obtain ⟨hx0, _, _, hx2⟩ := HXB.out u hlu
          have cn0 := RowAt.get HN5.out hs1
          have fn0 := RowAt.free HN5.out (Sy u)
          have hxu : nextN m Sy u (Sy u) = xU m Sy u := rfl
          have hnn : ∀ i, nextN m Sy (u + 1) i = if i = Sy u then nextN m Sy u i + 1 else nextN m Sy u i := fun i => rfl
          obtain ⟨x, hx⟩ : ∃ x, xU m Sy u = x := ⟨_, rfl⟩
          obtain ⟨s, hs⟩ : ∃ s, Sy u = s := ⟨_, rfl⟩
          rw [hs] at c0 hs1 cn0 fn0 hxu
          rw [hx] at hx0 hx2 hxu
          rw [hxu] at cn0
          have hnn2 : ∀ i, nextN m Sy (u + 1) i = if i = s then x + 1 else nextN m Sy u i := fun i => by
            rw [hnn i, hs]
            by_cases e : i = s
            · rw [if_pos e, if_pos e, e, hxu]
            · rw [if_neg e, if_neg e]
          have HNN := Lib.hid hnn2
          have hsp := span_in (log := L) hx0 (by have := HS.out; rw [Nat.pow_succ, this]; omega)
          obtain ⟨y, hy⟩ : ∃ y, x * 2 ^ bitsU L x = y := ⟨_, rfl⟩
          have hyl : y ≤ 2 * S := by
            have h1 := hsp.2.1
            rw [Nat.add_mul, hy, Nat.pow_succ, HS.out] at h1
            omega
          have hbl := blen_le (x := x) (k := L + 1) (by have := HS.out; rw [Nat.pow_succ, this]; omega)
          have hbu : bitsU L x = L + 1 - blen x := rfl
          have hba : baseU L x = (y : Int) - S := by unfold baseU; rw [hy, HS.out]
          have hsh : wrap64 ((x : Int) * 2 ^ bitsU L x) = (y : Nat) := by
            have e : (x : Int) * 2 ^ bitsU L x = ((x * 2 ^ bitsU L x : Nat) : Int) := by simp
            rw [e, hy]; unfold wrap64; omega
          have hsh2 : IntKind.i64.wrap ((x : Int) * 2 ^ bitsU L x) = (y : Nat) := by
            have e : (x : Int) * 2 ^ bitsU L x = ((x * 2 ^ bitsU L x : Nat) : Int) := by simp
            rw [e, hy]; exact wrap_nat_i y S hyl hpb
          obtain ⟨B, hB⟩ : ∃ B, bitsU L x = B := ⟨_, rfl⟩
          obtain ⟨bl, hbl3⟩ : ∃ B, blen x = B := ⟨_, rfl⟩
          rw [hB] at hsh hsh2 hbu
          rw [hbl3] at hbl hbu
          have hS512 : S ≤ 512 := hpb
          have hxs : x ≤ 100000 := small_x hx2 hpb
          have fB : (L : Int) - (bl : Int) + 1 = (B : Nat) := fB_is hbu hbl
          have fw : IntKind.u64.wrap (x : Int) = x := wrapU x (Nat.le_trans hxs (by decide))
          have fs := wrap_sub_small y S hyl hpb
          have fb0 : (0 : Int) ≤ B := Int.natCast_nonneg _
          have fb64 : (B : Int) ≤ 64 := bits_64 hbu h9
          have fd : decide ((B : Int) < 0) = false := by simp
          have HLen := Lib.hid (fun w => digits_walk x (Nat.le_trans hxs (by decide)) w)
          rw [hbl3] at HLen
          have fwB : IntKind.u64.wrap (B : Int) = B := wrapL B (bits_mil hbu h9)
          have f3 : IntKind.i64.wrap ((y : Int) - S) = (y : Int) - S := wrap_sub_i y S hyl hpb
          have h6t := TabAt.set1 H5.out u B
          have h6n := RowAt.other HN5.out hgg (u * 3 + 1) (.int .i64 (B : Nat))
          have h7t := TabAt.set2 h6t u ((y : Int) - S)
          have h7n := RowAt.other h6n hgg (u * 3 + 2) (.int .i64 ((y : Int) - S))
          have h8n := RowAt.set h7n s (.int .i64 ((x : Int) + 1))
          have h8t : TabAt (((wr.setCell ⟨g, u * 3 + 1, none⟩ (.int .i64 (B : Nat))).setCell ⟨g, u * 3 + 2, none⟩ (.int .i64 ((y : Int) - S))).setCell ⟨gn, s, none⟩ (.int .i64 ((x : Int) + 1))) g S Sy _ _ := RowAt.other h7t (Ne.symm hgg) s _
          have f5 := RowAt.free H5.out (u * 3 + 1)
          have f6 := RowAt.free h6t (u * 3 + 2)
          have f7 := RowAt.free h7n s
          have g6 := (TabAt.get h6t hlu).2.1
          have g62 := (TabAt.get h6t hlu).2.2
          simp only [upd, if_true] at g6
          have n6 := RowAt.get h6n hs1
          have n7 := RowAt.get h7n hs1
          simp only [hxu] at n6 n7
          have HB2 := Lib.hid hB
          have HBA := Lib.hid hba
          have HXX := Lib.hid hx
          have HSS := Lib.hid hs
          have H8T := Lib.hid h8t
          have H8N := Lib.hid h8n
          clear h6n h6t h7t h7n h8t h8n hnn hnn2 hsp hy hbu hba hxu hB hbl3 hx hs
          have fx1 := wrap_suc x hxs
          have fu1 := wrap_suc u (small_u hlu hpb)
          clear hyl hpb hpb5 hxs hx2 hp hx0 hbl hS512
          go_wp2_with fail
          refine (HLen.out _).mono ?_
          rintro e w8 ⟨rfl, rfl⟩
          go_wp2_with fail
          go_region
          all_goals clear fB fb0 fb64 hsh hsh2 fs f3 fwB fd HLen fw h5 h9
          all_goals go_wp2_with fail
          all_goals simp only [fx1, fu1]
          go_roundw
          case rel =>
            refine ⟨u + 1, hlu, by go_num, ?_, ?_, (((htw.setCell (fun h => by exact Nat.not_lt.2 hgw h) _).setCell (fun h => by exact Nat.not_lt.2 hgw h) _).setCell (fun h => by exact Nat.not_lt.2 hgnw h) _).drew⟩
            · refine RowAt.congr (RowAt.drewI H8T.out) fun i hi => ?_
              unfold entC upd
              have e1 : ∀ v, (if v = u then B else if v < u then bitsU L (xU m Sy v) else 0) = if v < u + 1 then bitsU L (xU m Sy v) else 0 := fun v => by
                by_cases e : v = u
                · subst e; rw [if_pos rfl, if_pos (Nat.lt_succ_self _), HXX.out, HB2.out]
                · rw [if_neg e]
                  by_cases e2 : v < u
                  · rw [if_pos e2, if_pos (Nat.lt_succ_of_lt e2)]
                  · rw [if_neg e2, if_neg (lt_suc_not e e2)]
              have e2 : ∀ v, (if v = u then (y : Int) - S else if v < u then baseU L (xU m Sy v) else 0) = if v < u + 1 then baseU L (xU m Sy v) else 0 := fun v => by
                by_cases e : v = u
                · subst e; rw [if_pos rfl, if_pos (Nat.lt_succ_self _), HXX.out, HBA.out]
                · rw [if_neg e]
                  by_cases e2 : v < u
                  · rw [if_pos e2, if_pos (Nat.lt_succ_of_lt e2)]
                  · rw [if_neg e2, if_neg (lt_suc_not e e2)]
              rw [e1, e2]
            · refine RowAt.congr (RowAt.drewI H8N.out) fun i hi => ?_
              show (if i = s then Value.int .i64 ((x : Int) + 1) else _) = _
              rw [HNN.out i]
              by_cases e : i = s
              · rw [if_pos e, if_pos e]; rfl
              · rw [if_neg e, if_neg e]
          case measure => exact meas_u hlu
        · obtain rfl : u = S := by omega
          go_wp2_with fail
          go_ret2
          refine ⟨g, rfl, hgw, RowAt.congr H5.out fun i hi => ?_, htw⟩
          unfold entC
          simp [show i / 3 < u by omega]
end Go.Proofs.Ythnhacbagmhfoaa

/- fse: a row behind draws. -/
namespace Go.Proofs.Ythnhacbagmhfoaa
open Go.RowKit Go.WideShapes Fs
set_option linter.unusedVariables false
set_option maxRecDepth 100000
theorem RowAt.drewNI {w : World} {g : Nat} {e : TypeId} {n : Nat} {F : Nat → Value} (h : RowAt w g e n F) (m : Nat) : RowAt (w.drewN m) g e n F := h

end Go.Proofs.Ythnhacbagmhfoaa

/- fse: a symbol's state: find, IndexFunc. -/
namespace Go.Proofs.Ythnhacbagmhfoaa
open Go.RowKit Go.WideShapes Fs
set_option linter.unusedVariables false
set_option linter.unusedSimpArgs false
set_option maxRecDepth 100000

theorem pow_small {y : Nat} (h : y ≤ 9) : 2 ^ y ≤ 512 := by
  have := Nat.pow_le_pow_right (show 0 < 2 by omega) h; omega
theorem wrap_q {q : Int} {P : Nat} (h0 : 0 ≤ q) (h1 : q ≤ 512) (h2 : P ≤ 512) : wrap64 (q + (P : Int)) = q + P := by unfold wrap64; omega
theorem wrap_qi {q : Int} {P : Nat} (h0 : 0 ≤ q) (h1 : q ≤ 512) (h2 : P ≤ 512) : IntKind.i64.wrap (q + (P : Int)) = q + P := IntWalk.i64_in _ (by omega)

set_option maxHeartbeats 1000000 in
theorem find_walk (g c N : Nat) (Sy Bi : Nat → Nat) (Ba : Nat → Int) (s : Int) (t : Nat) (w : World) (T : TabOk N Sy Bi Ba) (h : TabAt w g N Sy Bi Ba) :
    Calls Try.prog 94 #[.slice (some ⟨g, 0, none⟩) N c, .int .i64 s, .int .i64 t] w fun e w' => e = .returned (.int .i64 (firstI (hit Sy Bi Ba s t) N)) ∧ ∃ m, w' = w.drewN m := by
  have H1 := Lib.hid h
  have HT := Lib.hid T
  have hN := T.size
  obtain ⟨R, hR⟩ : ∃ R, firstI (hit Sy Bi Ba s t) N = R := ⟨_, rfl⟩
  rw [hR]
  have HR := Lib.hid hR
  clear h T hR
  go_enter Try.func94, Try.ntmps94
  go_wp2_with fail
  go_loopw [7] (fun i wr => ∃ k m : Nat, k ≤ N ∧ i = .int .i64 k ∧ wr = w.drewN m ∧ firstU (hit Sy Bi Ba s t) k = none) (fun i _ => N - (intOf i).toNat)
  case atStart => exact ⟨0, 0, by omega, rfl, rfl, rfl⟩
  case round =>
    obtain ⟨k, m, hk, rfl, rfl, hf⟩ := hrel
    by_cases hlt : k < N
    · obtain ⟨k1, k2, k3⟩ := TabAt.get H1.out hlt
      have hbi := HT.out.bi k hlt
      have hlo := HT.out.lo k hlt
      have hhi := HT.out.hi k hlt
      have hh : hit Sy Bi Ba s t k = (decide ((Sy k : Int) = s) && (decide (Ba k ≤ (t : Int)) && decide ((t : Int) < Ba k + ((2 ^ Bi k : Nat) : Int)))) := rfl
      have hst := firstU_step hf
      obtain ⟨x, hx⟩ : ∃ x : Int, (Sy k : Int) = x := ⟨_, rfl⟩
      obtain ⟨y, hy⟩ : ∃ x : Nat, Bi k = x := ⟨_, rfl⟩
      obtain ⟨q, hq⟩ : ∃ x : Int, Ba k = x := ⟨_, rfl⟩
      rw [hx] at k1
      rw [hy] at k2 hbi hhi
      rw [hq] at k3 hlo hhi
      rw [hx, hy, hq] at hh
      have hp := wrap_pow y (by omega)
      have hps := pow_small hbi
      obtain ⟨P, hP⟩ : ∃ P : Nat, 2 ^ y = P := ⟨_, rfl⟩
      rw [hP] at hp hps hhi hh
      have e1 : ∀ m, (w.drewN m).cell? ⟨g, k * 3, none⟩ = some (.int .i64 x) := fun m => (Touch.eq_drewN (S := fun _ => False) w m).cell k1 id
      have e2 : ∀ m, (w.drewN m).cell? ⟨g, k * 3 + 1, none⟩ = some (.int .i64 y) := fun m => (Touch.eq_drewN (S := fun _ => False) w m).cell k2 id
      have e3 : ∀ m, (w.drewN m).cell? ⟨g, k * 3 + 2, none⟩ = some (.int .i64 q) := fun m => (Touch.eq_drewN (S := fun _ => False) w m).cell k3 id
      have fq := wrap_q (q := q) (P := P) hlo (by omega) hps
      have fqi := wrap_qi (q := q) (P := P) hlo (by omega) hps
      have fy : IntKind.u64.wrap (y : Int) = y := wrapU y (by omega)
      have fd : decide ((y : Int) < 0) = false := by simp
      have fb0 : (0 : Int) ≤ y := Int.natCast_nonneg _
      have fb64 : (y : Int) ≤ 64 := by omega
      have HST := Lib.hid hst
      have HH := Lib.hid hh
      have HF := Lib.hid hf
      have hR2 : firstU (hit Sy Bi Ba s t) (k + 1) = some k → R = k := fun h => by rw [← HR.out]; exact firstI_some (firstU_mono h hlt)
      have HR2 := Lib.hid hR2
      clear k1 k2 k3 hx hy hq hst hh hf hP hhi hps hbi hlo hR2
      have hno : hit Sy Bi Ba s t k = false → firstU (hit Sy Bi Ba s t) (k + 1) = none := fun h => by rw [HST.out, h]; rfl
      have HNO := Lib.hid hno
      clear hno
      have hm : N - (intOf (Value.int .i64 ((k : Int) + 1))).toNat < N - (intOf (Value.int .i64 (k : Int))).toNat := meas_u hlt
      have HM := Lib.hid hm
      clear hm
      have fu1 := wrap_suc k (by omega)
      by_cases c1 : x = s
      · subst c1
        by_cases c2 : q ≤ (t : Int)
        · have d2 : decide (q ≤ (t : Int)) = true := by simpa using c2
          by_cases c3 : (t : Int) < q + P
          · have d3 : decide ((t : Int) < q + P) = true := by simpa using c3
            have hyes : hit Sy Bi Ba x t k = true := by rw [HH.out, d2, d3]; simp
            have hfin := HR2.out (by rw [HST.out, hyes]; rfl)
            subst hfin
            clear hyes c2 c3
            go_wp2_with fail
            go_quiet (fail)
            go_wp2_with fail
            go_ret
            exact ⟨rfl, _, World.drewN_drewN _ _ _⟩
          · have d3 : decide ((t : Int) < q + P) = false := by simpa using c3
            have hh := HNO.out (by rw [HH.out, d3]; simp)
            have HG := Lib.hid hh
            clear hh c2 c3
            go_wp2_with fail
            go_quiet (fail)
            go_wp2_with fail
            go_roundw
            case rel => exact ⟨k + 1, _, by omega, by go_num, rfl, HG.out⟩
            case measure => exact HM.out
        · have d2 : decide (q ≤ (t : Int)) = false := by simpa using c2
          have hh := HNO.out (by rw [HH.out, d2]; simp)
          have HG := Lib.hid hh
          clear hh c2
          go_wp2_with fail
          go_quiet (fail)
          go_wp2_with fail
          go_roundw
          case rel => exact ⟨k + 1, _, by omega, by go_num, rfl, HG.out⟩
          case measure => exact HM.out
      · have d1 : (x == s) = false := by simpa using c1
        have hh := HNO.out (by rw [HH.out, decide_eq_false c1]; rfl)
        have HG := Lib.hid hh
        clear hh c1
        go_wp2_with fail
        go_quiet (fail)
        go_wp2_with fail
        go_roundw
        case rel => exact ⟨k + 1, _, by omega, by go_num, rfl, HG.out⟩
        case measure => exact HM.out
    · obtain rfl : k = N := by omega
      have hR3 : R = -1 := by rw [← HR.out]; exact firstI_none hf
      subst hR3
      clear hf
      go_wp2_with fail
      go_ret
      exact ⟨rfl, m, rfl⟩
end Go.Proofs.Ythnhacbagmhfoaa

/- fse: IndexFunc over states. -/
namespace Go.Proofs.Ythnhacbagmhfoaa
open Go.RowKit Go.WideShapes Fs
set_option linter.unusedVariables false
set_option linter.unusedSimpArgs false
set_option maxRecDepth 100000

theorem tab_top {N : Nat} {Sy Bi : Nat → Nat} {Ba : Nat → Int} (T : TabOk N Sy Bi Ba) {u : Nat} (hu : u < N) : Ba u ≤ 512 := by
  have h1 := T.hi u hu
  have h2 := T.size
  obtain ⟨P, hP⟩ : ∃ P : Nat, 2 ^ Bi u = P := ⟨_, rfl⟩
  rw [hP] at h1
  omega

set_option maxHeartbeats 1000000 in
/-- The closure: whether a state is the symbol's whose span has t. -/
theorem in_walk (x s q : Int) (t y gs gt : Nat) (w : World) (hs : w.cell? ⟨gs, 0, none⟩ = some (.int .i64 s)) (ht : w.cell? ⟨gt, 0, none⟩ = some (.int .i64 t)) (hbi : y ≤ 9) (hlo : 0 ≤ q) (hhi : q ≤ 512) (B : Bool) (hB : (decide (x = s) && (decide (q ≤ (t : Int)) && decide ((t : Int) < q + ((2 ^ y : Nat) : Int)))) = B) :
    Calls Try.prog 90 #[.agg #[.int .i64 x, .int .i64 y, .int .i64 q], .pointer (some ⟨gs, 0, none⟩), .pointer (some ⟨gt, 0, none⟩)] w fun e w' => e = .returned (.bool B) ∧ Touch (fun _ => False) w w' := by
  have TT := Lib.hid (Touch.new w (.cells #[.int .i64 x, .int .i64 y, .int .i64 q] 128))
  have hs2 := (Touch.new w (.cells #[.int .i64 x, .int .i64 y, .int .i64 q] 128)).cell hs id
  have ht2 := (Touch.new w (.cells #[.int .i64 x, .int .i64 y, .int .i64 q] 128)).cell ht id
  have hp := wrap_pow y (by omega)
  have hps := pow_small hbi
  obtain ⟨P, hP⟩ : ∃ P : Nat, 2 ^ y = P := ⟨_, rfl⟩
  rw [hP] at hp hps hB
  have fq := wrap_q (q := q) (P := P) hlo (by omega) hps
  have fqi := wrap_qi (q := q) (P := P) hlo (by omega) hps
  have fd : decide ((y : Int) < 0) = false := by simp
  have fb0 : (0 : Int) ≤ y := Int.natCast_nonneg _
  have fb64 : (y : Int) ≤ 64 := by omega
  have HB := Lib.hid hB
  clear hs ht hP hps hbi hlo hhi hB
  by_cases c1 : x = s
  · subst c1
    by_cases c2 : q ≤ (t : Int)
    · have d2 : decide (q ≤ (t : Int)) = true := by simpa using c2
      by_cases c3 : (t : Int) < q + P
      · have d3 : decide ((t : Int) < q + P) = true := by simpa using c3
        obtain rfl : true = B := by rw [← HB.out, d2, d3]; simp
        clear c2 c3
        go_enter Try.func90, Try.ntmps90
        go_wp2_with fail
        go_quiet (fail)
        go_wp2_with fail
        go_ret
        exact ⟨rfl, TT.out.drewN _⟩
      · have d3 : decide ((t : Int) < q + P) = false := by simpa using c3
        obtain rfl : false = B := by rw [← HB.out, d3]; simp
        clear c2 c3
        go_enter Try.func90, Try.ntmps90
        go_wp2_with fail
        go_quiet (fail)
        go_wp2_with fail
        go_ret
        exact ⟨rfl, TT.out.drewN _⟩
    · have d2 : decide (q ≤ (t : Int)) = false := by simpa using c2
      obtain rfl : false = B := by rw [← HB.out, d2]; simp
      clear c2
      go_enter Try.func90, Try.ntmps90
      go_wp2_with fail
      go_quiet (fail)
      go_wp2_with fail
      go_ret
      exact ⟨rfl, TT.out.drewN _⟩
  · have d1 : (x == s) = false := by simpa using c1
    obtain rfl : false = B := by rw [← HB.out, decide_eq_false c1]; rfl
    clear c1
    go_enter Try.func90, Try.ntmps90
    go_wp2_with fail
    go_quiet (fail)
    go_wp2_with fail
    go_ret
    exact ⟨rfl, TT.out.drewN _⟩

set_option maxHeartbeats 1000000 in
theorem index41 (g c N : Nat) (Sy Bi : Nat → Nat) (Ba : Nat → Int) (s : Int) (t gs gt : Nat) (w : World) (T : TabOk N Sy Bi Ba) (h : TabAt w g N Sy Bi Ba) (hs : w.cell? ⟨gs, 0, none⟩ = some (.int .i64 s)) (ht : w.cell? ⟨gt, 0, none⟩ = some (.int .i64 t)) :
    Calls Try.prog 89 #[.slice (some ⟨g, 0, none⟩) N c, .func (.func 90) #[] #[.pointer (some ⟨gs, 0, none⟩), .pointer (some ⟨gt, 0, none⟩)]] w fun e w' => e = .returned (.int .i64 (firstI (hit Sy Bi Ba s t) N)) ∧ Touch (fun _ => False) w w' := by
  have H1 := Lib.hid h
  have HT := Lib.hid T
  have HS := Lib.hid hs
  have HTT := Lib.hid ht
  have hN := T.size
  obtain ⟨R, hR⟩ : ∃ R, firstI (hit Sy Bi Ba s t) N = R := ⟨_, rfl⟩
  rw [hR]
  have HR := Lib.hid hR
  clear h T hR hs ht
  go_enter Try.func89, Try.ntmps89
  go_wp2_with fail
  go_loopw [5, 8] (fun _ i wr => ∃ k : Nat, k ≤ N ∧ i = .int .i64 k ∧ Touch (fun _ => False) w wr ∧ firstU (hit Sy Bi Ba s t) k = none) (fun _ i _ => N - (intOf i).toNat)
  case atStart => exact ⟨0, by omega, rfl, Touch.refl _ _, rfl⟩
  case round =>
    obtain ⟨k, hk, rfl, hw, hf⟩ := hrel
    have HW := Lib.hid hw
    by_cases hlt : k < N
    · obtain ⟨k1, k2, k3⟩ := TabAt.get (RowAt.touch H1.out hw id) hlt
      have hbi := HT.out.bi k hlt
      have hlo := HT.out.lo k hlt
      have hhi := HT.out.hi k hlt
      have hst := firstU_step hf
      have hR2 : firstU (hit Sy Bi Ba s t) (k + 1) = some k → R = k := fun h => by rw [← HR.out]; exact firstI_some (firstU_mono h hlt)
      have hcl := in_walk (Sy k) s (Ba k) t (Bi k) gs gt wr (hw.cell HS.out id) (hw.cell HTT.out id) hbi hlo (tab_top HT.out hlt) (hit Sy Bi Ba s t k) rfl
      obtain ⟨x, hx⟩ : ∃ x : Int, (Sy k : Int) = x := ⟨_, rfl⟩
      obtain ⟨y, hy⟩ : ∃ x : Nat, Bi k = x := ⟨_, rfl⟩
      obtain ⟨q, hq⟩ : ∃ x : Int, Ba k = x := ⟨_, rfl⟩
      rw [hx] at k1 hcl
      rw [hy] at k2 hcl
      rw [hq] at k3 hcl
      have HCL := Lib.hid hcl
      have HST := Lib.hid hst
      have HR2 := Lib.hid hR2
      clear hx hy hq hst hf hhi hbi hlo hR2 hcl hw
      have hm : N - (intOf (Value.int .i64 ((k : Int) + 1))).toNat < N - (intOf (Value.int .i64 (k : Int))).toNat := meas_u hlt
      have HM := Lib.hid hm
      clear hm
      have fu1 := wrap_suc k (by omega)
      cases hb : hit Sy Bi Ba s t k with
      | true =>
        obtain rfl := HR2.out (by rw [HST.out, hb]; rfl)
        have HB := Lib.hid hb
        clear hb
        go_wp2_with fail
        refine HCL.out.mono ?_
        rintro e w1 ⟨rfl, t1⟩
        rw [HB.out]
        go_wp2_with fail
        go_ret
        exact ⟨rfl, HW.out.trans t1⟩
      | false =>
        have hn : firstU (hit Sy Bi Ba s t) (k + 1) = none := by rw [HST.out, hb]; rfl
        have HB := Lib.hid hb
        have HG := Lib.hid hn
        clear hb hn
        go_wp2_with fail
        refine HCL.out.mono ?_
        rintro e w1 ⟨rfl, t1⟩
        rw [HB.out]
        go_wp2_with fail
        go_roundw
        case rel => exact ⟨k + 1, by omega, by go_num, HW.out.trans t1, HG.out⟩
        case measure => exact HM.out
    · obtain rfl : k = N := by omega
      obtain rfl : R = -1 := by rw [← HR.out]; exact firstI_none hf
      clear hf hw
      go_wp2_with fail
      go_ret
      exact ⟨rfl, HW.out⟩
end Go.Proofs.Ythnhacbagmhfoaa

/- fse: the document's Encode. -/
namespace Go.Proofs.Ythnhacbagmhfoaa
open Go.RowKit Go.WideShapes Fs
set_option linter.unusedVariables false
set_option linter.unusedSimpArgs false
set_option maxRecDepth 100000

/-- What Encode hands back. -/
def EncPost (w : World) (L : Nat) (r : Option (Nat × List Bool)) (e : Ending) (w' : World) : Prop :=
  (match r with
  | none => e = .returned (.tuple #[.slice none 0 0, .bool false])
  | some (t, l) => ∃ g, e = .returned (.tuple #[.slice (some ⟨g, 0, none⟩) ((putL (t : Int) (L : Int) l).length / 8 + 1) ((putL (t : Int) (L : Int) l).length / 8 + 1), .bool true]) ∧ w.heap.size ≤ g ∧ w'.heap[g]? = some (.cells (tab ((putL (t : Int) (L : Int) l).length / 8 + 1) (bytesF (putL (t : Int) (L : Int) l))) 5 (0, 0)))
  ∧ Touch (fun _ => False) w w'

theorem foot_not {w : World} {t e : TypeId} {b g : Nat} {v : Value} {l : List Bool} {cur : Array Value} (hw : Wr w t b v l) (h : w.heap[g]? = some (.cells cur e (0, 0))) (h1 : t ≠ e) (h2 : (4 : TypeId) ≠ e) : ¬ Foot b v g := by
  rintro (rfl | hv)
  · rw [hw.cell] at h; simp at h; exact h1 h.2
  · rcases hw.row.2 with ⟨rfl, _⟩ | ⟨g', cap, cur', rfl, _, hg, _⟩
    · cases hv
    · obtain rfl : g' = g := by simpa [Value.ownBlock] using hv
      rw [hg] at h; simp at h; exact h2 h.2
theorem foot_tab {w : World} {t : TypeId} {b g N : Nat} {v : Value} {l : List Bool} {Sy Bi : Nat → Nat} {Ba : Nat → Int} (hw : Wr w t b v l) (h : TabAt w g N Sy Bi Ba) (h1 : t ≠ 128) : ¬ Foot b v g := by
  obtain ⟨cur, hc, _⟩ := h
  exact foot_not hw hc h1 (by decide)
theorem Wr.drew {w : World} {t : TypeId} {b : Nat} {v : Value} {l : List Bool} (h : Wr w t b v l) : Wr w.drew t b v l := ⟨h.cell, h.row, h.apart⟩
theorem wr_alloc {w : World} {t : TypeId} {b : Nat} {v : Value} {l : List Bool} (h : Wr w t b v l) (o : Obj) : Wr (w.alloc o) t b v l := h.touch (Touch.new w o) id (fun _ _ => id)
theorem putL_len (v n : Int) (l : List Bool) : (putL v n l).length ≤ l.length + 24 := by
  unfold putL
  split
  · rename_i h
    obtain ⟨a, k, rfl, rfl, hk, _⟩ := putOk_yes h
    rw [List.length_append, digits_length]; simpa using hk
  · omega

theorem renc_no (a a2 : Option Addr) (b off n c ns cs : Nat) (z : Nat → Int) (log : Int) (w : World) (h : Ints .i64 w a b off n z) (hn : n ≤ 100000) (hno : isOk z n log = false) :
    Calls Try.prog 76 #[.slice a n c, .int .i64 log, .slice a2 ns cs] w fun e w' => e = .returned (.tuple #[.slice none 0 0, .bool false]) ∧ w = w' := by
  have H := Lib.hid h
  have HN := Lib.hid hno
  clear h hno
  go_enter Try.func76, Try.ntmps76
  go_wp2_with fail
  refine (rtable_no a b off n c z log _ H.out hn HN.out).mono ?_
  rintro e w1 ⟨rfl, rfl⟩
  go_wp2_with fail
  go_ret2
  exact ⟨rfl, rfl⟩

theorem sub_nat_wrap {t : Nat} {q : Int} {v : Nat} (h : (t : Int) - q = v) (hv : v ≤ 512) : wrap64 ((t : Int) - q) = v := by rw [h]; unfold wrap64; omega
theorem sub_nat_wrapi {t : Nat} {q : Int} {v : Nat} (h : (t : Int) - q = v) (hv : v ≤ 512) : IntKind.i64.wrap ((t : Int) - q) = v := by rw [h]; exact IntWalk.i64_in _ (by omega)
theorem wrap_pred {j : Nat} (h : j ≤ 100000) : wrap64 ((j : Int) - 1) = (j : Int) - 1 := by unfold wrap64; omega
theorem wrap_predi {j : Nat} (h : j ≤ 100000) : IntKind.i64.wrap ((j : Int) - 1) = (j : Int) - 1 := IntWalk.i64_in _ (by omega)

set_option maxHeartbeats 4000000 in
theorem renc_yes (a a2 : Option Addr) (b off n c L b2 off2 ns cs : Nat) (z y : Nat → Int) (w : World) (h : Ints .i64 w a b off n z) (hy : Ints .i64 w a2 b2 off2 ns y) (hns : ns ≤ 40000) (hok : isOk z n (L : Int) = true) :
    Calls Try.prog 76 #[.slice a n c, .int .i64 L, .slice a2 ns cs] w (EncPost w L (encF (2 ^ L) (symU (natM z) n L) (fun u => bitsU L (xU (natM z) (symU (natM z) n L) u)) (fun u => baseU L (xU (natM z) (symU (natM z) n L) u)) (backL y ns ns))) := by
  obtain ⟨h5, h9, hn32, hn0, hzm, hsum⟩ := isOk_nat hok
  have htb := fun w h => rtable_yes a b off n c L z w h hok
  have T := tabOk_is h5 h9 (natM z) hsum hn32
  obtain ⟨Ba, hBa⟩ : ∃ f, (fun u => baseU L (xU (natM z) (symU (natM z) n L) u)) = f := ⟨_, rfl⟩
  obtain ⟨Bi, hBi⟩ : ∃ f, (fun u => bitsU L (xU (natM z) (symU (natM z) n L) u)) = f := ⟨_, rfl⟩
  obtain ⟨Sy, hSy⟩ : ∃ f, symU (natM z) n L = f := ⟨_, rfl⟩
  rw [hBa, hBi, hSy] at htb T ⊢
  have hN0 : 0 < 2 ^ L := Nat.two_pow_pos L
  obtain ⟨N, hN⟩ : ∃ N : Nat, 2 ^ L = N := ⟨_, rfl⟩
  rw [hN] at htb T hN0 ⊢
  have hN512 := T.size
  obtain ⟨R, hR⟩ : ∃ R, encF N Sy Bi Ba (backL y ns ns) = R := ⟨_, rfl⟩
  rw [hR]
  have HR := Lib.hid hR
  have HT := Lib.hid T
  have HTB := Lib.hid htb
  have H := Lib.hid h
  have HY := Lib.hid hy
  clear hBa hBi hSy hN hR T htb h hy hok hzm hsum
  go_enter Try.func76, Try.ntmps76
  go_wp2_with fail
  refine (HTB.out _ H.out).mono ?_
  rintro e w1 ⟨g, rfl, hg, htab, t1⟩
  have T1 := Lib.hid t1
  have HTab := Lib.hid htab
  clear t1 htab
  go_wp2_with fail
  have hwr : Wr (w1.alloc (.cells #[.slice none 0 0] 114)) 114 w1.heap.size (.slice none 0 0) [] := ⟨heap_alloc_new _ _, World.ownsRow_nil _ _ _ _, by simp [Value.ownBlock]⟩
  have hsz : w.heap.size ≤ w1.heap.size := T1.out.size
  obtain ⟨B, hB⟩ : ∃ B, w1.heap.size = B := ⟨_, rfl⟩
  rw [hB] at hwr hsz
  rw [hB]
  have HWR := Lib.hid hwr
  have T2 := Lib.hid (T1.out.alloc (.cells #[.slice none 0 0] 114))
  have HTab2 := Lib.hid (RowAt.touch HTab.out (Touch.new w1 (.cells #[.slice none 0 0] 114)) id)
  clear hwr hB
  have hpre := wrap_pred (j := ns) (by omega)
  go_loopw [11, 12] (fun at_ i wr => ∃ (j t : Nat) (l : List Bool) (v : Value) (ii : Int), j ≤ ns ∧ ii = (j : Int) - 1 ∧ i = .int .i64 ii ∧ at_ = .int .i64 t ∧ encF N Sy Bi Ba (backL y ns (ns - j)) = some (t, l) ∧ Wr wr 114 B v l ∧ OwnB w.heap.size v ∧ TabAt wr g N Sy Bi Ba ∧ Touch (fun _ => False) w wr ∧ l.length ≤ 9 * (ns - j)) (fun _ i _ => (intOf i + 1).toNat)
  case atStart => exact ⟨ns, 0, [], _, _, Nat.le_refl _, rfl, by first | rfl | go_num, rfl, by simp [backL, encF], HWR.out, OwnB.nil _, HTab2.out, T2.out, by simp⟩
  case round =>
    obtain ⟨j, t, l, v, ii, hj, hii, rfl, rfl, he, hwr, hown, htab, ht, hlen⟩ := hrel
    have HE := Lib.hid he
    have HW := Lib.hid hwr
    have HTW := Lib.hid htab
    clear he hwr htab HTab HTab2 HWR hpre
    cases j with
    | zero =>
      have hneg : ii < 0 := by rw [hii]; decide
      have hnd : decide ((0 : Int) ≤ ii) = false := by simpa using hneg
      have he : R = some (t, l) := by rw [← HR.out]; exact HE.out
      subst he
      clear hii
      have hpl := putL_len (t : Int) (L : Int) l
      go_wp2_with fail
      refine (rput_walk B t L _ v l HW.out (by omega)).mono ?_
      rintro e w3 ⟨rfl, v3, hw3, t3, f3⟩
      have T3 := Lib.hid (foot_owns ht hsz hown t3)
      have HW3 := Lib.hid hw3
      clear hw3 t3 f3
      go_wp2_with fail
      refine (rbytes_walk B v3 _ _ HW3.out (by omega)).mono ?_
      rintro e w4 ⟨rfl, hh4, t4⟩
      have HH4 := Lib.hid hh4
      have hle : w.heap.size ≤ w3.heap.size := T3.out.size
      clear hh4
      go_wp2_with fail
      go_ret2
      exact ⟨⟨_, rfl, hle, HH4.out⟩, T3.out.trans t4⟩
    | succ j =>
      obtain rfl : ii = (j : Int) := by rw [hii]; push_cast; omega
      obtain rfl := HY.out.at_ (by omega)
      have e1 := ht.cell (HY.out.cell j (by omega)) id
      obtain ⟨s, hs⟩ : ∃ s, y j = s := ⟨_, rfl⟩
      rw [hs] at e1
      have hbk : backL y ns (ns - j) = backL y ns (ns - (j + 1)) ++ [s] := by
        rw [show ns - j = (ns - (j + 1)) + 1 by omega, backL_succ, show ns - 1 - (ns - (j + 1)) = j by omega, hs]
      have hst : encF N Sy Bi Ba (backL y ns (ns - j)) = encS N Sy Bi Ba (some (t, l)) s := by rw [hbk, encF_snoc, HE.out]
      have HST := Lib.hid hst
      have hpre := wrap_pred (j := j) (by omega)
      have hm : ((intOf (Value.int .i64 ((j : Int) - 1))) + 1).toNat < ((intOf (Value.int .i64 (j : Int))) + 1).toNat := by simp [intOf]
      have HM := Lib.hid hm
      have hlt : j < ns := by omega
      have hjn : j ≤ ns := by omega
      have hl9 : l.length + 9 ≤ 9 * (ns - j) := by omega
      have hl900 : l.length ≤ 900000 := by omega
      clear hii hbk hst hs hm hlen hj
      cases hf : firstU (hit Sy Bi Ba s t) N with
      | none =>
        have hfi := firstI_none hf
        have hR2 : R = none := by
          rw [← HR.out]
          exact backL_no N Sy Bi Ba (k := ns - j) (by rw [HST.out, encS_no _ _ _ _ hf]) (by omega)
        subst hR2
        clear hf
        go_wp2_with fail
        refine (find_walk g N N Sy Bi Ba s t _ HT.out HTW.out).mono ?_
        rintro e w2 ⟨rfl, m, rfl⟩
        rw [hfi]
        go_wp2_with fail
        go_ret2
        exact ⟨rfl, ht.drewN _⟩
      | some u =>
        have hfi := firstI_some hf
        have hst2 := HST.out
        rw [encS_yes _ _ _ _ hf] at hst2
        obtain ⟨x, hx, hx2, hb9, hu, _⟩ := hit_put HT.out hf
        have hxl : x ≤ 512 := Nat.le_trans (Nat.le_of_lt hx2) (pow_small hb9)
        rw [hx, putL_nat _ hx2 (by omega)] at hst2
        obtain ⟨k1, k2, k3⟩ := TabAt.get HTW.out hu
        have hpx : putL (x : Int) (Bi u : Int) l = l ++ Go.Proofs.Ythnhacbagmhfoaa.digits x (Bi u) := putL_nat _ hx2 (by omega)
        obtain ⟨q, hq⟩ : ∃ q, Ba u = q := ⟨_, rfl⟩
        obtain ⟨bb, hbb⟩ : ∃ q, Bi u = q := ⟨_, rfl⟩
        rw [hq] at k3 hx
        rw [hbb] at k2 hst2 hpx hb9
        have e2 : ∀ m, (wr.drewN m).cell? ⟨g, u * 3 + 1, none⟩ = some (.int .i64 bb) := fun m => (Touch.eq_drewN (S := fun _ => False) wr m).cell k2 id
        have e3 : ∀ m, (wr.drewN m).cell? ⟨g, u * 3 + 2, none⟩ = some (.int .i64 q) := fun m => (Touch.eq_drewN (S := fun _ => False) wr m).cell k3 id
        have fx := sub_nat_wrap hx hxl
        have fxi := sub_nat_wrapi hx hxl
        have HS2 := Lib.hid hst2
        have HPX := Lib.hid hpx
        have hll : (l ++ Go.Proofs.Ythnhacbagmhfoaa.digits x bb).length ≤ 9 * (ns - j) := by rw [List.length_append, digits_length]; omega
        have HLL := Lib.hid hll
        have HF := Lib.hid hf
        have hu512 : u ≤ 100000 := by omega
        clear hf hst2 hpx hx hx2 hq hbb hxl k1 k2 k3 hb9 hll
        go_wp2_with fail
        refine (find_walk g N N Sy Bi Ba s t _ HT.out HTW.out).mono ?_
        rintro e w2 ⟨rfl, m, rfl⟩
        rw [hfi]
        have HW2 := Lib.hid (HW.out.drewN m)
        have HTW2 := Lib.hid (RowAt.drewNI HTW.out m)
        have ht2 := ht.drewN m
        have f2 := e2 m
        have f3 := e3 m
        clear e1 hfi
        have HFN := Lib.hid (foot_tab HW2.out HTW2.out (by decide))
        go_wp2_with fail
        go_region_held3 (fun wx => wx.cell? ⟨g, u * 3 + 2, none⟩ = some (.int .i64 q) ∧ wx.cell? ⟨g, u * 3 + 1, none⟩ = some (.int .i64 bb)) (first | exact ⟨f3, f2⟩ | exact ⟨t4.cell f3 HFN.out, t4.cell f2 HFN.out⟩) (first | (go_at_call 77; refine (rput_walk B x bb _ v l (HW2.out.drew) hl900).mono ?_; rintro e w4 ⟨rfl, v4, hw4, t4, g4⟩))
        rw [HPX.out] at hw4
        have HW4 := Lib.hid hw4
        have T4 := Lib.hid (foot_owns ht2.drew hsz hown t4)
        have o4 := hown.fresh g4 ht2.size
        have HTW4 := Lib.hid (RowAt.touch (RowAt.drewI HTW2.out) t4 HFN.out)
        clear hw4 t4 g4
        go_wp2_with fail
        go_roundw
        case rel => exact ⟨j, u, _, v4, _, hjn, rfl, by first | rfl | go_num, rfl, HS2.out, HW4.out, o4, HTW4.out, T4.out, HLL.out⟩
        case measure => exact HM.out
end Go.Proofs.Ythnhacbagmhfoaa

/- fse: slices.Backward: what its iterator gives. -/
namespace Go.Proofs.Ythnhacbagmhfoaa
open Go.RowKit Go.WideShapes Go.Shelf Fs
set_option linter.unusedVariables false
set_option linter.unusedSimpArgs false
set_option maxRecDepth 100000
attribute [local go_sem] Oper.semAt_some

/-- What an iterator over memory wants kept: some blocks. -/
def KeepAt (S : Nat → Prop) (A B : World) : Prop := ∀ k, S k → B.heap[k]? = A.heap[k]?
theorem KeepAt.trans {S : Nat → Prop} {A B C : World} (h : KeepAt S A B) (k : KeepAt S B C) : KeepAt S A C := fun i hi => (k i hi).trans (h i hi)
theorem KeepAt.refl (S : Nat → Prop) (A : World) : KeepAt S A A := fun _ _ => rfl
theorem KeepAt.of_touch {S T : Nat → Prop} {A B : World} (h : Touch T A B) (hs : ∀ k, S k → k < A.heap.size ∧ ¬ T k) : KeepAt S A B := fun k hk => h.block k (hs k hk).1 (hs k hk).2
theorem KeepAt.cell {S : Nat → Prop} {A B : World} (h : KeepAt S A B) {p : Addr} {v : Value} (hp : A.cell? p = some v) (hs : S p.block) : B.cell? p = some v :=
  (World.cell?_of_block (h p.block hs)).trans hp
theorem keepAt_b {S : Nat → Prop} {w : World} (hS : ∀ k, S k → k < w.heap.size) (W : World) (l : Nat) (o o' : Obj) (hl : w.heap.size ≤ l) (h : W.heap[l]? = some o) (_ : o.isCells = false) (_ : o.isWalk = false) : KeepAt S W (W.putObj l o') :=
  fun k hk => World.putObj_heap_other (by have := hS k hk; omega)

/-- The last k of n, the last one first, each with its place. -/
def bwd (y : Nat → Int) (n k : Nat) : List (Int × Int) := (List.range k).map fun j => (((n - 1 - j : Nat) : Int), y (n - 1 - j))
theorem bwd_succ (y : Nat → Int) (n k : Nat) : bwd y n (k + 1) = bwd y n k ++ [(((n - 1 - k : Nat) : Int), y (n - 1 - k))] := by simp [bwd, List.range_succ]
theorem bwd_len (y : Nat → Int) (n k : Nat) : (bwd y n k).length = k := by simp [bwd]
theorem bwd_snd (y : Nat → Int) (n k : Nat) : (bwd y n k).map (·.2) = backL y n k := by simp [bwd, backL]

set_option maxHeartbeats 2000000 in
theorem back1_in (F : Fence) (n : Nat) (h55 : F.fn 98) (hro : F.round = none) (hn : 1 ≤ n) (l Bs b off len cap : Nat) (y : Nat → Int) (a : Option Addr) (ha : 0 < len → a = some ⟨b, off, none⟩) (hlen : len ≤ 100000) (J Jx : List (Int × Int) → World → Prop)
    (hY : ∀ pre x W, J pre W → pre.length < len → YieldAt F (n - 1) Try.prog l #[.int .i64 x.1, .int .i64 x.2] W fun e W' =>
      (e = .returned (.bool true) ∧ J (pre ++ [x]) W' ∧ KeepAt (fun k => k = Bs ∨ (0 < len ∧ k = b)) W W') ∨ (e = .returned (.bool false) ∧ Jx (pre ++ [x]) W'))
    (W : World) (hBs : W.cell? ⟨Bs, 0, none⟩ = some (.slice a len cap)) (hc : ∀ j, j < len → W.cell? ⟨b, off + j, none⟩ = some (.int .i64 (y j))) (h0 : J [] W) :
    CallsIn F n Try.prog 98 #[.func (.yield l) #[] #[], .pointer (some ⟨Bs, 0, none⟩)] W fun e W' => (∃ v, e = .returned v) ∧
      ((∃ ys, ys = bwd y len len ∧ J ys W') ∨ (∃ pre, (∃ k, k ≤ len ∧ pre = bwd y len k) ∧ Jx pre W')) := by
  refine callsIn_of_wp Try.func98 rfl h55 ?_ hro
  simp only [Try.ntmps98, List.size_toArray, List.length_cons, List.length_nil, Nat.reduceAdd, Nat.reduceSub, Array.replicate_succ, Array.replicate_zero, List.push_toArray, List.append_toArray, List.nil_append, List.cons_append]
  have hpre := wrap_pred (j := len) hlen
  gi_wp2
  gi_loopw [3] (fun i wr => ∃ (j : Nat) (ii : Int), j ≤ len ∧ ii = (j : Int) - 1 ∧ i = .int .i64 ii ∧ J (bwd y len (len - j)) wr ∧ KeepAt (fun k => k = Bs ∨ (0 < len ∧ k = b)) W wr)
    (fun i _ => (intOf i + 1).toNat)
  case atStart => exact ⟨len, _, Nat.le_refl _, rfl, by first | rfl | go_num, by rw [Nat.sub_self]; exact h0, KeepAt.refl _ _⟩
  case round =>
    obtain ⟨j, ii, hj, hii, rfl, hJs, hnx⟩ := hrel
    have hbs := hnx.cell hBs (Or.inl rfl)
    clear hpre
    cases j with
    | zero =>
      have hneg : ii < 0 := by rw [hii]; decide
      have hnd : decide ((0 : Int) ≤ ii) = false := by simpa using hneg
      rw [Nat.sub_zero] at hJs
      clear hii
      gi_wp2
      go_end0
      exact ⟨⟨_, rfl⟩, .inl ⟨_, rfl, hJs⟩⟩
    | succ j =>
      obtain rfl : ii = (j : Int) := by rw [hii]; push_cast; omega
      obtain rfl := ha (by omega)
      have hcx := hnx.cell (hc j (by omega)) (Or.inr ⟨by omega, rfl⟩)
      obtain ⟨s, hs⟩ : ∃ s, y j = s := ⟨_, rfl⟩
      rw [hs] at hcx
      have hb1 : bwd y len (len - j) = bwd y len (len - (j + 1)) ++ [((j : Int), s)] := by
        rw [show len - j = (len - (j + 1)) + 1 by omega, bwd_succ, show len - 1 - (len - (j + 1)) = j by omega, hs]
      have hpre := wrap_pred (j := j) (by omega)
      obtain ⟨fn, tmps, assign, body, hy, hR⟩ := hY _ ((j : Int), s) wr hJs (by rw [bwd_len]; omega)
      dsimp only at hy
      have hltj : j < len := by omega
      have HB1 := Lib.hid hb1
      have hm : ((intOf (Value.int .i64 ((j : Int) - 1))) + 1).toNat < ((intOf (Value.int .i64 (j : Int))) + 1).toNat := by simp [intOf]
      have HM := Lib.hid hm
      clear hii hb1 hs hm
      gi_wp2
      refine hR.mono ?_
      rintro e W3 (⟨rfl, hJ3, hk3⟩ | ⟨rfl, hJx3⟩)
      · rw [← HB1.out] at hJ3
        gi_wp2
        go_roundw
        case rel => exact ⟨j, _, by omega, rfl, by first | rfl | go_num, hJ3, hnx.trans hk3⟩
        case measure => exact HM.out
      · rw [← HB1.out] at hJx3
        gi_wp2
        refine bodyPost_ret (results_none rfl _ _ _) rfl ?_
        exact ⟨⟨_, rfl⟩, .inr ⟨_, ⟨len - j, by omega, rfl⟩, hJx3⟩⟩

theorem back_in (F : Fence) (n : Nat) (h39 : F.fn 88) (hro : F.round = none) (a : Option Addr) (len cap : Nat) (w : World) :
    CallsIn F n Try.prog 88 #[.slice a len cap] w fun e w' => e = .returned (.func (.func 98) #[] #[.pointer (some ⟨w.heap.size, 0, none⟩)]) ∧ w' = w.alloc (.cells #[.slice a len cap] 43) := by
  refine callsIn_of_wp Try.func88 rfl h39 ?_ hro
  simp only [Try.ntmps88, List.size_toArray, List.length_cons, List.length_nil, Nat.reduceAdd, Nat.reduceSub, Array.replicate_succ, Array.replicate_zero, List.push_toArray, List.append_toArray, List.nil_append, List.cons_append]
  gi_wp2
  go_ret
  exact ⟨rfl, rfl⟩

theorem back_stops (F : Fence) (n : Nat) (h55 : F.fn 98) (hro : F.round = none) (hn : 1 ≤ n) (Bs b off len cap : Nat) (y : Nat → Int) (a : Option Addr) (hlen : len ≤ 100000) (w : World) (hBs : Bs < w.heap.size)
    (hcb : w.cell? ⟨Bs, 0, none⟩ = some (.slice a len cap)) (hI : Ints .i64 w a b off len y) (hb : 0 < len → b < w.heap.size) :
    SeqStopsK F n Try.prog 98 #[.pointer (some ⟨Bs, 0, none⟩)] (fun x : Int × Int => #[Value.int .i64 x.1, Value.int .i64 x.2]) (KeepAt (fun k => k = Bs ∨ (0 < len ∧ k = b))) (fun ys => ys = bwd y len len)
      (fun pre => ∃ k, k ≤ len ∧ pre = bwd y len k) len w := fun l J Jx W hW _ _ hY h0 =>
  back1_in F n h55 hro hn l Bs b off len cap y a hI.at_ hlen J Jx hY W ((hW.cell (p := ⟨Bs, 0, none⟩) hBs).trans hcb) (fun j hj => (hW.cell (p := ⟨b, off + j, none⟩) (hb (by omega))).trans (hI.cell j hj)) h0
end Go.Proofs.Ythnhacbagmhfoaa

/- fse: Encode: a loop over an iterator. -/
namespace Go.Proofs.Ythnhacbagmhfoaa
open Go.RowKit Go.WideShapes Go.Shelf Fs
set_option linter.unusedVariables false
set_option linter.unusedSimpArgs false
set_option maxRecDepth 100000
attribute [local go_sem] Oper.semAt_some

/-! ### A drawn region in a round -/
theorem rows_wide {n : Nat} {P : Program} {row : String} {args : Array Value} {w : World} {R : Value → World → Prop} (h : Go.Rows P row args w R) : Go.RowsIn Fence.wide n P row args w R :=
  fun c cs _ => let ⟨v, w', r, s⟩ := h c cs; ⟨v, w', r, stepsIn_wide.2 s⟩
theorem wpOp_round {P : Program} {ops : Array Oper} {Q : Exit → Act → World → Prop} {i l n : Nat} {K : Act → World → Prop} {a : Act} {w : World} (hd : ∀ (j : Nat) o c, ops[j]? = some o → o.op ≠ .defer c) (hQ : ¬ LetsOut Q) (h : wpOp P ops Q i K a w) :
    wpOpIn (Fence.wide.inRound l) n P ops Q i K a w := by
  unfold wpOp at h
  unfold wpOpIn
  cases ho : ops[i]? with
  | none => simpa only [ho] using h
  | some o =>
    simp only [ho] at h ⊢
    by_cases hw : Region.wanted o (yielded ops a.tmps) = true
    · rw [if_pos hw] at h ⊢
      have h1 := h.resolve_right (fun x => hQ x.2)
      refine ⟨fun _ _ => trivial, ?_⟩
      rw [Fence.inRound_round, Oper.semAt_some l _ o (fun c => hd i o c ho)]
      unfold Oper.wp at h1
      generalize (execOp a.eval o).run P w = r at h1 ⊢
      cases r with
      | ok x w' =>
        cases x <;> simp only [Oper.upon, Oper.uponIn] at h1 ⊢ <;>
          first
            | exact h1
            | exact ⟨fun hh => (by cases hh), CallsIn.inRound l (callsIn_wide.2 h1)⟩
            | exact ⟨fun hh => (by cases hh), rows_wide h1⟩
      | halt x w' => cases x <;> simp only [Oper.upon, Oper.uponIn] at h1 ⊢ <;> exact h1
    · rw [if_neg hw] at h ⊢
      exact ⟨fun _ _ => trivial, h⟩
theorem wpAny_round {P : Program} {md : Region.Mode} {ops : Array Oper} {Q : Exit → Act → World → Prop} {l n : Nat} (hd : ∀ (j : Nat) o c, ops[j]? = some o → o.op ≠ .defer c) (hQ : ¬ LetsOut Q) :
    ∀ (fuel : Nat) (listed : Array Bool) (a : Act) (w : World), wpAny P md ops Q fuel listed a w → wpAnyIn (Fence.wide.inRound l) n P md ops Q fuel listed a w
  | 0, _, _, _, h => h
  | fuel + 1, _, _, _, h => ⟨h.1, fun i hi => wpOp_round hd hQ (wpOp_mono (wpAny_round hd hQ fuel _) (h.2 i hi))⟩
theorem region_round {P : Program} {id : Nat} {ops : Array Oper} {Q : Exit → Act → World → Prop} {S : World → Prop} {a : Act} {w : World} {l n : Nat} (hm : P.follows .mixedOrders = true) (hd : ∀ (j : Nat) o c, ops[j]? = some o → o.op ≠ .defer c) (hQ : ¬ LetsOut Q) (hS : S w.drew)
    (h : S w.drew → wpAnyH P .any ops Q S ops.size (Array.replicate ops.size false) a w.drew) : (Code.region id ops true).wpIn (Fence.wide.inRound l) n P Q a w :=
  wpIn_region_any hm (wpAny_round hd hQ _ _ _ _ (wpAny_of_held _ _ _ _ (h hS)))

/-! ### What the loop keeps -/
theorem not_row {W : World} {row : Option Nat} {B : Nat} (hr : ∀ r, row = some r → B ≤ r ∧ ∃ o : Obj, W.heap[r]? = some o ∧ o.isCells = false) {k : Nat} {cur : Array Value} {e : TypeId} {fr : Nat × Nat} (h : W.heap[k]? = some (.cells cur e fr)) : ¬ row = some k := by
  intro e'
  obtain ⟨_, o, ho, hc⟩ := hr k e'
  rw [h] at ho; cases ho; cases hc
theorem row_touch {X Y : World} {row : Option Nat} (hg : X.grownBy Y row) : Touch (fun k => row = some k) X Y := (Touch.refl _ X).grown hg (fun k e _ => e)
theorem keeps_touch {T : Nat → Prop} {W W' : World} (ht : Touch T W W') (hT : ∀ k o, T k → W.heap[k]? = some o → o.isCells = true) : KeepsOthers W W' :=
  ⟨ht.size, fun k o hk ho => (ht.block k (lt_of_block hk) (fun h => by rw [hT k o h hk] at ho; cases ho)).trans hk⟩
theorem foot_cells {W : World} {t : TypeId} {b : Nat} {v : Value} {l : List Bool} (hw : Wr W t b v l) {k : Nat} {o : Obj} (h : Foot b v k) (hk : W.heap[k]? = some o) : o.isCells = true := by
  rcases h with rfl | hv
  · rw [hw.cell] at hk; cases hk; rfl
  · rcases hw.row.2 with ⟨rfl, _⟩ | ⟨g', cap, cur', rfl, _, hg, _⟩
    · cases hv
    · obtain rfl : g' = k := by simpa [Value.ownBlock] using hv
      rw [hg] at hk; cases hk; rfl
theorem foot_box {W : World} {t : TypeId} {b k : Nat} {v u : Value} {l : List Bool} {e : TypeId} (hw : Wr W t b v l) (h : Boxed W k e u) (h1 : t ≠ e) (h2 : (4 : TypeId) ≠ e) : ¬ Foot b v k := foot_not hw h h1 h2

section
variable (w : World) (P6 P7 P8 B P10 P11 P12 g N : Nat) (V12 : Value) (Sy Bi : Nat → Nat) (Ba : Nat → Int)
structure EncI (pre : List (Int × Int)) (W : World) (t : Nat) (l : List Bool) (v : Value) : Prop where
  enc : encF N Sy Bi Ba (pre.map (·.2)) = some (t, l)
  b6 : Boxed W P6 28 (.slice none 0 0)
  b7 : Boxed W P7 4 (.bool false)
  b8 : Boxed W P8 120 (.slice (some ⟨g, 0, none⟩) N N)
  b10 : Boxed W P10 64 (.pointer (some ⟨B, 0, none⟩))
  b11 : Boxed W P11 3 (.int .i64 t)
  b12 : Boxed W P12 43 V12
  wr : Wr W 104 B v l
  own : OwnB B v
  tab : TabAt W g N Sy Bi Ba
  touch : Touch (fun _ => False) w W
def EncJ (pre : List (Int × Int)) (W : World) : Prop := ∃ t l v, EncI w P6 P7 P8 B P10 P11 P12 g N V12 Sy Bi Ba pre W t l v
def EncX (c : Code) (pre : List (Int × Int)) (W : World) : Prop := c = .ret ∧ encF N Sy Bi Ba (pre.map (·.2)) = none ∧ Boxed W P6 28 (.slice none 0 0) ∧ Boxed W P7 4 (.bool false) ∧ Touch (fun _ => False) w W
theorem encI_touch {pre : List (Int × Int)} {W W' : World} {t : Nat} {l : List Bool} {v : Value} (h : EncI w P6 P7 P8 B P10 P11 P12 g N V12 Sy Bi Ba pre W t l v) (ht : Touch (fun _ => False) W W') : EncI w P6 P7 P8 B P10 P11 P12 g N V12 Sy Bi Ba pre W' t l v :=
  ⟨h.enc, ht.heap h.b6 id, ht.heap h.b7 id, ht.heap h.b8 id, ht.heap h.b10 id, ht.heap h.b11 id, ht.heap h.b12 id, h.wr.touch ht id (fun _ _ => id), h.own, RowAt.touch h.tab ht id, h.touch.trans ht⟩
theorem encJ_own {D : Nat} (hD : w.heap.size ≤ D) : OwnFrom D (EncJ w P6 P7 P8 B P10 P11 P12 g N V12 Sy Bi Ba) := by
  rintro s X Y row ⟨t, l, v, h⟩ hg hr
  have ht := row_touch hg
  refine ⟨t, l, v, h.enc, ht.heap h.b6 (not_row hr h.b6), ht.heap h.b7 (not_row hr h.b7), ht.heap h.b8 (not_row hr h.b8), ht.heap h.b10 (not_row hr h.b10), ht.heap h.b11 (not_row hr h.b11), ht.heap h.b12 (not_row hr h.b12), h.wr.touch ht (not_row hr h.wr.cell) ?_, h.own, ?_, h.touch.grown hg ?_⟩
  · intro k hk
    rcases h.wr.row.2 with ⟨rfl, _⟩ | ⟨g', cap, cur', rfl, _, hg', _⟩
    · cases hk
    · obtain rfl : g' = k := by simpa [Value.ownBlock] using hk
      exact not_row hr hg'
  · obtain ⟨cur, hc, _⟩ := h.tab
    exact RowAt.touch h.tab ht (not_row hr hc)
  · intro k e hk
    have := (hr k e).1
    omega
theorem encX_own {D : Nat} (hD : w.heap.size ≤ D) (c : Code) : OwnFrom D (EncX w P6 P7 N Sy Bi Ba c) := by
  rintro s X Y row ⟨h1, h2, b6, b7, t⟩ hg hr
  have ht := row_touch hg
  refine ⟨h1, h2, ht.heap b6 (not_row hr b6), ht.heap b7 (not_row hr b7), t.grown hg ?_⟩
  intro k e hk
  have := (hr k e).1
  omega
variable {w P6 P7 P8 B P10 P11 P12 g N V12 Sy Bi Ba}
theorem box_far {W : World} {k : Nat} {t : TypeId} {v : Value} (h : Boxed W k t v) {T : Nat → Prop} {W' : World} (ht : Touch T W W') (hk : ¬ T k) : Boxed W' k t v := ht.heap h hk
theorem touch_set (W : World) (k : Nat) (u : Value) : Touch (· = k) W (W.setCell ⟨k, 0, none⟩ u) := (Touch.refl (· = k) W).setCell (p := ⟨k, 0, none⟩) (fun _ => rfl) u
theorem encI_step {pre : List (Int × Int)} {W W3 : World} {t u : Nat} {l l3 : List Bool} {v v3 : Value} {x : Int × Int} (h : EncI w P6 P7 P8 B P10 P11 P12 g N V12 Sy Bi Ba pre W t l v) (n6 : P6 ≠ P11) (n7 : P7 ≠ P11) (n8 : P8 ≠ P11) (n10 : P10 ≠ P11) (n12 : P12 ≠ P11) (nB : B ≠ P11) (n7B : P7 < B) (hB : w.heap.size ≤ B) (h11 : w.heap.size ≤ P11)
    (t3 : Touch (Foot B v) W.drew W3) (hw3 : Wr W3 104 B v3 l3) (f3 : Fresh W.drew.heap.size v v3) (he : encF N Sy Bi Ba ((pre ++ [x]).map (·.2)) = some (u, l3)) :
    EncI w P6 P7 P8 B P10 P11 P12 g N V12 Sy Bi Ba (pre ++ [x]) (W3.setCell ⟨P11, 0, none⟩ (.int .i64 u)) u l3 v3 := by
  have hwd := h.wr.drew
  have b11 : Boxed W3 P11 3 (.int .i64 t) := box_far (W := W.drew) h.b11 t3 (foot_box hwd h.b11 (by decide) (by decide))
  have hf7 : ¬ Foot B v P7 := by
    rintro (h' | h')
    · omega
    · have := h.own _ h'; omega
  have hf11 : ¬ Foot B v3 P11 := foot_box hw3 b11 (by decide) (by decide)
  refine ⟨he, (box_far (W := W.drew) h.b6 t3 (foot_box hwd h.b6 (by decide) (by decide))).other n6 _, (box_far (W := W.drew) h.b7 t3 hf7).other n7 _, (box_far (W := W.drew) h.b8 t3 (foot_box hwd h.b8 (by decide) (by decide))).other n8 _,
    (box_far (W := W.drew) h.b10 t3 (foot_box hwd h.b10 (by decide) (by decide))).other n10 _, b11.set _, (box_far (W := W.drew) h.b12 t3 (foot_box hwd h.b12 (by decide) (by decide))).other n12 _,
    hw3.touch (touch_set _ _ _) nB (fun k hk e => hf11 (Or.inr (by rw [hk, e]))), h.own.fresh f3 (Nat.le_of_lt (lt_of_block h.wr.cell)), ?_, (foot_owns h.touch.drew hB (h.own.mono hB) t3).setCell (fun h => absurd h (Nat.not_lt.2 h11)) _⟩
  · have h1 : TabAt W3 g N Sy Bi Ba := RowAt.touch (RowAt.drewI h.tab) t3 (foot_tab hwd (RowAt.drewI h.tab) (by decide))
    refine RowAt.touch h1 (touch_set _ _ _) ?_
    rintro rfl
    obtain ⟨cur, hc, _⟩ := h1
    rw [show W3.heap[g]? = _ from b11] at hc
    simp at hc
theorem encI_keeps {pre : List (Int × Int)} {W W2 W3 : World} {t u b2 ns D : Nat} {l : List Bool} {v : Value} (h : EncI w P6 P7 P8 B P10 P11 P12 g N V12 Sy Bi Ba pre W t l v) (n12 : P12 ≠ P11) (hB : w.heap.size ≤ B) (h11 : w.heap.size ≤ P11) (hb2 : 0 < ns → b2 < w.heap.size)
    (t2 : Touch (fun _ => False) W W2) (t3 : Touch (Foot B v) W2.drew W3) :
    KeepsFrom D W (W3.setCell ⟨P11, 0, none⟩ (.int .i64 u)) ∧ KeepAt (fun k => k = P12 ∨ (0 < ns ∧ k = b2)) W (W3.setCell ⟨P11, 0, none⟩ (.int .i64 u)) := by
  have ht : Touch (fun k => Foot B v k ∨ k = P11) W (W3.setCell ⟨P11, 0, none⟩ (.int .i64 u)) :=
    ((t2.drew.none).trans (t3.mono fun k _ h => Or.inl h)).trans ((touch_set _ _ _).mono fun k _ h => Or.inr h)
  refine ⟨(keeps_touch ht ?_).from _, KeepAt.of_touch ht ?_⟩
  · rintro k o (hk | rfl) ho
    · exact foot_cells h.wr hk ho
    · rw [show W.heap[k]? = _ from h.b11] at ho; cases ho; rfl
  · rintro k (rfl | ⟨hn, rfl⟩)
    · refine ⟨h.b12.lt, ?_⟩
      rintro (h' | h')
      · exact foot_box h.wr h.b12 (by decide) (by decide) h'
      · exact n12 h'
    · have := hb2 hn
      refine ⟨Nat.lt_of_lt_of_le this h.touch.size, ?_⟩
      rintro ((h' | h') | h')
      · omega
      · have := h.own _ h'; omega
      · omega
theorem enc_fin {pre : List (Int × Int)} {W W3 W4 : World} {t D : Nat} {l : List Bool} {v : Value} {cur : Array Value} (h : EncI w P6 P7 P8 B P10 P11 P12 g N V12 Sy Bi Ba pre W t l v) (hB : w.heap.size ≤ B) (h6 : w.heap.size ≤ P6) (h7 : w.heap.size ≤ P7) (h67 : P6 ≠ P7) (n7B : P7 < B) (hD : w.heap.size ≤ D) (hK : W.heap[D]? = some (.deferred (some [])))
    (t3 : Touch (Foot B v) W W3) (t4 : Touch (fun _ => False) W3 W4) (hh4 : W4.heap[W3.heap.size]? = some (.cells cur 5 (0, 0))) (s : Value) :
    (W4.cell? ⟨P6, 0, none⟩ = some (.slice none 0 0) ∧ W4.frozen? ⟨P6, 0, none⟩ = false ∧ W4.cell? ⟨P7, 0, none⟩ = some (.bool false) ∧ W4.frozen? ⟨P7, 0, none⟩ = false) ∧
    ((W4.setCell ⟨P6, 0, none⟩ s).setCell ⟨P7, 0, none⟩ (.bool true)).heap[D]? = some (.deferred (some [])) ∧
    (((W4.setCell ⟨P6, 0, none⟩ s).setCell ⟨P7, 0, none⟩ (.bool true)).putObj D (.deferred none)).cell? ⟨P6, 0, none⟩ = some s ∧
    (((W4.setCell ⟨P6, 0, none⟩ s).setCell ⟨P7, 0, none⟩ (.bool true)).putObj D (.deferred none)).cell? ⟨P7, 0, none⟩ = some (.bool true) ∧
    Touch (fun _ => False) w (((W4.setCell ⟨P6, 0, none⟩ s).setCell ⟨P7, 0, none⟩ (.bool true)).putObj D (.deferred none)) ∧
    (((W4.setCell ⟨P6, 0, none⟩ s).setCell ⟨P7, 0, none⟩ (.bool true)).putObj D (.deferred none)).heap[W3.heap.size]? = some (.cells cur 5 (0, 0)) := by
  have hf6 : ¬ Foot B v P6 := foot_box h.wr h.b6 (by decide) (by decide)
  have hf7 : ¬ Foot B v P7 := by
    rintro (h' | h')
    · omega
    · have := h.own _ h'; omega
  have hfD : ¬ Foot B v D := fun h' => by have := foot_cells h.wr h' hK; cases this
  have b6 := box_far (box_far h.b6 t3 hf6) t4 id
  have b7 := box_far (box_far h.b7 t3 hf7) t4 id
  have hK4 := t4.heap (t3.heap hK hfD) id
  have l6 : P6 < W3.heap.size := (box_far h.b6 t3 hf6).lt
  have l7 : P7 < W3.heap.size := (box_far h.b7 t3 hf7).lt
  have lD : D < W3.heap.size := lt_of_block (t3.heap hK hfD)
  have d6 : D ≠ P6 := fun e => by rw [e, show W4.heap[P6]? = _ from b6] at hK4; cases hK4
  have d7 : D ≠ P7 := fun e => by rw [e, show W4.heap[P7]? = _ from b7] at hK4; cases hK4
  have hK5 := (touch_set (W4.setCell ⟨P6, 0, none⟩ s) P7 (.bool true)).heap ((touch_set W4 P6 s).heap hK4 d6) d7
  have hg5 := (touch_set (W4.setCell ⟨P6, 0, none⟩ s) P7 (.bool true)).heap ((touch_set W4 P6 s).heap hh4 (by omega)) (by omega)
  have B6 := (b6.set s).other h67 (.bool true)
  have B7 := (b7.other (Ne.symm h67) s).set (.bool true)
  have hp := grownBy_putObj' ((W4.setCell ⟨P6, 0, none⟩ s).setCell ⟨P7, 0, none⟩ (.bool true)) D (.deferred none)
  refine ⟨⟨b6.cell, b6.frozen, b7.cell, b7.frozen⟩, hK5, cell_kept B6.cell hp (fun r e => by cases e; exact ⟨_, hK5, rfl⟩), cell_kept B7.cell hp (fun r e => by cases e; exact ⟨_, hK5, rfl⟩), ?_, ?_⟩
  · refine Touch.grown (((((foot_owns h.touch hB (h.own.mono hB) t3).trans t4).setCell (p := ⟨P6, 0, none⟩) (fun h => absurd h (Nat.not_lt.2 h6)) _).setCell (p := ⟨P7, 0, none⟩) (fun h => absurd h (Nat.not_lt.2 h7)) _)) hp ?_
    intro k e hk
    cases e; omega
  · exact (hp.block _ (lt_of_block hg5) (fun e => by cases e; omega)).trans hg5
end
end Go.Proofs.Ythnhacbagmhfoaa

/- fse: Encode. -/
namespace Go.Proofs.Ythnhacbagmhfoaa
open Go.RowKit Go.WideShapes Go.Shelf Fs
set_option linter.unusedVariables false
set_option linter.unusedSimpArgs false
set_option maxRecDepth 100000
attribute [local go_sem] Oper.semAt_some

theorem wide_in {F : Fence} {n : Nat} {P : Program} {f : FuncId} {args : Array Value} {w : World} {R : Ending → World → Prop} (hF : F = Fence.wide) (h : Calls P f args w R) : CallsIn F n P f args w R := by
  subst hF; exact callsIn_wide.2 h
theorem results_two {fn : Func} {s a : Tmp} {t t' : TypeId} (h : fn.results = #[.cell s t', .cell a t]) (tmps : Array Value) (P : Program) (w : World) (p q : Addr) (u v : Value) (hp : tmps.getD a undef = .pointer (some p)) (hq : tmps.getD s undef = .pointer (some q)) (hl : (loadVar t p).run P w = .ok v w) (hl' : (loadVar t' q).run P w = .ok u w) :
    (results fn tmps).run P w = .ok (.tuple #[u, v]) w := by
  have hp' : tmps[a]?.getD undef = .pointer (some p) := by simpa using hp
  have hq' : tmps[s]?.getD undef = .pointer (some q) := by simpa using hq
  simp [results, h, hp', hq', asAddr, hl, hl']
theorem load4 {w : World} {g : Nat} {x : Value} (h : w.cell? ⟨g, 0, none⟩ = some x) : (loadVar 4 ⟨g, 0, none⟩).run Try.prog w = .ok x w := by
  have z4 := Try.sizeOf4
  have a4 := Try.isAgg4
  have u4 := Try.underlying4
  go_simp
theorem load37 {w : World} {g : Nat} {x : Value} (h : w.cell? ⟨g, 0, none⟩ = some x) : (loadVar 28 ⟨g, 0, none⟩).run Try.prog w = .ok x w := by
  have z4 := Try.sizeOf28
  have a4 := Try.isAgg28
  have u4 := Try.underlying28
  go_simp

theorem enc_no (a a2 : Option Addr) (b off n c ns cs : Nat) (z : Nat → Int) (log : Int) (w : World) (h : Ints .i64 w a b off n z) (hn : n ≤ 100000) (hno : isOk z n log = false) :
    Calls Try.prog 65 #[.slice a n c, .int .i64 log, .slice a2 ns cs] w fun e w' => e = .returned (.tuple #[.slice none 0 0, .bool false]) ∧ Touch (fun _ => False) w w' := by
  have T0 := Lib.hid ((Touch.new w (.cells #[.slice none 0 0] 28)).alloc (.cells #[.bool false] 4))
  have H := Lib.hid (h.touch T0.out)
  have HN := Lib.hid hno
  have b6 := Lib.hid ((Boxed.new w 28 (.slice none 0 0)).alloc (.cells #[.bool false] 4))
  have b7 := Boxed.new (w.alloc (.cells #[.slice none 0 0] 28)) 4 (.bool false)
  rw [World.size_alloc] at b7
  have b7 := Lib.hid b7
  clear h hno
  go_enter Try.func65, Try.ntmps65
  go_wp2_with fail
  refine (table_no a b off n c z log _ H.out hn HN.out).mono ?_
  rintro e w1 ⟨rfl, t1⟩
  have T1 := Lib.hid (T0.out.trans t1)
  have c6 := ((box_far b6.out t1 id).alloc (.cells #[.slice none 0 0] 120)).cell
  have f6 := ((box_far b6.out t1 id).alloc (.cells #[.slice none 0 0] 120)).frozen
  have c7 := ((box_far b7.out t1 id).alloc (.cells #[.slice none 0 0] 120)).cell
  have f7 := ((box_far b7.out t1 id).alloc (.cells #[.slice none 0 0] 120)).frozen
  have C6 := Lib.hid ((((box_far b6.out t1 id).alloc (.cells #[.slice none 0 0] 120)).set (.slice none 0 0)).other (B' := w.heap.size + 1) (by omega) (.bool false))
  have C7 := Lib.hid ((((box_far b7.out t1 id).alloc (.cells #[.slice none 0 0] 120)).other (B' := w.heap.size) (by omega) (.slice none 0 0)).set (.bool false))
  clear t1
  go_wp2_with fail
  refine bodyPost_ret (results_two rfl _ _ _ _ _ _ _ rfl rfl (load4 C7.out.cell) (load37 C6.out.cell)) rfl ?_
  exact ⟨rfl, ((T1.out.alloc _).setCell (fun h => absurd h (Nat.lt_irrefl _)) _).setCell (fun h => absurd h (by simp)) _⟩

def noDefer (ops : Array Oper) : Bool := ops.all fun o => match o.op with | .defer _ => false | _ => true
theorem noDefer_spec {ops : Array Oper} (h : noDefer ops = true) (j : Nat) (o : Oper) (c : Call) (hj : ops[j]? = some o) : o.op ≠ .defer c := by
  intro e
  have h1 := Array.all_eq_true.1 h
  obtain ⟨hlt, rfl⟩ := Array.getElem?_eq_some_iff.1 hj
  have := h1 j hlt
  rw [e] at this
  cases this

/-- A loop over pairs the second of which is boxed. -/
theorem range_two {F : Fence} {n : Nat} {P : Program} {g : Operand} {assign body : Code} {Q : Exit → Act → World → Prop} {tm : Array Value} {ds : List Deferred} {w : World} (hro : F.round = none) (h1 : 1 ≤ n) {gf : Nat} {lb : Array Value} (hg : ({ tmps := tm, defers := ds } : Act).eval g = .func (.func gf) #[] lb) (hFg : F.fn gf) (eg : ∀ args w, (callFunc gf args).run P w = .ok (.enter gf args) w)
    {Kp : World → World → Prop} {S Sp : List (Int × Int) → Prop} {N : Nat} {w0 : World} (hseq : SeqStopsK F (n - 1) P gf lb (fun x : Int × Int => #[Value.int .i64 x.1, Value.int .i64 x.2]) Kp S Sp N w0)
    (hKt : ∀ {A B C : World}, Kp A B → Kp B C → Kp A C) (hKb : ∀ (W : World) (l : Nat) (o o' : Obj), w.heap.size ≤ l → W.heap[l]? = some o → o.isCells = false → o.isWalk = false → Kp W (W.putObj l o')) (hb0 : Below w0.heap.size w0 w)
    (I : List (Int × Int) → World → Prop) (Ix : Code → List (Int × Int) → World → Prop) (hI : OwnFrom w.heap.size I) (hIx : ∀ c, OwnFrom w.heap.size (Ix c)) (h0 : I [] w)
    (hassign : ∀ (l : Nat) (pre : List (Int × Int)) (x : Int × Int) (W : World) (K : Act → World → Prop), I pre W → (∀ Bx W', KeepsFrom w.heap.size W W' → Kp W W' → I pre W' → Boxed W' Bx 3 (.int .i64 x.2) → K { tmps := ((tm.setIfInBounds 26 (.int .i64 x.1)).setIfInBounds 27 (.int .i64 x.2)).setIfInBounds 13 (.pointer (some ⟨Bx, 0, none⟩)), defers := [] } W') →
      assign.wpIn (F.inRound l) (n - 1 - 1) P (Exit.then K (fun _ _ _ => False)) { tmps := (Array.zip #[26, 27] #[Value.int .i64 x.1, Value.int .i64 x.2]).foldl (fun t (p, v) => t.setIfInBounds p v) tm, defers := [] } W)
    (hbody : ∀ (l : Nat) (pre : List (Int × Int)) (x : Int × Int) (Bx : Nat) (W : World), I pre W → Boxed W Bx 3 (.int .i64 x.2) → pre.length < N → body.wpIn (F.inRound l) (n - 1 - 1) P (ownPostG w.heap.size Kp I Ix (pre ++ [x]) W) { tmps := ((tm.setIfInBounds 26 (.int .i64 x.1)).setIfInBounds 27 (.int .i64 x.2)).setIfInBounds 13 (.pointer (some ⟨Bx, 0, none⟩)), defers := [] } W)
    (hdone : ∀ (D : Nat) (xs : List (Int × Int)) (W : World), w.heap.size ≤ D → S xs → I xs W → W.heap[D]? = some (.deferred (some [])) → Q .normal { tmps := tm, defers := { target := .collected D, args := #[] } :: ds } W)
    (hstop : ∀ (D : Nat) (c : Code) (pre : List (Int × Int)) (W : World), w.heap.size ≤ D → Sp pre → Ix c pre W → W.heap[D]? = some (.deferred (some [])) → c.wpIn F n P Q { tmps := tm, defers := { target := .collected D, args := #[] } :: ds } W) :
    (Code.rangeFunc g #[26, 27] assign body).wpIn F n P Q { tmps := tm, defers := ds } w :=
  wpIn_rangeFunc_ownH hro h1 hg hFg eg hseq hKt hKb hb0 (fun _ => rfl) I Ix hI hIx h0
    (fun x a' W => ∃ Bx, Boxed W Bx 3 (.int .i64 x.2) ∧ a' = { tmps := ((tm.setIfInBounds 26 (.int .i64 x.1)).setIfInBounds 27 (.int .i64 x.2)).setIfInBounds 13 (.pointer (some ⟨Bx, 0, none⟩)), defers := [] })
    (fun x a' _ X Y row hs hg hr => by obtain ⟨Bx, e2, e3⟩ := hs; exact ⟨Bx, boxed_own Bx 3 (fun (_ : Unit) => Value.int .i64 x.2) () X Y row e2 hg (fun r e => (hr r e).2), e3⟩)
    (fun l pre x W K hi hK => hassign l pre x W K hi (fun Bx W' a b c d => hK _ W' a b c ⟨Bx, d, rfl⟩))
    (fun l pre x a' W _ _ hi ⟨Bx, hb, e⟩ hlen => by subst e; exact hbody l pre x Bx W hi hb hlen) hdone hstop

set_option maxHeartbeats 4000000 in
theorem enc_in (F : Fence) (hF : F = Fence.wide) (q : Nat) (hq : 6 ≤ q) (h21 : F.fn 87) (h24 : F.fn 65) (h38 : F.fn 40) (h39 : F.fn 88) (h40 : F.fn 89) (h42 : F.fn 43) (h43 : F.fn 45) (h55 : F.fn 98) (hro : F.round = none)
    (a a2 : Option Addr) (b off n c L b2 off2 ns cs : Nat) (z y : Nat → Int) (w : World) (h : Ints .i64 w a b off n z) (hy : Ints .i64 w a2 b2 off2 ns y) (hb2 : 0 < ns → b2 < w.heap.size) (hns : ns ≤ 40000) (hok : isOk z n (L : Int) = true) :
    CallsIn F q Try.prog 65 #[.slice a n c, .int .i64 L, .slice a2 ns cs] w (EncPost w L (encF (2 ^ L) (symU (natM z) n L) (fun u => bitsU L (xU (natM z) (symU (natM z) n L) u)) (fun u => baseU L (xU (natM z) (symU (natM z) n L) u)) (backL y ns ns))) := by
  obtain ⟨h5, h9, hn32, hn0, hzm, hsum⟩ := isOk_nat hok
  have htb := fun w h => table_yes a b off n c L z w h hok
  have T := tabOk_is h5 h9 (natM z) hsum hn32
  obtain ⟨Ba, hBa⟩ : ∃ f, (fun u => baseU L (xU (natM z) (symU (natM z) n L) u)) = f := ⟨_, rfl⟩
  obtain ⟨Bi, hBi⟩ : ∃ f, (fun u => bitsU L (xU (natM z) (symU (natM z) n L) u)) = f := ⟨_, rfl⟩
  obtain ⟨Sy, hSy⟩ : ∃ f, symU (natM z) n L = f := ⟨_, rfl⟩
  rw [hBa, hBi, hSy] at htb T ⊢
  have hN0 : 0 < 2 ^ L := Nat.two_pow_pos L
  obtain ⟨N, hN⟩ : ∃ N : Nat, 2 ^ L = N := ⟨_, rfl⟩
  rw [hN] at htb T hN0 ⊢
  have hN512 := T.size
  obtain ⟨R, hR⟩ : ∃ R, encF N Sy Bi Ba (backL y ns ns) = R := ⟨_, rfl⟩
  rw [hR]
  have HR := Lib.hid hR
  have HT := Lib.hid T
  have HTB := Lib.hid htb
  have T0 := Lib.hid ((Touch.new w (.cells #[.slice none 0 0] 28)).alloc (.cells #[.bool false] 4))
  have H := Lib.hid (h.touch T0.out)
  have HY := Lib.hid hy
  have b6 := Lib.hid ((Boxed.new w 28 (.slice none 0 0)).alloc (.cells #[.bool false] 4))
  have b7 := Boxed.new (w.alloc (.cells #[.slice none 0 0] 28)) 4 (.bool false)
  rw [World.size_alloc] at b7
  have b7 := Lib.hid b7
  have h1 : 1 ≤ q := by omega
  have HF := Lib.hid hF
  clear hBa hBi hSy hN hR T htb h hy hok hzm hsum hF
  refine callsIn_of_wp_marks Try.func65 rfl h24 ?_ hro
  simp only [Try.ntmps65, List.size_toArray, List.length_cons, List.length_nil, Nat.reduceAdd, Nat.reduceSub, Array.replicate_succ, Array.replicate_zero, List.push_toArray, List.append_toArray, List.nil_append, List.cons_append]
  gi_wp2_with (gi_at_call 87; refine (wide_in HF.out (HTB.out _ H.out)).mono ?_; rintro e w1 ⟨g, rfl, hg, htab, t1⟩)
  have B6 := box_far b6.out t1 id
  have B7 := box_far b7.out t1 id
  have B8 := Boxed.new w1 120 (.slice (some ⟨g, 0, none⟩) N N)
  have hs1 : w.heap.size + 2 ≤ w1.heap.size := by have := t1.size; simp at this; omega
  have T1 := (T0.out.trans t1).alloc (.cells #[.slice (some ⟨g, 0, none⟩) N N] 120)
  have HTab := RowAt.touch htab (Touch.new w1 (.cells #[.slice (some ⟨g, 0, none⟩) N N] 120)) id
  clear htab t1
  refine (wide_in HF.out (wnew_walk _)).mono ?_
  rintro e w2 ⟨rfl, hw2, t2, s2⟩
  have hs1' : (w1.alloc (.cells #[.slice (some ⟨g, 0, none⟩) N N] 120)).heap.size = w1.heap.size + 1 := by simp
  rw [hs1'] at hw2 s2 ⊢
  have HB := Lib.hid (show Boxed w2 w.heap.size 28 (.slice none 0 0) ∧ Boxed w2 (w.heap.size + 1) 4 (.bool false) ∧ Boxed w2 w1.heap.size 120 (.slice (some ⟨g, 0, none⟩) N N) ∧ TabAt w2 g N Sy Bi Ba ∧ Wr w2 104 (w1.heap.size + 1) (.slice none 0 0) [] ∧ Touch (fun _ => False) w w2 from
    ⟨box_far (B6.alloc _) t2 id, box_far (B7.alloc _) t2 id, box_far B8 t2 id, RowAt.touch HTab t2 id, hw2, T1.trans t2⟩)
  have S2 := Lib.hid s2
  clear B6 B7 B8 T1 HTab hw2 t2 s2
  gi_wp2_with (gi_at_call 88; refine (back_in F (q - 1) h39 hro _ _ _ _).mono ?_; rintro e w' ⟨rfl, rfl⟩)
  have hsz : (((w2.alloc (.cells #[.pointer (some ⟨w1.heap.size + 1, 0, none⟩)] 64)).alloc (.cells #[.int .i64 0] 3)).alloc (.cells #[.slice a2 ns cs] 43)).heap.size = w2.heap.size + 3 := by simp
  have b10 := ((Boxed.new w2 64 (.pointer (some ⟨w1.heap.size + 1, 0, none⟩))).alloc (.cells #[.int .i64 0] 3)).alloc (.cells #[.slice a2 ns cs] 43)
  have b11 := (Boxed.new (w2.alloc (.cells #[.pointer (some ⟨w1.heap.size + 1, 0, none⟩)] 64)) 3 (.int .i64 0)).alloc (.cells #[.slice a2 ns cs] 43)
  have b12 := Boxed.new ((w2.alloc (.cells #[.pointer (some ⟨w1.heap.size + 1, 0, none⟩)] 64)).alloc (.cells #[.int .i64 0] 3)) 43 (.slice a2 ns cs)
  have t3 := ((Touch.new w2 (.cells #[.pointer (some ⟨w1.heap.size + 1, 0, none⟩)] 64)).alloc (.cells #[.int .i64 0] 3)).alloc (.cells #[.slice a2 ns cs] 43)
  simp only [World.size_alloc] at b11 b12
  obtain ⟨W0, hW0⟩ : ∃ W0, ((w2.alloc (.cells #[.pointer (some ⟨w1.heap.size + 1, 0, none⟩)] 64)).alloc (.cells #[.int .i64 0] 3)).alloc (.cells #[.slice a2 ns cs] 43) = W0 := ⟨_, rfl⟩
  rw [hW0] at hsz b10 b11 b12 t3 ⊢
  try simp only [World.size_alloc]
  obtain ⟨c1, c2, c3, c4, c5, c6⟩ := HB.out
  have HE0 := Lib.hid (show EncI w w.heap.size (w.heap.size + 1) w1.heap.size (w1.heap.size + 1) w2.heap.size (w2.heap.size + 1) (w2.heap.size + 1 + 1) g N (.slice a2 ns cs) Sy Bi Ba [] W0 0 [] (.slice none 0 0) from
    ⟨rfl, box_far c1 t3 id, box_far c2 t3 id, box_far c3 t3 id, b10, b11, b12, c5.touch t3 id (fun _ _ => id), OwnB.nil _, RowAt.touch c4 t3 id, c6.trans t3⟩)
  clear c1 c2 c3 c4 c5 c6 b10 b11 b12 t3 hW0 HB
  obtain ⟨P6, hP6⟩ : ∃ k, w.heap.size = k := ⟨_, rfl⟩
  obtain ⟨P7, hP7⟩ : ∃ k, w.heap.size + 1 = k := ⟨_, rfl⟩
  obtain ⟨P8, hP8⟩ : ∃ k, w1.heap.size = k := ⟨_, rfl⟩
  obtain ⟨B, hBB⟩ : ∃ k, w1.heap.size + 1 = k := ⟨_, rfl⟩
  obtain ⟨P10, hP10⟩ : ∃ k, w2.heap.size = k := ⟨_, rfl⟩
  obtain ⟨P11, hP11⟩ : ∃ k, w2.heap.size + 1 = k := ⟨_, rfl⟩
  obtain ⟨P12, hP12⟩ : ∃ k, w2.heap.size + 1 + 1 = k := ⟨_, rfl⟩
  have hord : Hid (w.heap.size = P6 ∧ P6 < P7 ∧ P7 < P8 ∧ P8 < B ∧ B < P10 ∧ P10 < P11 ∧ P11 < P12 ∧ P12 + 1 = W0.heap.size) := by refine Lib.hid ?_; have := S2.out; omega
  rw [hP12, hP11, hP10, hBB, hP8, hP7, hP6] at HE0
  rw [hP12, hP11, hP10, hBB, hP8, hP7, hP6]
  have o6 : w.heap.size ≤ P6 := by omega
  have oB : w.heap.size ≤ B := by have := hord.out; omega
  have o11 : w.heap.size ≤ P11 := by have := hord.out; omega
  have oW : w.heap.size ≤ W0.heap.size := by have := hord.out; omega
  have HO := Lib.hid (show w.heap.size ≤ P6 ∧ w.heap.size ≤ B ∧ w.heap.size ≤ P11 ∧ w.heap.size ≤ W0.heap.size from ⟨o6, oB, o11, oW⟩)
  clear o6 oB o11 oW hP6 hP7 hP8 hBB hP10 hP11 hP12 hsz hs1 hs1' S2
  refine range_two hro h1 (gf := 98) (lb := #[.pointer (some ⟨P12, 0, none⟩)]) rfl h55 (enters_of Try.func98 (by kernel_rfl) rfl)
    (back_stops F (q - 1) h55 hro (by omega) P12 b2 off2 ns cs y a2 (by omega) W0 HE0.out.b12.lt HE0.out.b12.cell (HY.out.touch HE0.out.touch) (fun h => Nat.lt_of_lt_of_le (hb2 h) HO.out.2.2.2))
    (fun h k => h.trans k) (keepAt_b (fun k hk => hk.elim (fun e => by rw [e]; exact HE0.out.b12.lt) (fun e => by rw [e.2]; exact Nat.lt_of_lt_of_le (hb2 e.1) HO.out.2.2.2))) (Below.refl _ _)
    (EncJ w P6 P7 P8 B P10 P11 P12 g N (.slice a2 ns cs) Sy Bi Ba) (EncX w P6 P7 N Sy Bi Ba) (encJ_own _ _ _ _ _ _ _ _ _ _ _ _ _ _ HO.out.2.2.2) (encX_own _ _ _ _ _ _ _ HO.out.2.2.2) ⟨0, [], _, HE0.out⟩ ?assign ?body ?done ?stop
  case assign =>
    rintro lr pre x W K ⟨t, l, v, hE⟩ hK
    have hk := hK W.heap.size (W.alloc (.cells #[.int .i64 x.2] 3)) ((KeepsOthers.alloc _ _).from _) (KeepAt.of_touch (Touch.new W _) (fun k hk => ⟨hk.elim (fun e => by rw [e]; exact hE.b12.lt) (fun e => by rw [e.2]; exact Nat.lt_of_lt_of_le (hb2 e.1) hE.touch.size), id⟩)) ⟨t, l, v, encI_touch _ _ _ _ _ _ _ _ _ _ _ _ _ _ hE (Touch.new W _)⟩ (Boxed.new W 3 _)
    simp only [List.setIfInBounds_toArray, List.set_cons_zero, List.set_cons_succ] at hk
    have HK := Lib.hid hk
    clear hk hK hE
    gi_wp2
    exact HK.out
  case body =>
    rintro lr pre x Bx W ⟨t, l, v, hE⟩ bX hlen
    simp only [List.setIfInBounds_toArray, List.set_cons_zero, List.set_cons_succ]
    have h1' : 1 ≤ q - 1 - 1 := by omega
    obtain ⟨s, hs⟩ : ∃ s, x.2 = s := ⟨_, rfl⟩
    have hap : (pre ++ [x]).map (·.2) = pre.map (·.2) ++ [s] := by simp [hs]
    have hst : encF N Sy Bi Ba ((pre ++ [x]).map (·.2)) = encS N Sy Bi Ba (some (t, l)) s := by rw [hap, encF_snoc, hE.enc]
    rw [hs] at bX
    rw [hs]
    have HS := Lib.hid hst
    have c8 := hE.b8.cell
    have hlen9 := (encF_bd HT.out _ _ rfl hE.enc hN0).2
    rw [List.length_map] at hlen9
    have hl900 : l.length ≤ 900000 := by omega
    have HE := Lib.hid hE
    have HL := Lib.hid hl900
    clear hs hap hst hE hlen9 hl900
    cases hf : firstU (hit Sy Bi Ba s t) N with
    | none =>
      have hfi := firstI_none hf
      have he := HS.out
      rw [encS_no _ _ _ _ hf] at he
      have HEN := Lib.hid he
      clear hf he
      gi_wp2_with fail
      refine (CallsIn.inRound lr (wide_in HF.out (index41 g N N Sy Bi Ba s t Bx P11 W HT.out HE.out.tab bX.cell HE.out.b11.cell))).mono ?_
      rintro e w2 ⟨rfl, t2⟩
      rw [hfi]
      have B6 := box_far HE.out.b6 t2 id
      have B7 := box_far HE.out.b7 t2 id
      have f6 := B6.frozen
      have k6 := B6.cell
      have B7' := B7.other (B' := P6) (by have := hord.out; omega) (.slice none 0 0)
      have f7 := B7'.frozen
      have k7 := B7'.cell
      have E6 := Lib.hid ((B6.set (.slice none 0 0)).other (B' := P7) (by have := hord.out; omega) (.bool false))
      have E7 := Lib.hid ((B7.other (B' := P6) (by have := hord.out; omega) (.slice none 0 0)).set (.bool false))
      have T2 := Lib.hid t2
      clear B6 B7 B7' t2
      gi_wp2_with fail
      exact ⟨(((keeps_touch T2.out (fun k o h => h.elim)).trans (KeepsOthers.setCell _ ⟨P6, 0, none⟩ _)).trans (KeepsOthers.setCell _ ⟨P7, 0, none⟩ _)).from _, rfl, HEN.out, E6.out, E7.out,
        ((HE.out.touch.trans T2.out).setCell (p := ⟨P6, 0, none⟩) (fun h => absurd h (Nat.not_lt.2 HO.out.1)) _).setCell (p := ⟨P7, 0, none⟩) (fun h => absurd h (by have := HO.out.1; have := hord.out; simp; omega)) _⟩
    | some u =>
      have hfi := firstI_some hf
      have he := HS.out
      rw [encS_yes _ _ _ _ hf] at he
      obtain ⟨xx, hx, hx2, hb9, hu, _⟩ := hit_put HT.out hf
      have hxl : xx ≤ 512 := Nat.le_trans (Nat.le_of_lt hx2) (pow_small hb9)
      have hpx : putL (xx : Int) (Bi u : Int) l = l ++ Go.Proofs.Ythnhacbagmhfoaa.digits xx (Bi u) := putL_nat _ hx2 (by omega)
      rw [hx, hpx] at he
      obtain ⟨qq, hq'⟩ : ∃ q, Ba u = q := ⟨_, rfl⟩
      obtain ⟨bb, hbb⟩ : ∃ q, Bi u = q := ⟨_, rfl⟩
      rw [hq'] at hx
      rw [hbb] at he hpx
      have fx := sub_nat_wrap hx hxl
      have fxi := sub_nat_wrapi hx hxl
      have hcells : ∀ w2, Touch (fun _ => False) W w2 → w2.cell? ⟨P10, 0, none⟩ = some (.pointer (some ⟨B, 0, none⟩)) ∧ w2.cell? ⟨P11, 0, none⟩ = some (.int .i64 t) ∧ w2.cell? ⟨P8, 0, none⟩ = some (.slice (some ⟨g, 0, none⟩) N N) ∧ w2.cell? ⟨g, u * 3 + 2, none⟩ = some (.int .i64 qq) ∧ w2.cell? ⟨g, u * 3 + 1, none⟩ = some (.int .i64 bb) := fun w2 t2 => by
        obtain ⟨k1, k2, k3⟩ := TabAt.get (RowAt.touch HE.out.tab t2 id) hu
        rw [hbb] at k2
        rw [hq'] at k3
        exact ⟨(box_far HE.out.b10 t2 id).cell, (box_far HE.out.b11 t2 id).cell, (box_far HE.out.b8 t2 id).cell, k3, k2⟩
      have HCC := Lib.hid hcells
      have HEN := Lib.hid he
      have HPX := Lib.hid hpx
      clear hf he hpx hx hx2 hq' hbb hxl hb9 hcells
      gi_wp2_with fail
      refine (CallsIn.inRound lr (wide_in HF.out (index41 g N N Sy Bi Ba s t Bx P11 W HT.out HE.out.tab bX.cell HE.out.b11.cell))).mono ?_
      rintro e w2 ⟨rfl, t2⟩
      rw [hfi]
      have T2 := Lib.hid t2
      have HE2 := Lib.hid (encI_touch _ _ _ _ _ _ _ _ _ _ _ _ _ _ HE.out t2)
      have hc2 := HCC.out _ t2.drew
      clear t2 c8 hfi
      gi_wp2_with fail
      have hF' := HF.out
      subst hF'
      refine region_round (S := fun wx => wx.cell? ⟨P10, 0, none⟩ = some (.pointer (some ⟨B, 0, none⟩)) ∧ wx.cell? ⟨P11, 0, none⟩ = some (.int .i64 t) ∧ wx.cell? ⟨P8, 0, none⟩ = some (.slice (some ⟨g, 0, none⟩) N N) ∧ wx.cell? ⟨g, u * 3 + 2, none⟩ = some (.int .i64 qq) ∧ wx.cell? ⟨g, u * 3 + 1, none⟩ = some (.int .i64 bb)) (by kernel_rfl) (noDefer_spec (by kernel_rfl)) (by rintro ⟨a, w, h⟩; exact h) hc2 (fun hHeld => ?_)
      clear hc2
      refine wpAnyH_take (i := 0) (oi := { dst := some 33, op := Op.load 64 (Operand.tmp 10), type := 64, pos := "fse.go:99", after := #[], guard := none }) (v := .pointer (some ⟨B, 0, none⟩)) rfl (by kernel_rfl) (by kernel_rfl) (by kernel_rfl) (fun _ _ _ h => h) (Or.inl ⟨by rfl, by intro w hSw; (try dsimp only at hSw); go_simp⟩) hHeld ?_
      simp only [Act.put, List.setIfInBounds_toArray, List.set_cons_zero, List.set_cons_succ]
      refine wpAnyH_take (i := 1) (oi := { dst := some 34, op := Op.load 3 (Operand.tmp 11), type := 3, pos := "fse.go:99", after := #[], guard := none }) (v := .int .i64 t) rfl (by kernel_rfl) (by kernel_rfl) (by kernel_rfl) (fun _ _ _ h => h) (Or.inl ⟨by rfl, by intro w hSw; (try dsimp only at hSw); go_simp⟩) hHeld ?_
      simp only [Act.put, List.setIfInBounds_toArray, List.set_cons_zero, List.set_cons_succ]
      refine wpAnyH_take (i := 2) (oi := { dst := some 35, op := Op.load 120 (Operand.tmp 8), type := 120, pos := "fse.go:99", after := #[], guard := none }) (v := .slice (some ⟨g, 0, none⟩) N N) rfl (by kernel_rfl) (by kernel_rfl) (by kernel_rfl) (fun _ _ _ h => h) (Or.inl ⟨by rfl, by intro w hSw; (try dsimp only at hSw); go_simp⟩) hHeld ?_
      simp only [Act.put, List.setIfInBounds_toArray, List.set_cons_zero, List.set_cons_succ]
      refine wpAnyH_take (i := 3) (oi := { dst := some 36, op := Op.move (Operand.tmp 14), type := 3, pos := "fse.go:99", after := #[], guard := none }) (v := .int .i64 u) rfl (by kernel_rfl) (by kernel_rfl) (by kernel_rfl) (fun _ _ _ h => h) (Or.inl ⟨by rfl, by intro w hSw; (try dsimp only at hSw); go_simp⟩) hHeld ?_
      simp only [Act.put, List.setIfInBounds_toArray, List.set_cons_zero, List.set_cons_succ]
      refine wpAnyH_take (i := 4) (oi := { dst := some 37, op := Op.indexAddr 120 (Operand.tmp 35) (Operand.tmp 36), type := 0, pos := "fse.go:99", after := #[{ on := 2, ground := Ground.data }, { on := 3, ground := Ground.data }], guard := none }) (v := .pointer (some ⟨g, u * 3, none⟩)) rfl (by kernel_rfl) (by kernel_rfl) (by kernel_rfl) (fun _ _ _ h => h) (Or.inl ⟨by rfl, by intro w hSw; (try dsimp only at hSw); go_simp⟩) hHeld ?_
      simp only [Act.put, List.setIfInBounds_toArray, List.set_cons_zero, List.set_cons_succ]
      refine wpAnyH_take (i := 5) (oi := { dst := some 38, op := Op.fieldAddr 128 (Operand.tmp 37) 2, type := 0, pos := "fse.go:99", after := #[{ on := 4, ground := Ground.data }], guard := none }) (v := .pointer (some ⟨g, u * 3 + 2, none⟩)) rfl (by kernel_rfl) (by kernel_rfl) (by kernel_rfl) (fun _ _ _ h => h) (Or.inl ⟨by rfl, by intro w hSw; (try dsimp only at hSw); go_simp⟩) hHeld ?_
      simp only [Act.put, List.setIfInBounds_toArray, List.set_cons_zero, List.set_cons_succ]
      refine wpAnyH_take (i := 6) (oi := { dst := some 39, op := Op.load 3 (Operand.tmp 38), type := 3, pos := "fse.go:99", after := #[{ on := 5, ground := Ground.data }], guard := none }) (v := .int .i64 qq) rfl (by kernel_rfl) (by kernel_rfl) (by kernel_rfl) (fun _ _ _ h => h) (Or.inl ⟨by rfl, by intro w hSw; (try dsimp only at hSw); go_simp⟩) hHeld ?_
      simp only [Act.put, List.setIfInBounds_toArray, List.set_cons_zero, List.set_cons_succ]
      refine wpAnyH_take (i := 7) (oi := { dst := some 40, op := Op.binOp BinOp.sub 3 (Operand.tmp 34) (Operand.tmp 39) 3, type := 3, pos := "fse.go:99", after := #[{ on := 1, ground := Ground.data }, { on := 6, ground := Ground.data }], guard := none }) (v := .int .i64 xx) rfl (by kernel_rfl) (by kernel_rfl) (by kernel_rfl) (fun _ _ _ h => h) (Or.inl ⟨by rfl, by intro w hSw; (try dsimp only at hSw); go_simp⟩) hHeld ?_
      simp only [Act.put, List.setIfInBounds_toArray, List.set_cons_zero, List.set_cons_succ]
      refine wpAnyH_take (i := 8) (oi := { dst := some 41, op := Op.load 120 (Operand.tmp 8), type := 120, pos := "fse.go:99", after := #[], guard := none }) (v := .slice (some ⟨g, 0, none⟩) N N) rfl (by kernel_rfl) (by kernel_rfl) (by kernel_rfl) (fun _ _ _ h => h) (Or.inl ⟨by rfl, by intro w hSw; (try dsimp only at hSw); go_simp⟩) hHeld ?_
      simp only [Act.put, List.setIfInBounds_toArray, List.set_cons_zero, List.set_cons_succ]
      refine wpAnyH_take (i := 9) (oi := { dst := some 42, op := Op.move (Operand.tmp 14), type := 3, pos := "fse.go:99", after := #[], guard := none }) (v := .int .i64 u) rfl (by kernel_rfl) (by kernel_rfl) (by kernel_rfl) (fun _ _ _ h => h) (Or.inl ⟨by rfl, by intro w hSw; (try dsimp only at hSw); go_simp⟩) hHeld ?_
      simp only [Act.put, List.setIfInBounds_toArray, List.set_cons_zero, List.set_cons_succ]
      refine wpAnyH_take (i := 10) (oi := { dst := some 43, op := Op.indexAddr 120 (Operand.tmp 41) (Operand.tmp 42), type := 0, pos := "fse.go:99", after := #[{ on := 8, ground := Ground.data }, { on := 9, ground := Ground.data }], guard := none }) (v := .pointer (some ⟨g, u * 3, none⟩)) rfl (by kernel_rfl) (by kernel_rfl) (by kernel_rfl) (fun _ _ _ h => h) (Or.inl ⟨by rfl, by intro w hSw; (try dsimp only at hSw); go_simp⟩) hHeld ?_
      simp only [Act.put, List.setIfInBounds_toArray, List.set_cons_zero, List.set_cons_succ]
      refine wpAnyH_take (i := 11) (oi := { dst := some 44, op := Op.fieldAddr 128 (Operand.tmp 43) 1, type := 0, pos := "fse.go:99", after := #[{ on := 10, ground := Ground.data }], guard := none }) (v := .pointer (some ⟨g, u * 3 + 1, none⟩)) rfl (by kernel_rfl) (by kernel_rfl) (by kernel_rfl) (fun _ _ _ h => h) (Or.inl ⟨by rfl, by intro w hSw; (try dsimp only at hSw); go_simp⟩) hHeld ?_
      simp only [Act.put, List.setIfInBounds_toArray, List.set_cons_zero, List.set_cons_succ]
      refine wpAnyH_take (i := 12) (oi := { dst := some 45, op := Op.load 3 (Operand.tmp 44), type := 3, pos := "fse.go:99", after := #[{ on := 11, ground := Ground.data }], guard := none }) (v := .int .i64 bb) rfl (by kernel_rfl) (by kernel_rfl) (by kernel_rfl) (fun _ _ _ h => h) (Or.inl ⟨by rfl, by intro w hSw; (try dsimp only at hSw); go_simp⟩) hHeld ?_
      simp only [Act.put, List.setIfInBounds_toArray, List.set_cons_zero, List.set_cons_succ]
      refine wpAnyH_ready (rs := [13]) (by kernel_rfl) (by simp) ?_
      refine AllReadyH.cons (o := { dst := some 46, op := Op.call { callee := Callee.value (Operand.func 43), args := #[Operand.tmp 33, Operand.tmp 40, Operand.tmp 45], argTypes := #[64, 3, 3] }, type := 4, pos := "fse.go:99", after := #[{ on := 0, ground := Ground.data }, { on := 7, ground := Ground.data }, { on := 12, ground := Ground.data }], guard := none }) rfl (fun K hK => ?_) AllReadyH.nil
      go_simp
      refine (put_walk B xx bb _ v l HE2.out.wr.drew HL.out).mono ?_
      rintro e w3 ⟨rfl, v3, hw3, t3, f3⟩
      rw [HPX.out] at hw3
      obtain ⟨n1, n2, n3, n4, n5, n6, n7, n8⟩ := hord.out
      have E3 := Lib.hid (encI_step HE2.out (x := x) (by omega) (by omega) (by omega) (by omega) (by omega) (by omega) (by omega) HO.out.2.1 HO.out.2.2.1 t3 hw3 f3 HEN.out)
      have KK := Lib.hid (encI_keeps (u := u) (D := W0.heap.size) HE.out (by omega) HO.out.2.1 HO.out.2.2.1 hb2 T2.out t3)
      have hwd := HE2.out.wr.drew
      have B11 := box_far (W := w2.drew) HE2.out.b11 t3 (foot_box hwd HE2.out.b11 (by decide) (by decide))
      have hft := foot_tab hwd (RowAt.drewI HE2.out.tab) (by decide)
      have hS3 : w3.cell? ⟨P10, 0, none⟩ = some (.pointer (some ⟨B, 0, none⟩)) ∧ w3.cell? ⟨P11, 0, none⟩ = some (.int .i64 t) ∧ w3.cell? ⟨P8, 0, none⟩ = some (.slice (some ⟨g, 0, none⟩) N N) ∧ w3.cell? ⟨g, u * 3 + 2, none⟩ = some (.int .i64 qq) ∧ w3.cell? ⟨g, u * 3 + 1, none⟩ = some (.int .i64 bb) :=
        ⟨(box_far (W := w2.drew) HE2.out.b10 t3 (foot_box hwd HE2.out.b10 (by decide) (by decide))).cell, B11.cell, (box_far (W := w2.drew) HE2.out.b8 t3 (foot_box hwd HE2.out.b8 (by decide) (by decide))).cell, t3.cell hHeld.2.2.2.1 hft, t3.cell hHeld.2.2.2.2 hft⟩
      have f11 := B11.frozen
      have k11 := B11.cell
      clear hw3 t3 f3 n1 n2 n3 n4 n5 n6 n7 n8 B11 hft hwd hHeld
      refine hK.out _ _ hS3 (fun hHeld => ?_)
      clear hK K hHeld hS3
      try simp only [Act.put, List.setIfInBounds_toArray, List.set_cons_zero, List.set_cons_succ]
      refine wpAnyH_done (by kernel_rfl) ?_ _
      gi_wp2_with fail
      exact ⟨KK.out.1, KK.out.2, _, _, _, E3.out⟩
  case done =>
    rintro D ys W hD rfl ⟨t, l, v, hE⟩ hK
    have he := hE.enc
    rw [bwd_snd, HR.out] at he
    subst he
    have hlen9 := (encF_bd HT.out _ _ rfl hE.enc hN0).2
    rw [List.length_map, bwd_len] at hlen9
    have hl900 : l.length ≤ 900000 := by omega
    have hpl := putL_len (t : Int) (L : Int) l
    have hl1 : (putL (t : Int) (L : Int) l).length ≤ 1000000 := by omega
    have c10 := hE.b10.cell
    have c11 := hE.b11.cell
    have HE := Lib.hid hE
    have HK := Lib.hid hK
    obtain ⟨l3, hl3⟩ : ∃ l3, putL (t : Int) (L : Int) l = l3 := ⟨_, rfl⟩
    rw [hl3] at hl1
    have HL3 := Lib.hid hl3
    have HLL := Lib.hid hl1
    clear hE hK hlen9 hpl hl3 hl1
    gi_wp2_with fail
    refine (wide_in HF.out (put_walk B t L _ v l HE.out.wr hl900)).mono ?_
    rintro e w3 ⟨rfl, v3, hw3, t3, f3⟩
    rw [HL3.out] at hw3
    have T3 := Lib.hid t3
    have HW3 := Lib.hid hw3
    have k10 := (box_far HE.out.b10 t3 (foot_box HE.out.wr HE.out.b10 (by decide) (by decide))).cell
    clear t3 f3 hw3 c10 c11
    gi_wp2_with fail
    refine (wide_in HF.out (bytes_walk B v3 l3 _ HW3.out HLL.out)).mono ?_
    rintro e w4 ⟨rfl, hh4, t4⟩
    obtain ⟨n1, n2, n3, n4, n5, n6, n7, n8⟩ := hord.out
    obtain ⟨⟨k6, f6, k7, f7⟩, g1, g2, g3, g4, g5⟩ := enc_fin HE.out HO.out.2.1 HO.out.1 (by omega) (by omega) (by omega) (Nat.le_trans HO.out.2.2.2 hD) HK.out T3.out t4 hh4 (.slice (some ⟨w3.heap.size, 0, none⟩) (l3.length / 8 + 1) (l3.length / 8 + 1))
    have GG := Lib.hid (And.intro g1 (And.intro g2 (And.intro g3 (And.intro g4 g5))))
    have hle : w.heap.size ≤ w3.heap.size := Nat.le_trans HE.out.touch.size T3.out.size
    have k7' : (w4.setCell ⟨P6, 0, none⟩ (.slice (some ⟨w3.heap.size, 0, none⟩) (l3.length / 8 + 1) (l3.length / 8 + 1))).cell? ⟨P7, 0, none⟩ = some (.bool false) := (touch_set w4 P6 _).cell k7 (by show ¬ P7 = P6; omega)
    have HLE := Lib.hid hle
    clear g1 g2 g3 g4 g5 n1 n2 n3 n4 n5 n6 n7 n8 t4 hh4 k7 k10 hle
    gi_wp2_with fail
    obtain ⟨g1, g2, g3, g4, g5⟩ := GG.out
    refine ⟨by simp, .inl ⟨_, _, rfl, run_takeDeferred g1, ?_⟩⟩
    refine ⟨_, results_two rfl _ _ _ _ _ _ _ rfl rfl (load4 g3) (load37 g2), ?_⟩
    refine ⟨?_, g4⟩
    show ∃ g, _ ∧ _ ∧ _
    rw [HL3.out]
    exact ⟨_, rfl, HLE.out, g5⟩
  case stop =>
    rintro D c pre W hD ⟨k, hk, rfl⟩ ⟨rfl, he, c6, c7, ht⟩ hK
    rw [bwd_snd] at he
    have hR : R = none := by rw [← HR.out]; exact backL_no N Sy Bi Ba he hk
    subst hR
    have hp := grownBy_putObj' W D (.deferred none)
    have C6 := Lib.hid (cell_kept c6.cell hp (fun r e => by cases e; exact ⟨_, hK, rfl⟩))
    have C7 := Lib.hid (cell_kept c7.cell hp (fun r e => by cases e; exact ⟨_, hK, rfl⟩))
    have TT := Lib.hid (ht.grown hp (fun k e hk => by cases e; have := HO.out.2.2.2; omega))
    have HK := Lib.hid hK
    clear he c6 c7 ht hK hp
    gi_wp2_with fail
    refine ⟨by simp, .inl ⟨_, _, rfl, run_takeDeferred HK.out, ?_⟩⟩
    exact ⟨_, results_two rfl _ _ _ _ _ _ _ rfl rfl (load4 C7.out) (load37 C6.out), rfl, TT.out⟩
theorem enc_yes (a a2 : Option Addr) (b off n c L b2 off2 ns cs : Nat) (z y : Nat → Int) (w : World) (h : Ints .i64 w a b off n z) (hy : Ints .i64 w a2 b2 off2 ns y) (hb2 : 0 < ns → b2 < w.heap.size) (hns : ns ≤ 40000) (hok : isOk z n (L : Int) = true) :
    Calls Try.prog 65 #[.slice a n c, .int .i64 L, .slice a2 ns cs] w (EncPost w L (encF (2 ^ L) (symU (natM z) n L) (fun u => bitsU L (xU (natM z) (symU (natM z) n L) u)) (fun u => baseU L (xU (natM z) (symU (natM z) n L) u)) (backL y ns ns))) :=
  (callsIn_wide (n := 6)).1 (enc_in Fence.wide rfl 6 (Nat.le_refl _) trivial trivial trivial trivial trivial trivial trivial trivial rfl a a2 b off n c L b2 off2 ns cs z y w h hy hb2 hns hok)
end Go.Proofs.Ythnhacbagmhfoaa

/- fse: bytes as strings. -/
namespace Go.Proofs.Ythnhacbagmhfoaa
open Go.RowKit Go.WideShapes Fs
set_option linter.unusedVariables false
set_option linter.unusedSimpArgs false
set_option maxRecDepth 100000
/-- Bytes as a string. -/
def strOf (F : Nat → Nat) (m : Nat) : ByteArray := strOfNums ((List.range m).map fun p => (F p : Int))
def strBits (l : List Bool) : ByteArray := strOf (byteAt (l ++ [true])) (l.length / 8 + 1)
theorem conv_tab {w : World} {g m c : Nat} {F : Nat → Nat} {e : TypeId} {fr : Nat × Nat} (h : w.heap[g]? = some (.cells (tab m (fun p => .int .u8 (F p))) e fr)) :
    (convert 28 9 (.slice (some ⟨g, 0, none⟩) m c)).run Try.prog w = .ok (.string (strOf F m)) w :=
  run_convert_bytes_arg w 28 5 Try.underlying28 Try.underlying5 g 0 m c _ (by simp) (fun i hi => by
    have := tab_cell h hi
    rw [Nat.zero_add, this]
    simp [hi]) 9 Try.underlying9
theorem conv_bytes {w : World} {g c : Nat} {l : List Bool} {e : TypeId} {fr : Nat × Nat} (h : w.heap[g]? = some (.cells (tab (l.length / 8 + 1) (bytesF l)) e fr)) :
    (convert 28 9 (.slice (some ⟨g, 0, none⟩) (l.length / 8 + 1) c)).run Try.prog w = .ok (.string (strBits l)) w := conv_tab h
theorem conv_nil (w : World) : (convert 28 9 (.slice none 0 0)).run Try.prog w = .ok (.string ByteArray.empty) w := run_convert_bytes_nil w 28 5 Try.underlying28 Try.underlying5 0 0 9 Try.underlying9
theorem isOk_four (z : Nat → Int) (n : Nat) : isOk z n 4 = false := by simp [isOk, logOk]
theorem normOk_log {z : Nat → Int} {n : Nat} {a : Int} (h : normOk z n a = true) : ∃ L : Nat, a = L ∧ 5 ≤ L ∧ L ≤ 9 ∧ n ≤ 32 := by
  simp only [normOk, logOk, Bool.and_eq_true, decide_eq_true_eq] at h
  exact ⟨a.toNat, by omega, by omega, by omega, h.1.1.2⟩

end Go.Proofs.Ythnhacbagmhfoaa

/- fse: Decode. -/
namespace Go.Proofs.Ythnhacbagmhfoaa
open Go.RowKit Go.WideShapes Fs
set_option linter.unusedVariables false
set_option linter.unusedSimpArgs false
set_option maxRecDepth 100000

/-- The digits that bytes hold, if they hold any. -/
def bitsIn (z : Nat → Nat) : Nat → Option (List Bool)
  | 0 => none
  | m + 1 => if z m = 0 then none else some (readBits z (8 * m + Nat.log2 (z m)))
theorem bitsIn_len {z : Nat → Nat} {len : Nat} {l : List Bool} (hz : ∀ i, z i < 256) (h : bitsIn z len = some l) : l.length ≤ 8 * len := by
  cases len with
  | zero => cases h
  | succ m =>
    simp only [bitsIn] at h
    split at h
    · cases h
    · cases h
      have := log2_lt8 (z m) (hz m)
      rw [readBits_length]; omega
def NewPost (w : World) (r : Option (List Bool)) (e : Ending) (w' : World) : Prop :=
  match r with
  | none => e = .returned (.tuple #[.pointer none, .bool false]) ∧ w = w'
  | some l => e = .returned (.tuple #[.pointer (some ⟨w.heap.size, 0, none⟩), .bool true]) ∧ ∃ v, Wr w' 131 w.heap.size v l ∧ Touch (fun _ => False) w w' ∧ Fresh w.heap.size (.slice none 0 0) v
theorem newr_any (a : Option Addr) (b off len cap : Nat) (z : Nat → Nat) (w : World) (hz : Seen w a b off len z) (hlen : len ≤ 100000) : Calls Try.prog 71 #[.slice a len cap] w (NewPost w (bitsIn z len)) := by
  cases len with
  | zero => exact newr_none a cap w
  | succ m =>
    obtain rfl := hz.at_ (by omega)
    simp only [bitsIn]
    by_cases h : z m = 0
    · rw [if_pos h]
      exact newr_zero b off m cap w (by omega) (by have := hz.cell m (by omega); rwa [h] at this)
    · rw [if_neg h]
      exact newr_yes b off m cap z w hz h (by omega)

theorem cells_list (o : List Nat) : cellsZ .i64 (fun i => ((o.getD i 0 : Nat) : Int)) o.length = o.map fun (x : Nat) => Value.int .i64 (x : Int) := by
  apply List.ext_getElem?
  intro i
  by_cases h : i < o.length
  · rw [cellsZ_get h]; simp [h]
  · rw [List.getElem?_eq_none (by rw [cellsZ_length]; omega), List.getElem?_eq_none (by simp; omega)]
theorem own_ne {w : World} {B : Nat} {e e' : TypeId} {size n g : Nat} {v : Value} {xs : List Value} {cur : Array Value} (h : w.ownsRow B e size v n xs) (hg : w.heap[g]? = some (.cells cur e' (0, 0))) (hne : e ≠ e') : v.ownBlock ≠ some g := by
  intro hv
  rcases h.2 with ⟨rfl, _⟩ | ⟨g', cap, cur', rfl, _, hg', _⟩
  · cases hv
  · obtain rfl : g' = g := by simpa [Value.ownBlock] using hv
    rw [hg'] at hg; simp at hg; exact hne hg.2
theorem own_at {w : World} {B : Nat} {e : TypeId} {size n k : Nat} {v : Value} {xs : List Value} (h : w.ownsRow B e size v n xs) (hk : v.ownBlock = some k) : ∃ cur, w.heap[k]? = some (.cells cur e (0, 0)) := by
  rcases h.2 with ⟨rfl, _⟩ | ⟨g', cap, cur', rfl, _, hg', _⟩
  · cases hk
  · obtain rfl : g' = k := by simpa [Value.ownBlock] using hk
    exact ⟨_, hg'⟩

/-- What Decode hands back. -/
def DecPost (w : World) (r : Option (List Nat)) (e : Ending) (w' : World) : Prop :=
  (match r with
  | none => e = .returned (.tuple #[.slice none 0 0, .bool false])
  | some o => ∃ a b c, e = .returned (.tuple #[.slice a o.length c, .bool true]) ∧ Ints .i64 w' a b 0 o.length (fun i => ((o.getD i 0 : Nat) : Int)))
  ∧ Touch (fun _ => False) w w'

set_option maxHeartbeats 1000000 in
theorem dec_no (a ab : Option Addr) (b off n c bb ob lb cb : Nat) (z : Nat → Int) (zb : Nat → Nat) (log q : Int) (w : World) (h : Ints .i64 w a b off n z) (hb : Seen w ab bb ob lb zb) (hlb : lb ≤ 100000) (hn : n ≤ 100000) (hno : isOk z n log = false) :
    Calls Try.prog 91 #[.slice a n c, .int .i64 log, .slice ab lb cb, .int .i64 q] w fun e w' => e = .returned (.tuple #[.slice none 0 0, .bool false]) ∧ Touch (fun _ => False) w w' := by
  have H := Lib.hid h
  have HB := Lib.hid hb
  have HN := Lib.hid hno
  clear h hno hb
  obtain ⟨r, hr⟩ : ∃ r, bitsIn zb lb = r := ⟨_, rfl⟩
  have hnew := fun w (h : Seen w ab bb ob lb zb) => newr_any ab bb ob lb cb zb w h hlb
  rw [hr] at hnew
  have HNEW := Lib.hid hnew
  clear hr hnew
  cases r with
  | none =>
    go_enter Try.func91, Try.ntmps91
    go_wp2_with fail
    refine (table_no a b off n c z log _ H.out hn HN.out).mono ?_
    rintro e w1 ⟨rfl, t1⟩
    have T1 := Lib.hid t1
    clear t1
    go_wp2_with fail
    refine (HNEW.out _ (HB.out.touch T1.out id)).mono ?_
    rintro e w2 ⟨rfl, rfl⟩
    go_wp2_with fail
    go_ret2
    exact ⟨rfl, T1.out⟩
  | some l =>
    go_enter Try.func91, Try.ntmps91
    go_wp2_with fail
    refine (table_no a b off n c z log _ H.out hn HN.out).mono ?_
    rintro e w1 ⟨rfl, t1⟩
    have T1 := Lib.hid t1
    clear t1
    go_wp2_with fail
    refine (HNEW.out _ (HB.out.touch T1.out id)).mono ?_
    rintro e w2 ⟨rfl, v, _, t2, _⟩
    have T2 := Lib.hid (T1.out.trans t2)
    clear t2
    go_wp2_with fail
    go_ret2
    exact ⟨rfl, T2.out⟩
end Go.Proofs.Ythnhacbagmhfoaa

/- fse: Decode, where there is something. -/
namespace Go.Proofs.Ythnhacbagmhfoaa
open Go.RowKit Go.WideShapes Fs
set_option linter.unusedVariables false
set_option linter.unusedSimpArgs false
set_option maxRecDepth 100000

set_option maxHeartbeats 1000000 in
theorem dec_bad (a ab : Option Addr) (b off n c bb ob lb cb L : Nat) (z : Nat → Int) (zb : Nat → Nat) (q : Int) (w : World) (h : Ints .i64 w a b off n z) (hb : Seen w ab bb ob lb zb) (hlb : lb ≤ 100000) (hok : isOk z n (L : Int) = true) (hbad : bitsIn zb lb = none ∨ q < 0) :
    Calls Try.prog 91 #[.slice a n c, .int .i64 L, .slice ab lb cb, .int .i64 q] w fun e w' => e = .returned (.tuple #[.slice none 0 0, .bool false]) ∧ Touch (fun _ => False) w w' := by
  have H := Lib.hid h
  have HB := Lib.hid hb
  have HTB := Lib.hid (fun w h => table_yes a b off n c L z w h hok)
  have hnew := fun w (h : Seen w ab bb ob lb zb) => newr_any ab bb ob lb cb zb w h hlb
  cases hr : bitsIn zb lb with
  | none =>
    rw [hr] at hnew
    have HNEW := Lib.hid hnew
    clear hr hnew hbad h hok hb
    go_enter Try.func91, Try.ntmps91
    go_wp2_with fail
    refine (HTB.out _ H.out).mono ?_
    rintro e w1 ⟨g, rfl, _, _, t1⟩
    have T1 := Lib.hid t1
    clear t1
    go_wp2_with fail
    refine (HNEW.out _ (HB.out.touch T1.out id)).mono ?_
    rintro e w2 ⟨rfl, rfl⟩
    go_wp2_with fail
    go_ret2
    exact ⟨rfl, T1.out⟩
  | some l =>
    have hq : q < 0 := hbad.resolve_left (by rw [hr]; simp)
    have hqd : decide (q < 0) = true := by simpa using hq
    rw [hr] at hnew
    have HNEW := Lib.hid hnew
    clear hr hnew hbad h hok hb
    go_enter Try.func91, Try.ntmps91
    go_wp2_with fail
    refine (HTB.out _ H.out).mono ?_
    rintro e w1 ⟨g, rfl, _, _, t1⟩
    have T1 := Lib.hid t1
    clear t1
    go_wp2_with fail
    refine (HNEW.out _ (HB.out.touch T1.out id)).mono ?_
    rintro e w2 ⟨rfl, v, _, t2, _⟩
    have T2 := Lib.hid (T1.out.trans t2)
    clear t2
    go_wp2_with fail
    go_ret2
    exact ⟨rfl, T2.out⟩

theorem takenV_le (l : List Bool) (n : Nat) (h : n ≤ 9) : takenV l (n : Int) ≤ 512 := Nat.le_trans (Nat.le_of_lt (takenV_lt l n)) (pow_small h)
theorem wrap_qv {q : Int} {v : Nat} (h0 : 0 ≤ q) (h1 : q ≤ 512) (h2 : v ≤ 512) : wrap64 (q + (v : Int)) = ((q + v).toNat : Nat) := by unfold wrap64; omega

theorem decE_yes {l : List Bool} {o : List Nat} (h : l.length = 0) : decE (some (0, l, o)) = some o := if_pos ⟨rfl, h⟩
theorem decE_no {u : Nat} {l : List Bool} {o : List Nat} (h : ¬ (u = 0 ∧ l.length = 0)) : decE (some (u, l, o)) = none := if_neg h
theorem dec_after {w w5 w6 : World} {B g N x : Nat} {Sy Bi : Nat → Nat} {Ba : Nat → Int} {v5 vo : Value} {l5 : List Bool} {o : List Nat} {a6 : Option Addr} {c6 : Nat} (hw5 : Wr w5 131 B v5 l5) (hrow : w5.ownsRow 0 3 1 vo o.length (o.map fun (x : Nat) => Value.int .i64 (x : Int))) (hown : OwnB w.heap.size vo) (htab : TabAt w5 g N Sy Bi Ba) (t5 : Touch (fun _ => False) w w5)
    (hown6 : w6.ownsRow 0 3 1 (.slice a6 (o.length + 1) c6) (o.length + 1) ((o.map fun (x : Nat) => Value.int .i64 (x : Int)) ++ [.int .i64 x])) (ht6 : Touch (fun k => vo.ownBlock = some k) (w5.alloc (.cells #[.int .i64 x] 3)) w6) (hf6 : Fresh (w5.alloc (.cells #[.int .i64 x] 3)).heap.size vo (.slice a6 (o.length + 1) c6)) :
    Wr w6 131 B v5 l5 ∧ w6.ownsRow 0 3 1 (.slice a6 (o.length + 1) c6) (o ++ [x]).length ((o ++ [x]).map fun (x : Nat) => Value.int .i64 (x : Int)) ∧ OwnB w.heap.size (.slice a6 (o.length + 1) c6) ∧ TabAt w6 g N Sy Bi Ba ∧ Touch (fun _ => False) w w6 := by
  have tn := Touch.new w5 (.cells #[.int .i64 x] 3)
  have hrn := tn.row hrow (fun _ _ => id)
  have hwn := hw5.touch tn id (fun _ _ => id)
  have htn := RowAt.touch htab tn id
  refine ⟨hwn.touch ht6 (fun e => own_ne hrn hwn.cell (by decide) e) (fun k hk e => ?_), by simpa using hown6, hown.fresh hf6 (Nat.le_trans t5.size tn.size), RowAt.touch htn ht6 (fun e => ?_), own_app (t5.trans tn) hown ht6⟩
  · obtain ⟨cur, hc⟩ := own_at hwn.row hk
    exact own_ne hrn hc (by decide) e
  · obtain ⟨cur, hc, _⟩ := htn
    exact own_ne hrn hc (by decide) e
theorem app_max {o : List Nat} {k nn : Nat} (h : o.length = k) (hk : k ≤ nn) (hnn : nn ≤ 100000) : o.length + 1 ≤ maxLen ∧ (o.length + 1) * 8 ≤ 140737488355328 := by unfold maxLen; omega
set_option maxHeartbeats 4000000 in
theorem dec_yes (a ab : Option Addr) (b off n c bb ob lb cb L nn : Nat) (z : Nat → Int) (zb : Nat → Nat) (l0 : List Bool) (w : World) (h : Ints .i64 w a b off n z) (hb : Seen w ab bb ob lb zb) (hlb : lb ≤ 100000) (hok : isOk z n (L : Int) = true) (hbits : bitsIn zb lb = some l0) (hnn : nn ≤ 100000) :
    Calls Try.prog 91 #[.slice a n c, .int .i64 L, .slice ab lb cb, .int .i64 nn] w (DecPost w (decF (symU (natM z) n L) (fun u => bitsU L (xU (natM z) (symU (natM z) n L) u)) (fun u => baseU L (xU (natM z) (symU (natM z) n L) u)) L nn l0)) := by
  obtain ⟨h5, h9, hn32, hn0, hzm, hsum⟩ := isOk_nat hok
  have htb := fun w h => table_yes a b off n c L z w h hok
  have T := tabOk_is h5 h9 (natM z) hsum hn32
  obtain ⟨Ba, hBa⟩ : ∃ f, (fun u => baseU L (xU (natM z) (symU (natM z) n L) u)) = f := ⟨_, rfl⟩
  obtain ⟨Bi, hBi⟩ : ∃ f, (fun u => bitsU L (xU (natM z) (symU (natM z) n L) u)) = f := ⟨_, rfl⟩
  obtain ⟨Sy, hSy⟩ : ∃ f, symU (natM z) n L = f := ⟨_, rfl⟩
  rw [hBa, hBi, hSy] at htb T ⊢
  have hv0 : takenV l0 (L : Int) < 2 ^ L := takenV_lt l0 L
  obtain ⟨N, hN⟩ : ∃ N : Nat, 2 ^ L = N := ⟨_, rfl⟩
  rw [hN] at htb T hv0
  have hN512 := T.size
  have hl0 : l0.length ≤ 800000 := by have := bitsIn_len hb.lt hbits; omega
  have hnew := fun w (h : Seen w ab bb ob lb zb) => newr_any ab bb ob lb cb zb w h hlb
  rw [hbits] at hnew
  have HNEW := Lib.hid hnew
  have HT := Lib.hid T
  have HTB := Lib.hid htb
  have H := Lib.hid h
  have HB := Lib.hid hb
  obtain ⟨R, hR⟩ : ∃ R, decF Sy Bi Ba L nn l0 = R := ⟨_, rfl⟩
  rw [hR]
  have hdn : decide ((nn : Int) < 0) = false := by simp
  clear hBa hBi hSy hN T htb h hb hok hzm hsum hbits hnew
  cases htk : takeOk (L : Int) l0.length with
  | false =>
    have hRn : R = none := by rw [← hR]; unfold decF; rw [htk]; rfl
    subst hRn
    have HTK := Lib.hid htk
    clear hR htk
    go_enter Try.func91, Try.ntmps91
    go_wp2_with fail
    refine (HTB.out _ H.out).mono ?_
    rintro e w1 ⟨g, rfl, _, _, t1⟩
    have T1 := Lib.hid t1
    clear t1
    go_wp2_with fail
    refine (HNEW.out _ (HB.out.touch T1.out id)).mono ?_
    rintro e w2 ⟨rfl, v, hw2, t2, f2⟩
    have T2 := Lib.hid (T1.out.trans t2)
    have HW2 := Lib.hid hw2
    have hsz : w.heap.size ≤ w1.heap.size := T1.out.size
    clear t2 hw2 f2
    go_wp2_with fail
    refine (take_walk _ v l0 L _ HW2.out (by omega)).mono ?_
    rintro e w3 ⟨rfl, v3, hw3, _, t3⟩
    rw [HTK.out]
    have T3 := Lib.hid (T2.out.then t3 (fun i hi e => by subst e; omega))
    clear t3 hw3
    go_wp2_with fail
    go_ret2
    exact ⟨rfl, T3.out⟩
  | true =>
    have hRs : decE (decK Sy Bi Ba (some (takenV l0 (L : Int), takenL l0 (L : Int), [])) nn) = R := by rw [← hR]; unfold decF; rw [htk]; rfl
    have HTK := Lib.hid htk
    have hlt0 := takenL_le l0 (L : Int)
    obtain ⟨u0, hu0⟩ : ∃ u, takenV l0 (L : Int) = u := ⟨_, rfl⟩
    obtain ⟨l1, hl1⟩ : ∃ u, takenL l0 (L : Int) = u := ⟨_, rfl⟩
    rw [hu0] at hv0 hRs
    rw [hl1] at hRs hlt0
    have hl800 : l1.length ≤ 800000 := by omega
    have HU0 := Lib.hid hu0
    have HL1 := Lib.hid hl1
    have HR := Lib.hid hRs
    obtain ⟨i0, hi, hz0, hz1, hz2⟩ := info_parts Try.info3
    clear hR htk hu0 hl1 hRs hlt0
    go_enter Try.func91, Try.ntmps91
    go_wp2_with fail
    refine (HTB.out _ H.out).mono ?_
    rintro e w1 ⟨g, rfl, hg, htab, t1⟩
    have T1 := Lib.hid t1
    have HTab1 := Lib.hid htab
    clear t1 htab
    go_wp2_with fail
    refine (HNEW.out _ (HB.out.touch T1.out id)).mono ?_
    rintro e w2 ⟨rfl, v, hw2, t2, f2⟩
    have T2 := Lib.hid (T1.out.trans t2)
    have HW2 := Lib.hid hw2
    have HTab2 := Lib.hid (RowAt.touch HTab1.out t2 id)
    have hsz : w.heap.size ≤ w1.heap.size := T1.out.size
    obtain ⟨B, hBB⟩ : ∃ B, w1.heap.size = B := ⟨_, rfl⟩
    rw [hBB] at HW2 hsz f2 ⊢
    have o2 := (OwnB.nil w.heap.size).fresh f2 hsz
    clear t2 hw2 f2 hBB
    go_wp2_with fail
    refine (take_walk _ v l0 L _ HW2.out (by omega)).mono ?_
    rintro e w3 ⟨rfl, v3, hw3, ho3, t3⟩
    rw [HTK.out, HU0.out]
    rw [HL1.out] at hw3
    have T3 := Lib.hid (T2.out.then t3 (fun i hi e => by subst e; omega))
    have HW3 := Lib.hid hw3
    have hgB : ¬ g = B := fun e => foot_tab HW2.out HTab2.out (by decide) (Or.inl e)
    have HTab3 := Lib.hid (RowAt.touch HTab2.out t3 hgB)
    clear t3 hw3 o2 ho3 hgB
    go_wp2_with fail
    go_loopw [14, 15, 49] (fun u_ out_ i wr => ∃ (k u : Nat) (l : List Bool) (o : List Nat) (v vo : Value), k ≤ nn ∧ i = .int .i64 k ∧ u_ = .int .i64 u ∧ out_ = vo ∧ decK Sy Bi Ba (some (u0, l1, [])) k = some (u, l, o) ∧ Wr wr 131 B v l ∧
      wr.ownsRow 0 3 1 vo o.length (o.map fun (x : Nat) => Value.int .i64 (x : Int)) ∧ OwnB w.heap.size vo ∧ TabAt wr g N Sy Bi Ba ∧ Touch (fun _ => False) w wr) (fun _ _ i _ => nn - (intOf i).toNat)
    case atStart => exact ⟨0, u0, l1, [], v3, _, by omega, rfl, rfl, rfl, rfl, HW3.out, World.ownsRow_nil _ _ _ _, OwnB.nil _, HTab3.out, T3.out⟩
    case round =>
      obtain ⟨k, u, l, o, v, vo, hk, rfl, rfl, rfl, hd, hwr, hrow, hown, htab, ht⟩ := hrel
      obtain ⟨hu, hlen, hol, ho32⟩ := decK_bd HT.out hv0 k hd
      have HD := Lib.hid hd
      have HW := Lib.hid hwr
      have HRow := Lib.hid hrow
      have HTab := Lib.hid htab
      clear hd hwr hrow htab HW3 HTab3 ho32
      by_cases hlt : k < nn
      · obtain ⟨k1, k2, k3⟩ := TabAt.get HTab.out hu
        have hbi := HT.out.bi u hu
        have hlo := HT.out.lo u hu
        have hto := tab_top HT.out hu
        obtain ⟨x, hx⟩ : ∃ x : Nat, Sy u = x := ⟨_, rfl⟩
        obtain ⟨yy, hy⟩ : ∃ x : Nat, Bi u = x := ⟨_, rfl⟩
        obtain ⟨qq, hqq⟩ : ∃ x : Int, Ba u = x := ⟨_, rfl⟩
        have hstep : decK Sy Bi Ba (some (u0, l1, [])) (k + 1) = if takeOk (yy : Int) l.length then some ((qq + (takenV l (yy : Int) : Int)).toNat, takenL l (yy : Int), o ++ [x]) else none := by
          rw [decK, HD.out, ← hx, ← hy, ← hqq]; rfl
        rw [hx] at k1
        rw [hy] at k2 hbi
        rw [hqq] at k3 hlo hto
        have hvl := takenV_le l yy hbi
        have HS := Lib.hid hstep
        have hm : nn - (intOf (Value.int .i64 ((k : Int) + 1))).toNat < nn - (intOf (Value.int .i64 (k : Int))).toNat := meas_u hlt
        have HM := Lib.hid hm
        have fu1 := wrap_suc k (by omega)
        have HAPP := Lib.hid (app_max hol hk hnn)
        have HL10 := Lib.hid (show l.length ≤ 1000000 by omega)
        have hBw : w.heap.size ≤ B := hsz
        clear hx hy hqq hstep hm hlen hol hl0 hl800 hv0 hk hnn hN512 hn32 h5 h9
        have hXB : wr.heap.size ≠ B := fun e => by have := lt_of_block HW.out.cell; omega
        obtain ⟨wa, hwa⟩ : ∃ wa, wr.alloc (.cells #[.int .i64 x, .int .i64 yy, .int .i64 qq] 128) = wa := ⟨_, rfl⟩
        have hbox : wa.heap[wr.heap.size]? = some (.cells #[.int .i64 x, .int .i64 yy, .int .i64 qq] 128 (0, 0)) := by rw [← hwa]; exact heap_alloc_new _ _
        have tA := hwa ▸ Touch.new wr (.cells #[.int .i64 x, .int .i64 yy, .int .i64 qq] 128)
        have TA := Lib.hid tA
        have HBox := Lib.hid hbox
        have HWA := Lib.hid hwa
        clear hwa hbox tA
        cases htk : takeOk (yy : Int) l.length with
        | false =>
          have hRn : R = none := by
            have h1 := HS.out
            rw [htk] at h1
            rw [← HR.out, decK_no Sy Bi Ba h1 hlt]; rfl
          subst hRn
          have HTK2 := Lib.hid htk
          clear htk
          go_wp2_with fail
          rw [HWA.out]
          refine (take_walk B v l yy _ (HW.out.touch TA.out id (fun _ _ => id)) HL10.out).mono ?_
          rintro e w5 ⟨rfl, v5, hw5, ho5, t5⟩
          rw [HTK2.out]
          have T5 := Lib.hid ((ht.trans TA.out).then t5 (fun i hi e => by subst e; exact Nat.not_lt.2 hBw hi))
          clear hw5 ho5 t5
          go_wp2_with fail
          go_ret2
          exact ⟨rfl, T5.out⟩
        | true =>
          have hst := HS.out
          rw [htk] at hst
          have HST := Lib.hid hst
          have HTK2 := Lib.hid htk
          clear htk hst
          go_wp2_with fail
          rw [HWA.out]
          refine (take_walk B v l yy _ (HW.out.touch TA.out id (fun _ _ => id)) HL10.out).mono ?_
          rintro e w5 ⟨rfl, v5, hw5, ho5, t5⟩
          rw [HTK2.out]
          have T5 := Lib.hid ((ht.trans TA.out).then t5 (fun i hi e => by subst e; exact Nat.not_lt.2 hBw hi))
          have hb5 := t5.heap HBox.out hXB
          have k0 : w5.cell? ⟨wr.heap.size, 0, none⟩ = some (.int .i64 x) := by rw [cell_of_row _ _ _ _ _ _ hb5]; rfl
          have k2 : w5.cell? ⟨wr.heap.size, 2, none⟩ = some (.int .i64 qq) := by rw [cell_of_row _ _ _ _ _ _ hb5]; rfl
          have hB5 := hw5.cell
          have hrA := (TA.out.row HRow.out (fun _ _ => id))
          have hrow5 := t5.row hrA (fun k hk e => by subst e; exact own_ne hrA (HW.out.touch TA.out id (fun _ _ => id)).cell (by decide) hk)
          have HTab5 := Lib.hid (RowAt.touch (RowAt.touch HTab.out TA.out id) t5 (fun e => foot_tab (HW.out.touch TA.out id (fun _ _ => id)) (RowAt.touch HTab.out TA.out id) (by decide) (Or.inl e)))
          have HW5 := Lib.hid hw5
          have HRow5 := Lib.hid hrow5
          have Hb5 := Lib.hid hb5
          obtain ⟨vv, hvv⟩ : ∃ vv, takenV l (yy : Int) = vv := ⟨_, rfl⟩
          rw [hvv] at hvl
          have hwq := wrap_qv hlo hto hvl
          have hwqi : IntKind.i64.wrap (qq + (vv : Int)) = ((qq + vv).toNat : Nat) := by rw [IntWalk.i64_in _ (by omega)]; omega
          rw [hvv]
          obtain ⟨uu, huu⟩ : ∃ uu, (qq + (vv : Int)).toNat = uu := ⟨_, rfl⟩
          rw [huu] at hwq hwqi
          have hst := HST.out
          rw [hvv, huu] at hst
          simp only [if_true] at hst
          have HST2 := Lib.hid hst
          clear t5 hw5 hb5 hB5 hrA hrow5 ho5 hvv k1 k3 hvl hlo hto hbi huu hst HST
          go_wp2_with (refine wpList_append_mine rfl (.tmp 64) (.tmp 67) 43 43 rfl 3 i0 (.int .i64 0) 1 8 Try.underlying43 hi hz0 hz1 hz2 rfl u15 _ _ rfl ((Touch.new w5 (.cells #[.int .i64 x] 3)).row HRow5.out (fun _ _ => id)) (.slice (some ⟨w5.heap.size, 0, none⟩) 1 1) 1 [.int .i64 x] rfl (src_one w5 Try.underlying43 _ rfl _ rfl) HAPP.out.1 HAPP.out.2 ?_; intro a6 c6 w6 hown6 ht6 hf6 _; have k6 : w6.cell? ⟨wr.heap.size, 2, none⟩ = some (.int .i64 qq) := ht6.cell ((Touch.new w5 _).cell k2 id) (fun e => own_ne HRow5.out Hb5.out (by decide) e))
          have HA := Lib.hid (dec_after (x := x) HW5.out HRow5.out hown HTab5.out T5.out hown6 ht6 hf6)
          clear hown6 ht6 hf6 k6
          go_roundw
          case rel =>
            obtain ⟨r1, r2, r3, r4, r5⟩ := HA.out
            exact ⟨k + 1, uu, _, o ++ [x], v5, _, hlt, by rw [fu1]; go_num, rfl, rfl, HST2.out, r1, r2, r3, r4, r5⟩
          case measure => rw [fu1]; exact HM.out
      · obtain rfl : k = nn := by omega
        have hR2 : decE (some (u, l, o)) = R := by rw [← HR.out, HD.out]
        have hrw := HRow.out
        rw [← cells_list] at hrw
        obtain ⟨ar, br, cr, hvr, hir⟩ := ints_row hrw
        have HIR := Lib.hid hir
        subst hvr
        clear hrw hir hlen hol hl0 hl800 hv0 hnn hN512 hn32 h5 h9
        by_cases hu0 : u = 0
        · subst hu0
          by_cases hll : l.length = 0
          · have hRs : R = some o := by rw [← hR2]; exact decE_yes hll
            subst hRs
            have HLN := Lib.hid hll
            clear hll hR2
            go_wp2_with fail
            refine (left_walk B v l _ HW.out).mono ?_
            rintro e w6 ⟨rfl, rfl⟩
            rw [HLN.out]
            go_wp2_with fail
            go_ret2
            exact ⟨⟨ar, br, cr, rfl, HIR.out⟩, ht⟩
          · have hRs : R = none := by rw [← hR2]; exact decE_no (fun h => hll h.2)
            subst hRs
            obtain ⟨ln, hln⟩ : ∃ ln, l.length = ln := ⟨_, rfl⟩
            have hld : 0 < ln := by omega
            have HLN := Lib.hid hln
            clear hll hR2 hln
            go_wp2_with fail
            refine (left_walk B v l _ HW.out).mono ?_
            rintro e w6 ⟨rfl, rfl⟩
            rw [HLN.out]
            go_wp2_with fail
            go_ret2
            exact ⟨rfl, ht⟩
        · have hRs : R = none := by rw [← hR2]; exact decE_no (fun h => hu0 h.1)
          subst hRs
          clear hR2
          go_wp2_with fail
          go_ret2
          exact ⟨rfl, ht⟩
end Go.Proofs.Ythnhacbagmhfoaa

/- fse: the document's Decode. -/
namespace Go.Proofs.Ythnhacbagmhfoaa
open Go.RowKit Go.WideShapes Fs
set_option linter.unusedVariables false
set_option linter.unusedSimpArgs false
set_option maxRecDepth 100000

/-- How many digits bytes hold. -/
def manyIn (z : Nat → Nat) : Nat → Option Nat
  | 0 => none
  | m + 1 => if z m = 0 then none else some (8 * m + Nat.log2 (z m))
theorem bitsIn_many (z : Nat → Nat) (len : Nat) : bitsIn z len = (manyIn z len).map (readBits z) := by
  cases len with
  | zero => rfl
  | succ m =>
    simp only [bitsIn, manyIn]
    split <;> rfl
theorem manyIn_le {z : Nat → Nat} {len M : Nat} (hz : ∀ i, z i < 256) (h : manyIn z len = some M) : M ≤ 8 * len ∧ 0 < len := by
  cases len with
  | zero => cases h
  | succ m =>
    simp only [manyIn] at h
    split at h
    · cases h
    · cases h
      have := log2_lt8 (z m) (hz m)
      omega
def RNewPost (w : World) (sl : Value) (r : Option Nat) (e : Ending) (w' : World) : Prop :=
  match r with
  | none => e = .returned (.tuple #[.pointer none, .bool false]) ∧ w = w'
  | some M => e = .returned (.tuple #[.pointer (some ⟨w.heap.size, 0, none⟩), .bool true]) ∧ Rd w' w.heap.size sl M ∧ Touch (fun _ => False) w w'
theorem rnewr_any (a : Option Addr) (b off len cap : Nat) (z : Nat → Nat) (w : World) (hz : Seen w a b off len z) (hlen : len ≤ 100000) : Calls Try.prog 54 #[.slice a len cap] w (RNewPost w (.slice a len cap) (manyIn z len)) := by
  cases len with
  | zero => exact rnewr_none a cap w
  | succ m =>
    obtain rfl := hz.at_ (by omega)
    simp only [manyIn]
    by_cases h : z m = 0
    · rw [if_pos h]
      exact rnewr_zero b off m cap w (by omega) (by have := hz.cell m (by omega); rwa [h] at this)
    · rw [if_neg h]
      exact rnewr_yes b off m cap z w hz h (by omega)

set_option maxHeartbeats 1000000 in
theorem rdec_no (a ab : Option Addr) (b off n c bb ob lb cb : Nat) (z : Nat → Int) (zb : Nat → Nat) (log q : Int) (w : World) (h : Ints .i64 w a b off n z) (hb : Seen w ab bb ob lb zb) (hlb : lb ≤ 100000) (hn : n ≤ 100000) (hno : isOk z n log = false) :
    Calls Try.prog 79 #[.slice a n c, .int .i64 log, .slice ab lb cb, .int .i64 q] w fun e w' => e = .returned (.tuple #[.slice none 0 0, .bool false]) ∧ Touch (fun _ => False) w w' := by
  have H := Lib.hid h
  have HB := Lib.hid hb
  have HN := Lib.hid hno
  clear h hno hb
  obtain ⟨r, hr⟩ : ∃ r, manyIn zb lb = r := ⟨_, rfl⟩
  have hnew := fun w (h : Seen w ab bb ob lb zb) => rnewr_any ab bb ob lb cb zb w h hlb
  rw [hr] at hnew
  have HNEW := Lib.hid hnew
  clear hr hnew
  cases r with
  | none =>
    go_enter Try.func79, Try.ntmps79
    go_wp2_with fail
    refine (rtable_no a b off n c z log _ H.out hn HN.out).mono ?_
    rintro e w1 ⟨rfl, rfl⟩
    have T1 := Lib.hid (Touch.refl (fun _ => False) w)
    go_wp2_with fail
    refine (HNEW.out _ (HB.out.touch T1.out id)).mono ?_
    rintro e w2 ⟨rfl, rfl⟩
    go_wp2_with fail
    go_ret2
    exact ⟨rfl, T1.out⟩
  | some M =>
    go_enter Try.func79, Try.ntmps79
    go_wp2_with fail
    refine (rtable_no a b off n c z log _ H.out hn HN.out).mono ?_
    rintro e w1 ⟨rfl, rfl⟩
    have T1 := Lib.hid (Touch.refl (fun _ => False) w)
    go_wp2_with fail
    refine (HNEW.out _ (HB.out.touch T1.out id)).mono ?_
    rintro e w2 ⟨rfl, _, t2⟩
    have T2 := Lib.hid (T1.out.trans t2)
    clear t2
    go_wp2_with fail
    go_ret2
    exact ⟨rfl, T2.out⟩
set_option maxHeartbeats 1000000 in
theorem rdec_bad (a ab : Option Addr) (b off n c bb ob lb cb L : Nat) (z : Nat → Int) (zb : Nat → Nat) (q : Int) (w : World) (h : Ints .i64 w a b off n z) (hb : Seen w ab bb ob lb zb) (hlb : lb ≤ 100000) (hok : isOk z n (L : Int) = true) (hbad : manyIn zb lb = none ∨ q < 0) :
    Calls Try.prog 79 #[.slice a n c, .int .i64 L, .slice ab lb cb, .int .i64 q] w fun e w' => e = .returned (.tuple #[.slice none 0 0, .bool false]) ∧ Touch (fun _ => False) w w' := by
  have H := Lib.hid h
  have HB := Lib.hid hb
  have HTB := Lib.hid (fun w h => rtable_yes a b off n c L z w h hok)
  have hnew := fun w (h : Seen w ab bb ob lb zb) => rnewr_any ab bb ob lb cb zb w h hlb
  cases hr : manyIn zb lb with
  | none =>
    rw [hr] at hnew
    have HNEW := Lib.hid hnew
    clear hr hnew hbad h hok hb
    go_enter Try.func79, Try.ntmps79
    go_wp2_with fail
    refine (HTB.out _ H.out).mono ?_
    rintro e w1 ⟨g, rfl, _, _, t1⟩
    have T1 := Lib.hid t1
    clear t1
    go_wp2_with fail
    refine (HNEW.out _ (HB.out.touch T1.out id)).mono ?_
    rintro e w2 ⟨rfl, rfl⟩
    go_wp2_with fail
    go_ret2
    exact ⟨rfl, T1.out⟩
  | some M =>
    have hq : q < 0 := hbad.resolve_left (by rw [hr]; simp)
    have hqd : decide (q < 0) = true := by simpa using hq
    rw [hr] at hnew
    have HNEW := Lib.hid hnew
    clear hr hnew hbad h hok hb
    go_enter Try.func79, Try.ntmps79
    go_wp2_with fail
    refine (HTB.out _ H.out).mono ?_
    rintro e w1 ⟨g, rfl, _, _, t1⟩
    have T1 := Lib.hid t1
    clear t1
    go_wp2_with fail
    refine (HNEW.out _ (HB.out.touch T1.out id)).mono ?_
    rintro e w2 ⟨rfl, _, t2⟩
    have T2 := Lib.hid (T1.out.trans t2)
    clear t2
    go_wp2_with fail
    go_ret2
    exact ⟨rfl, T2.out⟩


/-- Where one number more stands: what the loop keeps. -/
theorem rdec_after {w w5 w6 : World} {B g N x M : Nat} {Sy Bi : Nat → Nat} {Ba : Nat → Int} {sl vo : Value} {o : List Nat} {a6 : Option Addr} {c6 : Nat} (hw5 : Rd w5 B sl M) (hrow : w5.ownsRow 0 3 1 vo o.length (o.map fun (x : Nat) => Value.int .i64 (x : Int))) (hown : OwnB w.heap.size vo) (htab : TabAt w5 g N Sy Bi Ba) (t5 : Touch (fun _ => False) w w5)
    (hown6 : w6.ownsRow 0 3 1 (.slice a6 (o.length + 1) c6) (o.length + 1) ((o.map fun (x : Nat) => Value.int .i64 (x : Int)) ++ [.int .i64 x])) (ht6 : Touch (fun k => vo.ownBlock = some k) (w5.alloc (.cells #[.int .i64 x] 3)) w6) (hf6 : Fresh (w5.alloc (.cells #[.int .i64 x] 3)).heap.size vo (.slice a6 (o.length + 1) c6)) :
    Rd w6 B sl M ∧ w6.ownsRow 0 3 1 (.slice a6 (o.length + 1) c6) (o ++ [x]).length ((o ++ [x]).map fun (x : Nat) => Value.int .i64 (x : Int)) ∧ OwnB w.heap.size (.slice a6 (o.length + 1) c6) ∧ TabAt w6 g N Sy Bi Ba ∧ Touch (fun _ => False) w w6 := by
  have tn := Touch.new w5 (.cells #[.int .i64 x] 3)
  have hrn := tn.row hrow (fun _ _ => id)
  have hwn := hw5.touch tn id
  have htn := RowAt.touch htab tn id
  refine ⟨hwn.touch ht6 (fun e => own_ne hrn hwn.cell (by decide) e), by simpa using hown6, hown.fresh hf6 (Nat.le_trans t5.size tn.size), RowAt.touch htn ht6 (fun e => ?_), own_app (t5.trans tn) hown ht6⟩
  obtain ⟨cur, hc, _⟩ := htn
  exact own_ne hrn hc (by decide) e
theorem takenV_le9 (z : Nat → Nat) (M n : Nat) (h : n ≤ 9) : takenV (readBits z M) (n : Int) ≤ 512 := takenV_le _ _ h
theorem take_bd {M n : Nat} {N : Nat} (h : M ≤ N) : (if takeOk (n : Int) M then M - (n : Int).toNat else M) ≤ N := by split <;> omega

set_option maxHeartbeats 4000000 in
theorem rdec_yes (a ab : Option Addr) (b off n c bb ob lb cb L nn : Nat) (z : Nat → Int) (zb : Nat → Nat) (l0 : List Bool) (w : World) (h : Ints .i64 w a b off n z) (hb : Seen w ab bb ob lb zb) (hbw : 0 < lb → bb < w.heap.size) (hlb : lb ≤ 100000) (hok : isOk z n (L : Int) = true) (hbits : bitsIn zb lb = some l0) (hnn : nn ≤ 100000) :
    Calls Try.prog 79 #[.slice a n c, .int .i64 L, .slice ab lb cb, .int .i64 nn] w (DecPost w (decF (symU (natM z) n L) (fun u => bitsU L (xU (natM z) (symU (natM z) n L) u)) (fun u => baseU L (xU (natM z) (symU (natM z) n L) u)) L nn l0)) := by
  obtain ⟨h5, h9, hn32, hn0, hzm, hsum⟩ := isOk_nat hok
  have htb := fun w h => rtable_yes a b off n c L z w h hok
  have T := tabOk_is h5 h9 (natM z) hsum hn32
  obtain ⟨Ba, hBa⟩ : ∃ f, (fun u => baseU L (xU (natM z) (symU (natM z) n L) u)) = f := ⟨_, rfl⟩
  obtain ⟨Bi, hBi⟩ : ∃ f, (fun u => bitsU L (xU (natM z) (symU (natM z) n L) u)) = f := ⟨_, rfl⟩
  obtain ⟨Sy, hSy⟩ : ∃ f, symU (natM z) n L = f := ⟨_, rfl⟩
  rw [hBa, hBi, hSy] at htb T ⊢
  rw [bitsIn_many] at hbits
  obtain ⟨M0, hM0, rfl⟩ : ∃ M0, manyIn zb lb = some M0 ∧ readBits zb M0 = l0 := by
    cases hm : manyIn zb lb with
    | none => rw [hm] at hbits; cases hbits
    | some M0 => rw [hm] at hbits; exact ⟨M0, rfl, by simpa using hbits⟩
  have hv0 : takenV (readBits zb M0) (L : Int) < 2 ^ L := takenV_lt _ L
  obtain ⟨N, hN⟩ : ∃ N : Nat, 2 ^ L = N := ⟨_, rfl⟩
  rw [hN] at htb T hv0
  have hN512 := T.size
  obtain ⟨hM8, hlb0⟩ := manyIn_le hb.lt hM0
  have hbbw := hbw hlb0
  have hnew := fun w (h : Seen w ab bb ob lb zb) => rnewr_any ab bb ob lb cb zb w h hlb
  rw [hM0] at hnew
  have HNEW := Lib.hid hnew
  have HT := Lib.hid T
  have HTB := Lib.hid htb
  have H := Lib.hid h
  have HB := Lib.hid hb
  obtain ⟨R, hR⟩ : ∃ R, decF Sy Bi Ba L nn (readBits zb M0) = R := ⟨_, rfl⟩
  rw [hR]
  have hdn : decide ((nn : Int) < 0) = false := by simp
  clear hBa hBi hSy hN T htb h hb hok hzm hsum hbits hnew hbw hM0
  obtain ⟨M1, hM1⟩ : ∃ M1, (if takeOk (L : Int) M0 then M0 - (L : Int).toNat else M0) = M1 := ⟨_, rfl⟩
  have hM18 : M1 ≤ 8 * lb := by rw [← hM1]; exact take_bd hM8
  have HM1 := Lib.hid hM1
  clear hM1
  cases htk : takeOk (L : Int) M0 with
  | false =>
    have hRn : R = none := by rw [← hR]; unfold decF; rw [readBits_length, htk]; rfl
    subst hRn
    have HTK := Lib.hid htk
    clear hR htk
    go_enter Try.func79, Try.ntmps79
    go_wp2_with fail
    refine (HTB.out _ H.out).mono ?_
    rintro e w1 ⟨g, rfl, _, _, t1⟩
    have T1 := Lib.hid t1
    clear t1
    go_wp2_with fail
    refine (HNEW.out _ (HB.out.touch T1.out id)).mono ?_
    rintro e w2 ⟨rfl, hw2, t2⟩
    have T2 := Lib.hid (T1.out.trans t2)
    have HW2 := Lib.hid hw2
    have hsz : w.heap.size ≤ w1.heap.size := T1.out.size
    clear t2 hw2
    go_wp2_with fail
    refine (rtake_walk _ bb ob lb cb M0 ab zb L _ HW2.out (HB.out.touch T2.out id) hM8 hlb (by omega)).mono ?_
    rintro e w3 ⟨rfl, hw3, _, t3⟩
    rw [HTK.out]
    have T3 := Lib.hid (T2.out.then t3 (fun i hi e => by subst e; omega))
    clear t3 hw3
    go_wp2_with fail
    go_ret2
    exact ⟨rfl, T3.out⟩
  | true =>
    have hRs : decE (decK Sy Bi Ba (some (takenV (readBits zb M0) (L : Int), takenL (readBits zb M0) (L : Int), [])) nn) = R := by rw [← hR]; unfold decF; rw [readBits_length, htk]; rfl
    have HTK := Lib.hid htk
    obtain ⟨u0, hu0⟩ : ∃ u, takenV (readBits zb M0) (L : Int) = u := ⟨_, rfl⟩
    rw [hu0] at hv0 hRs
    have HU0 := Lib.hid hu0
    have HR0 := Lib.hid hRs
    obtain ⟨i0, hi, hz0, hz1, hz2⟩ := info_parts Try.info3
    clear hR htk hu0 hRs
    go_enter Try.func79, Try.ntmps79
    go_wp2_with fail
    refine (HTB.out _ H.out).mono ?_
    rintro e w1 ⟨g, rfl, hg, htab, t1⟩
    have T1 := Lib.hid t1
    have HTab1 := Lib.hid htab
    clear t1 htab
    go_wp2_with fail
    refine (HNEW.out _ (HB.out.touch T1.out id)).mono ?_
    rintro e w2 ⟨rfl, hw2, t2⟩
    have T2 := Lib.hid (T1.out.trans t2)
    have HW2 := Lib.hid hw2
    have HTab2 := Lib.hid (RowAt.touch HTab1.out t2 id)
    have hsz : w.heap.size ≤ w1.heap.size := T1.out.size
    obtain ⟨B, hBB⟩ : ∃ B, w1.heap.size = B := ⟨_, rfl⟩
    rw [hBB] at HW2 hsz ⊢
    clear t2 hw2 hBB
    have hBb : B ≠ bb := by omega
    go_wp2_with fail
    refine (rtake_walk _ bb ob lb cb M0 ab zb L _ HW2.out (HB.out.touch T2.out id) hM8 hlb hBb).mono ?_
    rintro e w3 ⟨rfl, hw3, hl3, t3⟩
    rw [HTK.out, HU0.out]
    rw [HM1.out] at hw3 hl3
    have hRs := HR0.out
    rw [hl3] at hRs
    have HR := Lib.hid hRs
    have T3 := Lib.hid (T2.out.then t3 (fun i hi e => by subst e; omega))
    have HW3 := Lib.hid hw3
    have hgB : ¬ g = B := fun e => by
      obtain ⟨cur, hc, _⟩ := HTab2.out
      rw [e, HW2.out.cell] at hc; simp at hc
    have HTab3 := Lib.hid (RowAt.touch HTab2.out t3 hgB)
    clear t3 hw3 hgB hl3 hRs HR0
    go_wp2_with fail
    go_loopw [14, 16, 17] (fun u_ out_ i wr => ∃ (k u M : Nat) (o : List Nat) (vo : Value), k ≤ nn ∧ i = .int .i64 k ∧ u_ = .int .i64 u ∧ out_ = vo ∧ decK Sy Bi Ba (some (u0, readBits zb M1, [])) k = some (u, readBits zb M, o) ∧ M ≤ 8 * lb ∧ Rd wr B (.slice ab lb cb) M ∧
      wr.ownsRow 0 3 1 vo o.length (o.map fun (x : Nat) => Value.int .i64 (x : Int)) ∧ OwnB w.heap.size vo ∧ TabAt wr g N Sy Bi Ba ∧ Touch (fun _ => False) w wr) (fun _ _ i _ => nn - (intOf i).toNat)
    case atStart => exact ⟨0, u0, M1, [], _, by omega, rfl, rfl, rfl, rfl, hM18, HW3.out, World.ownsRow_nil _ _ _ _, OwnB.nil _, HTab3.out, T3.out⟩
    case round =>
      obtain ⟨k, u, M, o, vo, hk, rfl, rfl, rfl, hd, hM, hwr, hrow, hown, htab, ht⟩ := hrel
      obtain ⟨hu, hlen, hol, ho32⟩ := decK_bd HT.out hv0 k hd
      have HD := Lib.hid hd
      have HW := Lib.hid hwr
      have HRow := Lib.hid hrow
      have HTab := Lib.hid htab
      clear hd hwr hrow htab HW3 HTab3 ho32
      by_cases hlt : k < nn
      · obtain ⟨k1, k2, k3⟩ := TabAt.get HTab.out hu
        have hbi := HT.out.bi u hu
        have hlo := HT.out.lo u hu
        have hto := tab_top HT.out hu
        obtain ⟨x, hx⟩ : ∃ x : Nat, Sy u = x := ⟨_, rfl⟩
        obtain ⟨yy, hy⟩ : ∃ x : Nat, Bi u = x := ⟨_, rfl⟩
        obtain ⟨qq, hqq⟩ : ∃ x : Int, Ba u = x := ⟨_, rfl⟩
        have hstep : decK Sy Bi Ba (some (u0, readBits zb M1, [])) (k + 1) = if takeOk (yy : Int) M then some ((qq + (takenV (readBits zb M) (yy : Int) : Int)).toNat, takenL (readBits zb M) (yy : Int), o ++ [x]) else none := by
          rw [decK, HD.out, ← hx, ← hy, ← hqq, ← readBits_length zb M]; simp only [decS, readBits_length]
        rw [hx] at k1
        rw [hy] at k2 hbi
        rw [hqq] at k3 hlo hto
        have hvl := takenV_le9 zb M yy hbi
        have HS := Lib.hid hstep
        have hm : nn - (intOf (Value.int .i64 ((k : Int) + 1))).toNat < nn - (intOf (Value.int .i64 (k : Int))).toNat := meas_u hlt
        have HM := Lib.hid hm
        have fu1 := wrap_suc k (by omega)
        have HAPP := Lib.hid (app_max hol hk hnn)
        have hBw : w.heap.size ≤ B := hsz
        have hM2 : (if takeOk (yy : Int) M then M - (yy : Int).toNat else M) ≤ 8 * lb := take_bd hM
        have HM2 := Lib.hid hM2
        have HMM := Lib.hid hM
        have HLB := Lib.hid hlb
        clear hx hy hqq hstep hm hlen hol hv0 hk hnn hN512 hn32 h5 h9 hM2 hM hM8 hM18 hlb
        cases htk : takeOk (yy : Int) M with
        | false =>
          have hRn : R = none := by
            have h1 := HS.out
            rw [htk] at h1
            rw [← HR.out, decK_no Sy Bi Ba h1 hlt]; rfl
          subst hRn
          have HTK2 := Lib.hid htk
          clear htk
          go_wp2_with fail
          refine (rtake_walk B bb ob lb cb M ab zb yy _ HW.out (HB.out.touch ht id) HMM.out HLB.out hBb).mono ?_
          rintro e w5 ⟨rfl, hw5, _, t5⟩
          rw [HTK2.out]
          have T5 := Lib.hid (ht.then t5 (fun i hi e => by subst e; exact Nat.not_lt.2 hBw hi))
          clear hw5 t5
          go_wp2_with fail
          go_ret2
          exact ⟨rfl, T5.out⟩
        | true =>
          have hst := HS.out
          rw [htk] at hst
          have HST := Lib.hid hst
          have HTK2 := Lib.hid htk
          clear htk hst
          go_wp2_with fail
          refine (rtake_walk B bb ob lb cb M ab zb yy _ HW.out (HB.out.touch ht id) HMM.out HLB.out hBb).mono ?_
          rintro e w5 ⟨rfl, hw5, hl5, t5⟩
          rw [HTK2.out]
          obtain ⟨M5, hM5⟩ : ∃ M5, (if takeOk (yy : Int) M then M - (yy : Int).toNat else M) = M5 := ⟨_, rfl⟩
          have hM58 : M5 ≤ 8 * lb := by rw [← hM5]; exact HM2.out
          rw [hM5] at hw5 hl5
          have T5 := Lib.hid (ht.then t5 (fun i hi e => by subst e; exact Nat.not_lt.2 hBw hi))
          have hgB : ¬ g = B := fun e => by
            obtain ⟨cur, hc, _⟩ := HTab.out
            rw [e, HW.out.cell] at hc; simp at hc
          have k0 := t5.cell k1 hgB
          have k2' := t5.cell k3 hgB
          have hrow5 := t5.row HRow.out (fun k hk e => by subst e; exact own_ne HRow.out HW.out.cell (by decide) hk)
          have HTab5 := Lib.hid (RowAt.touch HTab.out t5 hgB)
          have HW5 := Lib.hid hw5
          have HRow5 := Lib.hid hrow5
          obtain ⟨vv, hvv⟩ : ∃ vv, takenV (readBits zb M) (yy : Int) = vv := ⟨_, rfl⟩
          rw [hvv] at hvl
          have hwq := wrap_qv hlo hto hvl
          have hwqi : IntKind.i64.wrap (qq + (vv : Int)) = ((qq + vv).toNat : Nat) := by rw [IntWalk.i64_in _ (by omega)]; omega
          rw [hvv]
          obtain ⟨uu, huu⟩ : ∃ uu, (qq + (vv : Int)).toNat = uu := ⟨_, rfl⟩
          rw [huu] at hwq hwqi
          have hst := HST.out
          rw [hvv, huu, hl5] at hst
          simp only [if_true] at hst
          have HST2 := Lib.hid hst
          have HM58 := Lib.hid hM58
          clear t5 hw5 hrow5 hvv k1 k2 k3 hvl hlo hto hbi huu hst HST hgB hM5 hM58 hl5
          go_wp2_with (refine wpList_append_mine rfl (.tmp 66) (.tmp 72) 43 43 rfl 3 i0 (.int .i64 0) 1 8 Try.underlying43 hi hz0 hz1 hz2 rfl u16 _ _ rfl ((Touch.new w5 (.cells #[.int .i64 x] 3)).row HRow5.out (fun _ _ => id)) (.slice (some ⟨w5.heap.size, 0, none⟩) 1 1) 1 [.int .i64 x] rfl (src_one w5 Try.underlying43 _ rfl _ rfl) HAPP.out.1 HAPP.out.2 ?_; intro a6 c6 w6 hown6 ht6 hf6 _; have k6 : w6.cell? ⟨g, u * 3 + 2, none⟩ = some (.int .i64 qq) := ht6.cell ((Touch.new w5 _).cell k2' id) (fun e => by obtain ⟨cur, hc, _⟩ := HTab5.out; exact own_ne HRow5.out hc (by decide) e))
          have HA := Lib.hid (rdec_after (x := x) HW5.out HRow5.out hown HTab5.out T5.out hown6 ht6 hf6)
          clear hown6 ht6 hf6 k6
          go_roundw
          case rel =>
            obtain ⟨r1, r2, r3, r4, r5⟩ := HA.out
            exact ⟨k + 1, uu, M5, o ++ [x], _, hlt, by first | rfl | (rw [fu1]; go_num) | go_num, rfl, rfl, HST2.out, HM58.out, r1, r2, r3, r4, r5⟩
          case measure => first | exact HM.out | (rw [fu1]; exact HM.out)
      · obtain rfl : k = nn := by omega
        have hR2 : decE (some (u, readBits zb M, o)) = R := by rw [← HR.out, HD.out]
        have hrw := HRow.out
        rw [← cells_list] at hrw
        obtain ⟨ar, br, cr, hvr, hir⟩ := ints_row hrw
        have HIR := Lib.hid hir
        subst hvr
        have kM : wr.cell? ⟨B, 1, none⟩ = some (.int .i64 M) := HW.out.cellN
        clear hrw hir hlen hol hv0 hnn hN512 hn32 h5 h9 hM hM8 hM18 hlb
        by_cases hu0 : u = 0
        · subst hu0
          by_cases hll : M = 0
          · have hRs : R = some o := by rw [← hR2]; exact decE_yes (by rw [readBits_length]; exact hll)
            subst hRs
            subst hll
            clear hR2
            go_wp2_with fail
            go_ret2
            exact ⟨⟨ar, br, cr, rfl, HIR.out⟩, ht⟩
          · have hRs : R = none := by rw [← hR2]; exact decE_no (fun h => hll (by have := h.2; rwa [readBits_length] at this))
            subst hRs
            have hld : 0 < M := by omega
            clear hll hR2
            go_wp2_with fail
            go_ret2
            exact ⟨rfl, ht⟩
        · have hRs : R = none := by rw [← hR2]; exact decE_no (fun h => hu0 h.1)
          subst hRs
          clear hR2
          go_wp2_with fail
          go_ret2
          exact ⟨rfl, ht⟩
end Go.Proofs.Ythnhacbagmhfoaa

/- fse: both read the same. -/
namespace Go.Proofs.Ythnhacbagmhfoaa
open Go.RowKit Go.WideShapes Fs
set_option linter.unusedVariables false
set_option linter.unusedSimpArgs false
set_option maxRecDepth 100000
theorem seen_ints {w : World} {a : Option Addr} {b off n : Nat} {z : Nat → Int} (h : Ints .u8 w a b off n z) (hz : ∀ i, 0 ≤ z i ∧ z i < 256) : Seen w a b off n (fun i => (z i).toNat) :=
  ⟨h.at_, fun i hi => by rw [h.cell i hi, Int.toNat_of_nonneg (hz i).1], fun i => by have := hz i; omega⟩
theorem decF_len {Sy Bi : Nat → Nat} {Ba : Nat → Int} {N L n : Nat} (T : TabOk N Sy Bi Ba) (hN : 2 ^ L = N) {l : List Bool} {o : List Nat} (h : decF Sy Bi Ba L n l = some o) : o.length = n := by
  unfold decF at h
  split at h
  · cases hd : decK Sy Bi Ba (some (takenV l (L : Int), takenL l (L : Int), [])) n with
    | none => rw [hd] at h; cases h
    | some st =>
      obtain ⟨u, l', o'⟩ := st
      rw [hd] at h
      have := (decK_bd T (by rw [← hN]; exact takenV_lt l L) n hd).2.2.1
      simp only [decE] at h
      split at h
      · cases h; exact this
      · cases h
  · cases h
/-- Both read the same. -/
theorem dec_both (n L lb : Nat) (z : Nat → Int) (zb : Nat → Nat) (q : Int) (hok : isOk z n (L : Int) = true) (hlb : lb ≤ 100000) (hq : q ≤ 100000) :
    ∃ R, (∀ a b off c ab bb ob cb w, Ints .i64 w a b off n z → Seen w ab bb ob lb zb → Calls Try.prog 91 #[.slice a n c, .int .i64 L, .slice ab lb cb, .int .i64 q] w (DecPost w R)) ∧
      (∀ a b off c ab bb ob cb w, Ints .i64 w a b off n z → Seen w ab bb ob lb zb → (0 < lb → bb < w.heap.size) → Calls Try.prog 79 #[.slice a n c, .int .i64 L, .slice ab lb cb, .int .i64 q] w (DecPost w R)) ∧
      ∀ o, R = some o → o.length ≤ 100000 := by
  obtain ⟨h5, h9, hn32, hn0, hzm, hsum⟩ := isOk_nat hok
  cases hb : bitsIn zb lb with
  | none =>
    have hm : manyIn zb lb = none := by
      rw [bitsIn_many] at hb
      cases hm : manyIn zb lb with
      | none => rfl
      | some M => rw [hm] at hb; cases hb
    exact ⟨none, fun a b off c ab bb ob cb w h hs => dec_bad a ab b off n c bb ob lb cb L z zb q w h hs hlb hok (.inl hb), fun a b off c ab bb ob cb w h hs _ => rdec_bad a ab b off n c bb ob lb cb L z zb q w h hs hlb hok (.inl hm), fun o h => by cases h⟩
  | some l0 =>
    by_cases hq0 : q < 0
    · exact ⟨none, fun a b off c ab bb ob cb w h hs => dec_bad a ab b off n c bb ob lb cb L z zb q w h hs hlb hok (.inr hq0), fun a b off c ab bb ob cb w h hs _ => rdec_bad a ab b off n c bb ob lb cb L z zb q w h hs hlb hok (.inr hq0), fun o h => by cases h⟩
    · obtain ⟨nn, rfl⟩ := Int.eq_ofNat_of_zero_le (show 0 ≤ q by omega)
      exact ⟨_, fun a b off c ab bb ob cb w h hs => dec_yes a ab b off n c bb ob lb cb L nn z zb l0 w h hs hlb hok hb (by omega), fun a b off c ab bb ob cb w h hs hbw => rdec_yes a ab b off n c bb ob lb cb L nn z zb l0 w h hs hbw hlb hok hb (by omega),
        fun o h => by have := decF_len (tabOk_is h5 h9 (natM z) hsum hn32) rfl h; omega⟩
theorem u8_all {z : Nat → Int} (h : ∀ i, (Lit.int .u8 (z i)).wf = true) (i : Nat) : 0 ≤ z i ∧ z i < 256 := u8_wf (h i)

end Go.Proofs.Ythnhacbagmhfoaa

/- fse: what was pressed is read. -/
namespace Go.Proofs.Ythnhacbagmhfoaa
open Go.RowKit Go.WideShapes Fs
set_option linter.unusedVariables false
set_option linter.unusedSimpArgs false
set_option maxRecDepth 100000
theorem bitsIn_back (l : List Bool) : bitsIn (byteAt (l ++ [true])) (l.length / 8 + 1) = some l := by
  simp only [bitsIn]
  rw [if_neg (last_ne l), back_bits]
theorem decF_enc {Sy Bi : Nat → Nat} {Ba : Nat → Int} {N L : Nat} (T : TabOk N Sy Bi Ba) (hN : 2 ^ L = N) (hL : L ≤ 9) {xs : List Int} {t : Nat} {l : List Bool} (h : encF N Sy Bi Ba xs = some (t, l)) :
    putL (t : Int) (L : Int) l = l ++ Go.Proofs.Ythnhacbagmhfoaa.digits t L ∧ decF Sy Bi Ba L xs.length (putL (t : Int) (L : Int) l) = some (xs.reverse.map Int.toNat) := by
  have hN0 : 0 < N := by rw [← hN]; exact Nat.two_pow_pos _
  have ht : t < 2 ^ L := by rw [hN]; exact (encF_bd T _ xs rfl h hN0).1
  have hp := putL_nat (v := t) (n := L) l ht (by omega)
  refine ⟨hp, ?_⟩
  rw [hp]
  obtain ⟨a1, a2, a3⟩ := taken_app l t L ht (by omega)
  unfold decF
  rw [a3, a1, a2, dec_enc T hN0 _ xs rfl [] h]
  simp [decE]
theorem bytes_len {t L : Nat} {l : List Bool} (ht : t < 2 ^ L) (hL : L ≤ 9) : (putL (t : Int) (L : Int) l).length = l.length + L := by
  rw [putL_nat (v := t) (n := L) l ht (by omega), List.length_append, digits_length]

end Go.Proofs.Ythnhacbagmhfoaa

/- fse: how often a symbol comes. -/
namespace Go.Proofs.Ythnhacbagmhfoaa
open Go.RowKit Go.WideShapes Fs
set_option linter.unusedVariables false
set_option linter.unusedSimpArgs false
set_option maxRecDepth 100000
/-- How many of the first k are s. -/
def cntZ (y : Nat → Int) : Nat → Nat → Int
  | 0 => fun _ => 0
  | k + 1 => fun s => if (s : Int) = y k then cntZ y k s + 1 else cntZ y k s
theorem cntZ_bd (y : Nat → Int) (s : Nat) : ∀ k, 0 ≤ cntZ y k s ∧ cntZ y k s ≤ k
  | 0 => ⟨Int.le_refl _, Int.le_refl _⟩
  | k + 1 => by
    have := cntZ_bd y s k
    simp only [cntZ]
    split <;> omega
theorem cntZ_pos (y : Nat → Int) (s : Nat) : ∀ k i, i < k → y i = s → 0 < cntZ y k s
  | 0, i, h, _ => by omega
  | k + 1, i, h, e => by
    simp only [cntZ]
    by_cases h2 : i < k
    · have := cntZ_pos y s k i h2 e
      split <;> omega
    · obtain rfl : i = k := by omega
      rw [if_pos e.symm]
      have := (cntZ_bd y s i).1; omega
theorem cnt_ok {y : Nat → Int} {n L m : Nat} (h5 : 5 ≤ L) (h9 : L ≤ 9) (hn : 0 < n) (hn5 : n ≤ 500) (hm : m ≤ 32) (hy : ∀ i, i < n → 0 ≤ y i ∧ y i < m) : normOk (cntZ y n) m (L : Int) = true := by
  simp only [normOk, logOk, Bool.and_eq_true, decide_eq_true_eq, all01_iff]
  refine ⟨⟨⟨⟨by omega, by omega⟩, hm⟩, fun i _ => ?_⟩, fun h0 => ?_⟩
  · have := cntZ_bd y i n; omega
  · have h1 := hy 0 hn
    have h2 := cntZ_pos y (y 0).toNat n 0 hn (by omega)
    have h3 := sumZ_one (z := cntZ y n) (n := m) (i := (y 0).toNat) (fun i _ => (cntZ_bd y i n).1) (by omega)
    omega
theorem norm_hit {c : Nat → Int} {n L s : Nat} (hok : normOk c n (L : Int) = true) (hs : s < n) (hc : 0 < c s) (t : Nat) (ht : t < 2 ^ L) : ∃ u, u < 2 ^ L ∧ hit (symU (natM (normZ c n L)) n L) (fun u => bitsU L (xU (natM (normZ c n L)) (symU (natM (normZ c n L)) n L) u)) (fun u => baseU L (xU (natM (normZ c n L)) (symU (natM (normZ c n L)) n L) u)) s t u = true := by
  obtain ⟨_, _, hp, hiso⟩ := norm_spec _ _ _ hok
  obtain ⟨h5, h9, hn32, hn0, hzm, hsum⟩ := isOk_nat hiso
  refine hit_some h5 h9 _ hsum s t hs ?_ ht
  have := (hp s hs).2 hc
  unfold natM; omega
theorem backL_rev (y : Nat → Int) (n : Nat) : (backL y n n).reverse = (List.range n).map y := by
  apply List.ext_getElem
  · simp [backL]
  · intro i h1 h2
    have hi : i < n := by simpa using h2
    simp only [backL, List.getElem_reverse, List.getElem_map, List.getElem_range, List.length_map, List.length_range]
    congr 1; omega
theorem back_getD {y : Nat → Int} {n i : Nat} (hi : i < n) (h0 : 0 ≤ y i) : (((((backL y n n).reverse.map Int.toNat).getD i 0 : Nat)) : Int) = y i := by
  rw [backL_rev]
  simp [hi]
  omega
theorem backL_mem {y : Nat → Int} {n : Nat} {s : Int} (h : s ∈ backL y n n) : ∃ i, i < n ∧ y i = s := by
  simp only [backL, List.mem_map, List.mem_range] at h
  obtain ⟨j, hj, rfl⟩ := h
  exact ⟨n - 1 - j, by omega, rfl⟩
theorem tab_rowAt {w : World} {g n : Nat} {z : Nat → Int} (h : w.heap[g]? = some (.cells (tabI n z) 3 (0, 0))) : RowAt w g 3 n (fun i => .int .i64 (z i)) :=
  ⟨_, h, fun i hi => by simp [tabI, tab, hi]⟩

/-- Symbols that have a count are pressed, and read. -/
theorem back_all {c y : Nat → Int} {n L ns : Nat} (hok : normOk c n (L : Int) = true) (hy : ∀ i, i < ns → ∃ s : Nat, y i = s ∧ s < n ∧ 0 < c s) :
    ∃ t l, encF (2 ^ L) (symU (natM (normZ c n L)) n L) (fun u => bitsU L (xU (natM (normZ c n L)) (symU (natM (normZ c n L)) n L) u)) (fun u => baseU L (xU (natM (normZ c n L)) (symU (natM (normZ c n L)) n L) u)) (backL y ns ns) = some (t, l) ∧ t < 2 ^ L ∧ l.length ≤ 9 * ns ∧
      decF (symU (natM (normZ c n L)) n L) (fun u => bitsU L (xU (natM (normZ c n L)) (symU (natM (normZ c n L)) n L) u)) (fun u => baseU L (xU (natM (normZ c n L)) (symU (natM (normZ c n L)) n L) u)) L ns (putL (t : Int) (L : Int) l) = some ((backL y ns ns).reverse.map Int.toNat) := by
  have hiso := (norm_spec _ _ _ hok).2.2.2
  obtain ⟨h5, h9, hn32, hn0, hzm, hsum⟩ := isOk_nat hiso
  have T := tabOk_is h5 h9 (natM (normZ c n L)) hsum hn32
  obtain ⟨t, l, he⟩ := encF_some T (Nat.two_pow_pos L) _ (backL y ns ns) rfl (fun s hs t ht => by
    obtain ⟨i, hi, rfl⟩ := backL_mem hs
    obtain ⟨s, hs, hsn, hc⟩ := hy i hi
    rw [hs]
    exact norm_hit hok hsn hc t ht)
  obtain ⟨ht, hl⟩ := encF_bd T _ _ rfl he (Nat.two_pow_pos L)
  have hd := (decF_enc T rfl h9 he).2
  rw [backL_len] at hl hd
  exact ⟨t, l, he, ht, hl, hd⟩

end Go.Proofs.Ythnhacbagmhfoaa
