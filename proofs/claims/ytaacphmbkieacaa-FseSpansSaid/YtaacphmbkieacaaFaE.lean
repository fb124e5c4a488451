/- fse: Norm, where counts may be. -/
import Derived.Test.YtaacphmbkieacaaFaD
namespace Go.Proofs.Ytaacphmbkieacaa
open Go.RowKit Go.WideShapes Fs
set_option linter.unusedVariables false
set_option linter.unusedSimpArgs false
set_option maxRecDepth 100000

theorem bump_bd {z : Nat → Int} {n : Nat} {S : Int} (hn : 0 < n) (hS : 0 < S) (h : ∀ i, i < n → 0 ≤ z i ∧ z i ≤ S) (hne : sumZ z n ≠ S) : ∀ i, i < n → 0 ≤ bump z n S i ∧ bump z n S i ≤ S := by
  intro i hi
  have hm := mxI_le z (n - 1)
  have h1 := h i hi
  unfold bump addAt
  split
  · rename_i e
    split
    · rename_i hlt
      have := sumZ_one (z := z) (n := n) (fun j hj => (h j hj).1) hi
      omega
    · rename_i hge
      have : 0 < z i := by
        by_cases h0 : 0 < z i
        · exact h0
        · have h2 := sumZ_le (z := z) (B := 0) (by omega) (n := n) (fun j hj => by have := mxI_ge z (n - 1) j (by omega); rw [← e] at this; omega)
          omega
      omega
  · exact h1

theorem wrap_shl (x : Int) (L : Nat) (hx0 : 0 ≤ x) (hx : x ≤ 1073741824) (hL : L ≤ 9) : wrap64 (x * 2 ^ L) = x * ((2 ^ L : Nat) : Int) := by
  have hpb : (2 : Nat) ^ L ≤ 2 ^ 9 := Nat.pow_le_pow_right (by omega) hL
  have e : ((2 : Int) ^ L) = ((2 ^ L : Nat) : Int) := by simp
  rw [e]
  generalize 2 ^ L = S at *
  have h1 : x * (S : Int) ≤ 1073741824 * 512 := Int.mul_le_mul hx (by omega) (by omega) (by omega)
  have h2 : 0 ≤ x * (S : Int) := Int.mul_nonneg hx0 (by omega)
  unfold wrap64; omega

set_option maxHeartbeats 2000000 in
theorem norm_yes (a : Option Addr) (b off n c L : Nat) (z : Nat → Int) (w : World) (h : Ints .i64 w a b off n z) (hok : normOk z n (L : Int) = true) :
    Calls Try.prog 15 #[.slice a n c, .int .i64 L] w fun e w' => e = .returned (.tuple #[.slice (some ⟨w.heap.size, 0, none⟩) n n, .bool true]) ∧ w'.heap[w.heap.size]? = some (.cells (tabI n (normZ z n L)) 3 (0, 0)) ∧ Touch (fun _ => False) w w' := by
  have H := Lib.hid h
  have hk := hok
  simp only [normOk, Bool.and_eq_true, decide_eq_true_eq] at hk
  obtain ⟨⟨⟨hlog, hn32⟩, hall⟩, hsum⟩ := hk
  have hl := hlog
  simp [logOk] at hl
  have hL9 : L ≤ 9 := by omega
  have hL5 : 5 ≤ L := by omega
  have hpb : (2 : Nat) ^ L ≤ 2 ^ 9 := Nat.pow_le_pow_right (by omega) hL9
  have hpb5 : (2 : Nat) ^ 5 ≤ 2 ^ L := Nat.pow_le_pow_right (by omega) hL5
  have hcb : ∀ i, i < n → 0 ≤ z i ∧ z i ≤ 1073741824 := fun i hi => by
    have := (all01_iff _ z n).1 hall i hi
    simpa using this
  have hbd : ∀ i, i < n → -2147483648 ≤ z i ∧ z i ≤ 2147483648 := fun i hi => by have := hcb i hi; omega
  have hA0 := sumZ_nonneg (z := z) (n := n) (fun i hi => (hcb i hi).1)
  have hA1 := sumZ_le (z := z) (B := 1073741824) (by omega) (n := n) (fun i hi => (hcb i hi).2)
  have hn0 : 0 < n := by
    rcases Nat.eq_zero_or_pos n with e | e
    · subst e; exact absurd rfl hsum
    · exact e
  have hone : ∀ i, i < n → z i ≤ sumZ z n := fun i hi => sumZ_one (fun j hj => (hcb j hj).1) hi
  have hp := wrap_pow L (by omega)
  have hshl := fun x h0 h1 => wrap_shl x L h0 h1 hL9
  obtain ⟨Z, hZ⟩ : ∃ Z, normZ z n L = Z := ⟨_, rfl⟩
  rw [hZ]
  unfold normZ at hZ
  obtain ⟨S, hS⟩ : ∃ S : Nat, 2 ^ L = S := ⟨_, rfl⟩
  obtain ⟨A, hA⟩ : ∃ A, sumZ z n = A := ⟨_, rfl⟩
  rw [hA] at hZ hA0 hA1 hsum hone
  rw [hS] at hZ hp hpb hpb5 hshl
  have HSt := Lib.hid (fun i (hi : i < n) => startZ_bd (c := z) (all := A) (size := S) (hcb i hi).1 (hone i hi) (by omega))
  have HZ := Lib.hid hZ
  have HAA := Lib.hid hA
  have HLG := Lib.hid hlog
  have HALL : Hid (all01 cntOk z n = true) := Lib.hid hall
  have HCB := Lib.hid hcb
  have HBD := Lib.hid hbd
  have HSH := Lib.hid hshl
  have q : decide ((32 : Int) < (n : Int)) = false := by simp; omega
  have hd : decide ((L : Int) < 0) = false := by simp
  have hA2 : 0 < A := by omega
  have hne : (A == 0) = false := by simp; omega
  have hmk := fun w => make_ints n (by omega) w
  clear h hok hlog hl hall hcb hbd hone hZ hA hS hshl hsum
  go_enter Try.func15, Try.ntmps15
  go_wp2_with fail
  refine (log_walk L _).mono ?_
  rintro e w1 ⟨rfl, rfl⟩
  rw [HLG.out]
  go_wp2_with fail
  refine (contains28 a b off n c z _ H.out true HALL.out (by omega)).mono ?_
  rintro e w1 ⟨rfl, rfl⟩
  go_wp2_with fail
  refine (sum_walk a b off n c z _ H.out (by omega) HBD.out).mono ?_
  rintro e w1 ⟨rfl, rfl⟩
  rw [HAA.out]
  go_wp2_with fail
  refine (sum_walk a b off n c z _ H.out (by omega) HBD.out).mono ?_
  rintro e w1 ⟨rfl, rfl⟩
  rw [HAA.out]
  go_wp2_with fail
  clear hmk
  go_loopw [9, 10, 38] (fun _ _ i wr => ∃ k : Nat, k ≤ n ∧ i = .int .i64 k ∧ wr.heap[w.heap.size]? = some (.cells (tabI n (fun i => if i < k then startZ z A S i else 0)) 3 (0, 0)) ∧ Touch (fun _ => False) w wr) (fun _ _ i _ => n - (intOf i).toNat)
  case atStart => exact ⟨0, by omega, rfl, heap_alloc_new w _, Touch.new w _⟩
  case round =>
    obtain ⟨k, hk, rfl, hh, ht⟩ := hrel
    have HH := Lib.hid hh
    clear hh
    by_cases hlt : k < n
    · obtain rfl := H.out.at_ (by omega)
      have e1 := ht.cell (H.out.cell k hlt) id
      have hfree := tab_free HH.out k
      have hcell := tab_cell HH.out hlt
      have hx := HCB.out k hlt
      have hst : startZ z A S k = if 0 < z k then max 1 (z k * S / A) else 0 := rfl
      obtain ⟨x, hxe⟩ : ∃ x, z k = x := ⟨_, rfl⟩
      rw [hxe] at e1 hx hst
      obtain ⟨hx0, hx1⟩ := hx
      have HX := Lib.hid hst
      clear hxe hst
      by_cases hpos : 0 < x
      · have hsh := HSH.out x hx0 hx1
        obtain ⟨y, hy⟩ : ∃ y, x * (S : Int) = y := ⟨_, rfl⟩
        have hy0 : 0 ≤ y := by rw [← hy]; exact Int.mul_nonneg hx0 (by omega)
        have hy1 : y ≤ 1073741824 * 512 := by rw [← hy]; exact Int.mul_le_mul hx1 (by omega) (by omega) (by omega)
        rw [hy] at hsh
        have hqd : wrap64 (y.tdiv A) = y / A := by
          rw [Int.tdiv_eq_ediv_of_nonneg hy0]
          have h1 := Int.ediv_nonneg hy0 (show 0 ≤ A by omega)
          have h2 := Int.ediv_le_self A hy0
          generalize y / A = q at *
          unfold wrap64; omega
        have HY := Lib.hid hy
        clear hy
        go_wp2_with fail
        have hnew : startZ z A S k = max 1 (y / A) := by rw [HX.out, if_pos hpos, HY.out]
        go_roundw
        case rel =>
          refine ⟨k + 1, by omega, by go_num, ?_, ht.setCell (fun h => by simp at h) _⟩
          refine Eq.trans (tab_store HH.out k _) ?_
          unfold tabI
          congr 2
          apply tab_congr
          intro i _
          by_cases e : i = k
          · subst e; simp [hnew]
          · by_cases h1 : i < k
            · simp [e, h1, Nat.lt_succ_of_lt h1]
            · simp [e, h1]; omega
        case measure => simp [intOf]; omega
      · have hnew : startZ z A S k = 0 := by rw [HX.out, if_neg hpos]
        have HNW := Lib.hid hnew
        clear hnew
        go_wp2_with fail
        go_roundw
        case rel =>
          refine ⟨k + 1, by omega, by go_num, ?_, ht⟩
          refine Eq.trans HH.out ?_
          unfold tabI
          congr 2
          apply tab_congr
          intro i _
          by_cases e : i = k
          · subst e; simp [HNW.out]
          · by_cases h1 : i < k
            · simp [h1, Nat.lt_succ_of_lt h1]
            · simp [h1]; omega
        case measure => simp [intOf]; omega
    · obtain rfl : k = n := by omega
      have hst : wr.heap[w.heap.size]? = some (.cells (tabI k (startZ z A S)) 3 (0, 0)) := by
        refine Eq.trans HH.out ?_
        unfold tabI
        congr 2
        apply tab_congr
        intro i hi
        simp [hi]
      have HS0 := Lib.hid hst
      have hsum0 : ∀ (zc : Nat → Int), (∀ i, i < k → 0 ≤ zc i ∧ zc i ≤ S) → 0 ≤ sumZ zc k ∧ sumZ zc k ≤ 16384 := fun zc h => by
        have h1 := sumZ_nonneg (z := zc) (n := k) (fun i hi => (h i hi).1)
        have h2 := sumZ_le (z := zc) (B := 512) (by omega) (n := k) (fun i hi => by have := (h i hi).2; omega)
        omega
      have HSM := Lib.hid hsum0
      have HSumW := Lib.hid (fun (w2 : World) (zc : Nat → Int) (hh : w2.heap[w.heap.size]? = some (.cells (tabI k zc) 3 (0, 0))) (hb : ∀ i, i < k → 0 ≤ zc i ∧ zc i ≤ S) => sum_walk (some ⟨w.heap.size, 0, none⟩) w.heap.size 0 k k zc w2 ⟨fun _ => rfl, fun i hi => by rw [Nat.zero_add]; exact tab_cell hh hi⟩ (by omega) (fun i hi => by have := hb i hi; omega))
      have hb0 : ∀ i, i < k → 0 ≤ startZ z A S i ∧ startZ z A S i ≤ S := fun i hi => ⟨(HSt.out i hi).1, (HSt.out i hi).2.1⟩
      obtain ⟨s0, hs0⟩ : ∃ s, sumZ (startZ z A S) k = s := ⟨_, rfl⟩
      have hsb := HSM.out _ hb0
      rw [hs0] at hsb
      have HS00 := Lib.hid hs0
      have HB0 := Lib.hid hb0
      have hsc : ∀ q, Calls Try.prog 31 #[.slice (some ⟨w.heap.size, 0, none⟩) k k] (wr.drewN q) fun e w' => e = .returned (.int .i64 s0) ∧ wr.drewN q = w' := fun q => by
        have := HSumW.out (wr.drewN q) (startZ z A S) HS0.out HB0.out
        rw [HS00.out] at this; exact this
      have HSC := Lib.hid hsc
      have f1 : IntKind.i64.wrap ((S : Int) - s0) = (S : Int) - s0 := IntWalk.i64_in _ (by omega)
      have fp : IntKind.i64.wrap ((2 : Int) ^ L) = (S : Int) := by
        have e := hp
        generalize (2 : Int) ^ L = t at e ⊢
        unfold wrap64 at e
        rw [IntKind.wrap_i64]; omega
      clear hst hsum0 hb0 hs0 hsc HH
      go_wp2_with fail
      go_quiet ((go_at_call 31; exact quiet_same (HSC.out _)))
      go_wp2_with fail
      go_loopw [11, 12] (fun l _ w2 => ∃ zc : Nat → Int, ∃ ll : Int, w2.heap[w.heap.size]? = some (.cells (tabI k zc) 3 (0, 0)) ∧ l = .int .i64 ll ∧ ll = (S : Int) - sumZ zc k ∧ (∀ i, i < k → 0 ≤ zc i ∧ zc i ≤ S) ∧ adj k S (sumZ zc k - S).natAbs zc = Z ∧ Touch (fun _ => False) w w2) (fun l _ _ => (intOf l).natAbs)
      case atStart => exact ⟨startZ z A S, _, HS0.out, rfl, by rw [HS00.out], HB0.out, HZ.out, ht.drewN _⟩
      case round =>
        obtain ⟨zc, ll, hh, rfl, hll, hb, hadj, ht2⟩ := hrel
        have hsb2 := HSM.out zc hb
        have HH := Lib.hid hh
        have HBB := Lib.hid hb
        have HAD := Lib.hid hadj
        have HLL := Lib.hid hll
        obtain ⟨s1, hs1⟩ : ∃ s, sumZ zc k = s := ⟨_, rfl⟩
        rw [hs1] at hll hsb2
        have HS1 := Lib.hid hs1
        clear hh hb hadj hs1 HSC f1 HS0
        by_cases h0 : ll = 0
        · have hfin : zc = Z := by rw [← HAD.out, adj_done]; rw [HS1.out]; omega
          have HF := Lib.hid hfin
          clear hfin hll
          subst h0
          go_wp2_with fail
          go_ret2
          exact ⟨rfl, by rw [← HF.out]; exact HH.out, ht2⟩
        · have hne0 : (ll != 0) = true := by simpa using h0
          have hsne : sumZ zc k ≠ S := by rw [HS1.out]; omega
          have hmb := mxI_le zc (k - 1)
          have hbb := bump_bd (z := zc) (n := k) (S := S) hn0 (by omega) HBB.out hsne
          have hsn := sumZ_bump zc k S hn0
          have had := adj_step k S zc hn0 hsne
          rw [HAD.out] at had
          have hcells : ∀ i, i < k → wr.cell? ⟨w.heap.size, i, none⟩ = some (.int .i64 (zc i)) := fun i hi => tab_cell HH.out hi
          have HG := Lib.hid (fun (o : Unit) => greatest_walk w.heap.size k k zc wr hn0 (by omega) hcells)
          have HF := Lib.hid (fun (o : Unit) => first_walk w.heap.size k k zc wr hn0 (by omega) hcells)
          have hbz : bump zc k S (mxI zc (k - 1)) = zc (mxI zc (k - 1)) + if sumZ zc k < S then 1 else -1 := by unfold bump addAt; rw [if_pos rfl]
          have hbo : ∀ i, i ≠ mxI zc (k - 1) → bump zc k S i = zc i := fun i hi => by unfold bump addAt; rw [if_neg hi]
          have hbm := HBB.out (mxI zc (k - 1)) (by omega)
          have hcm := hcells (mxI zc (k - 1)) (by omega)
          have hfm := tab_free HH.out (mxI zc (k - 1))
          rw [HS1.out] at hsn hbz
          obtain ⟨zb, hzb⟩ : ∃ zb, bump zc k S = zb := ⟨_, rfl⟩
          obtain ⟨m, hm⟩ : ∃ m, mxI zc (k - 1) = m := ⟨_, rfl⟩
          rw [hzb] at hbb hsn had hbz hbo
          rw [hm] at hmb hbz hbo hbm hcm hfm HG HF
          obtain ⟨x, hx⟩ : ∃ x, zc m = x := ⟨_, rfl⟩
          rw [hx] at hbz hbm hcm HG HF
          have hmk' : m < k := by omega
          have HBO := Lib.hid hbo
          have HBB2 := Lib.hid hbb
          have HADD := Lib.hid had
          obtain ⟨hx0, hx1⟩ := hbm
          obtain ⟨s2, hs2⟩ : ∃ s, sumZ zb k = s := ⟨_, rfl⟩
          have hs2b := HSM.out zb hbb
          rw [hs2] at hsn hs2b
          have HS2 := Lib.hid hs2
          have hnewh : ∀ v : Int, v = zb m → (wr.setCell ⟨w.heap.size, m, none⟩ (.int .i64 v)).heap[w.heap.size]? = some (.cells (tabI k zb) 3 (0, 0)) := fun v hv => by
            refine Eq.trans (tab_store HH.out m _) ?_
            unfold tabI
            congr 2
            apply tab_congr
            intro i _
            by_cases e : i = m
            · subst e; rw [if_pos rfl, hv]
            · rw [if_neg e, HBO.out i e]
          have HNH := Lib.hid hnewh
          have hsw : ∀ v : Int, v = zb m → ∀ q, Calls Try.prog 31 #[.slice (some ⟨w.heap.size, 0, none⟩) k k] ((wr.setCell ⟨w.heap.size, m, none⟩ (.int .i64 v)).drewN q) fun e w' => e = .returned (.int .i64 s2) ∧ (wr.setCell ⟨w.heap.size, m, none⟩ (.int .i64 v)).drewN q = w' := fun v hv q => by
            have := HSumW.out ((wr.setCell ⟨w.heap.size, m, none⟩ (.int .i64 v)).drewN q) zb (HNH.out v hv) HBB2.out
            rw [HS2.out] at this; exact this
          have HSW := Lib.hid hsw
          have f2 : IntKind.i64.wrap ((S : Int) - s2) = (S : Int) - s2 := IntWalk.i64_in _ (by omega)
          clear hcells hbo hbb had hzb hm hx hs2 hnewh hsw
          by_cases hpos : s1 < S
          · rw [if_pos hpos] at hsn hbz
            have hlp : 0 < ll := by omega
            have HBZ := Lib.hid hbz.symm
            have HSN := Lib.hid hsn
            clear hll hbz hsn
            go_wp2_with fail
            refine (HG.out ()).mono ?_
            rintro e w5 ⟨rfl, rfl⟩
            go_wp2_with fail
            refine (HF.out ()).mono ?_
            rintro e w5 ⟨rfl, rfl⟩
            go_wp2_with fail
            go_quiet ((go_at_call 31; exact quiet_same (HSW.out _ HBZ.out _)))
            go_wp2_with fail
            go_roundw
            case rel => exact ⟨zb, _, HNH.out _ HBZ.out, rfl, by rw [HS2.out], HBB2.out, HADD.out.symm, (ht2.setCell (fun h => by simp at h) _).drewN _⟩
            case measure => simp [intOf]; have := HSN.out; have := HLL.out; rw [HS1.out] at this; omega
          · rw [if_neg hpos] at hsn hbz
            have hlp : ¬ 0 < ll := by omega
            have HBZ := Lib.hid (show x - 1 = zb m by omega)
            have HSN := Lib.hid hsn
            clear hll hbz hsn
            go_wp2_with fail
            refine (HG.out ()).mono ?_
            rintro e w5 ⟨rfl, rfl⟩
            go_wp2_with fail
            refine (HF.out ()).mono ?_
            rintro e w5 ⟨rfl, rfl⟩
            go_wp2_with fail
            go_quiet ((go_at_call 31; exact quiet_same (HSW.out _ HBZ.out _)))
            go_wp2_with fail
            go_roundw
            case rel => exact ⟨zb, _, HNH.out _ HBZ.out, rfl, by rw [HS2.out], HBB2.out, HADD.out.symm, (ht2.setCell (fun h => by simp at h) _).drewN _⟩
            case measure => simp [intOf]; have := HSN.out; have := HLL.out; rw [HS1.out] at this; omega
end Go.Proofs.Ytaacphmbkieacaa
