/- fse: the law FseSpans. -/
import Derived.Test.YtaacphmbkieacaaGaC
namespace Go.Proofs.Ytaacphmbkieacaa
open Go.RowKit Go.WideShapes Fs
set_option linter.unusedVariables false
set_option linter.unusedSimpArgs false
set_option maxRecDepth 100000

/-- How many states below u are the symbol p / N's whose span has p % N. -/
def seenF (N : Nat) (Sy Bi : Nat → Nat) (Ba : Nat → Int) (u p : Nat) : Nat := sumN (fun v => if hit Sy Bi Ba ((p / N : Nat) : Int) (p % N) v = true then 1 else 0) u
def seenK (N : Nat) (Sy Bi : Nat → Nat) (Ba : Nat → Int) (u k p : Nat) : Nat := seenF N Sy Bi Ba u p + if Sy u = p / N ∧ Ba u ≤ ((p % N : Nat) : Int) ∧ ((p % N : Nat) : Int) < Ba u + k then 1 else 0
theorem seenK_zero (N : Nat) (Sy Bi : Nat → Nat) (Ba : Nat → Int) (u p : Nat) : seenK N Sy Bi Ba u 0 p = seenF N Sy Bi Ba u p := by
  unfold seenK
  rw [if_neg (by omega)]; rfl
theorem seenK_end (N : Nat) (Sy Bi : Nat → Nat) (Ba : Nat → Int) (u p : Nat) : seenK N Sy Bi Ba u (2 ^ Bi u) p = seenF N Sy Bi Ba (u + 1) p := by
  unfold seenK seenF
  rw [sumN]
  congr 1
  by_cases h : hit Sy Bi Ba ((p / N : Nat) : Int) (p % N) u = true
  · rw [if_pos h]
    obtain ⟨a, b, c⟩ := hit_yes.1 h
    exact if_pos ⟨by omega, b, c⟩
  · rw [if_neg h]
    refine if_neg (fun ⟨a, b, c⟩ => h (hit_yes.2 ⟨by omega, b, c⟩))
theorem seenK_step {N : Nat} {Sy Bi : Nat → Nat} {Ba : Nat → Int} {u k q p0 : Nat} (hN : 0 < N) (hq : Ba u = q) (hk : q + k < N) (hp0 : p0 = Sy u * N + q + k) (p : Nat) : seenK N Sy Bi Ba u (k + 1) p = if p = p0 then seenK N Sy Bi Ba u k p + 1 else seenK N Sy Bi Ba u k p := by
  unfold seenK
  rw [hq]
  have hd : p0 / N = Sy u := by rw [hp0, Nat.add_assoc, Nat.mul_comm, Nat.mul_add_div hN, Nat.div_eq_of_lt hk]; omega
  have hm : p0 % N = q + k := by rw [hp0, Nat.add_assoc, Nat.mul_comm, Nat.mul_add_mod, Nat.mod_eq_of_lt hk]
  by_cases e : p = p0
  · subst e
    rw [if_pos rfl, hd, hm, if_pos (by omega), if_neg (by omega)]
  · rw [if_neg e]
    congr 1
    by_cases h1 : Sy u = p / N ∧ (q : Int) ≤ ((p % N : Nat) : Int) ∧ ((p % N : Nat) : Int) < (q : Int) + (k : Nat)
    · rw [if_pos h1, if_pos (by omega)]
    · rw [if_neg h1, if_neg]
      rintro ⟨a, b, c⟩
      refine h1 ⟨a, b, ?_⟩
      apply Classical.byContradiction
      intro h2
      apply e
      have h3 := Nat.div_add_mod p N
      rw [← a] at h3
      rw [hp0, Nat.mul_comm (Sy u)]
      omega
theorem seenF_all {c : Nat → Int} {n L s k : Nat} (hok : normOk c n (L : Int) = true) (hs : s < n) (hk : k < 2 ^ L) :
    seenF (2 ^ L) (symU (natM (normZ c n L)) n L) (fun u => bitsU L (xU (natM (normZ c n L)) (symU (natM (normZ c n L)) n L) u)) (fun u => baseU L (xU (natM (normZ c n L)) (symU (natM (normZ c n L)) n L) u)) (2 ^ L) (s * 2 ^ L + k) = if 0 < normZ c n L s then 1 else 0 := by
  have hiso := (norm_spec _ _ _ hok).2.2.2
  obtain ⟨h5, h9, hn32, hn0, hzm, hsum⟩ := isOk_nat hiso
  have hp := Nat.two_pow_pos L
  have hd : (s * 2 ^ L + k) / 2 ^ L = s := by rw [Nat.mul_comm, Nat.mul_add_div hp, Nat.div_eq_of_lt hk]; omega
  have hm : (s * 2 ^ L + k) % 2 ^ L = k := by rw [Nat.mul_comm, Nat.mul_add_mod, Nat.mod_eq_of_lt hk]
  unfold seenF
  rw [hd, hm]
  by_cases h0 : 0 < normZ c n L s
  · rw [if_pos h0]
    obtain ⟨u0, hu0, hh⟩ := hit_some h5 h9 (natM (normZ c n L)) hsum s k hs (by unfold natM; omega) hk
    rw [sumN_congr (g := fun u => if u = u0 then 1 else 0) (fun u hu => by
      by_cases e : u = u0
      · subst e; rw [if_pos hh, if_pos rfl]
      · rw [if_neg e, if_neg]
        intro h
        obtain ⟨a1, a2⟩ := (hit_is (natM (normZ c n L)) _ _ _).1 h
        obtain ⟨b1, b2⟩ := (hit_is (natM (normZ c n L)) _ _ _).1 hh
        exact e (span_one h5 h9 (natM (normZ c n L)) hsum k u u0 hu hu0 (by omega) a2 b2)), sumN_one (fun _ => 1) u0, if_pos hu0]
  · rw [if_neg h0]
    rw [sumN_congr (g := fun _ => 0) (fun u hu => if_neg (fun h => by
      obtain ⟨a1, _⟩ := (hit_is (natM (normZ c n L)) _ _ _).1 h
      have h2 := (symU_lt h5 h9 (natM (normZ c n L)) hsum u hu).2
      have h3 : symU (natM (normZ c n L)) n L u = s := by omega
      rw [h3] at h2
      unfold natM at h2; omega)), sumN_zero]
theorem seenF_le {N : Nat} {Sy Bi : Nat → Nat} {Ba : Nat → Int} (p : Nat) : ∀ u, seenF N Sy Bi Ba u p ≤ u
  | 0 => Nat.le_refl _
  | u + 1 => by
    have := seenF_le (N := N) (Sy := Sy) (Bi := Bi) (Ba := Ba) p u
    unfold seenF at this ⊢
    rw [sumN]
    split <;> omega
theorem seenK_le {N : Nat} {Sy Bi : Nat → Nat} {Ba : Nat → Int} (u k p : Nat) : seenK N Sy Bi Ba u k p ≤ u + 1 := by
  have := seenF_le (N := N) (Sy := Sy) (Bi := Bi) (Ba := Ba) p u
  unfold seenK
  split <;> omega
theorem make_prod (N n M : Nat) (hM : N * n = M) (hb : M ≤ 1000000) (w : World) : (Instr.makeSlice 22 (.int .i64 ((N : Int) * (n : Int))) (.int .i64 ((N : Int) * (n : Int)))).run Try.prog w = .ok (.slice (some ⟨w.heap.size, 0, none⟩) M M) (w.alloc (.cells (tabI M (fun _ => 0)) 3)) := by
  have h := make_ints M hb w
  have e : ((N : Int) * (n : Int)) = (M : Int) := by rw [← hM]; simp
  rw [e]; exact h
theorem wrap_mul {a b M : Nat} (h : a * b = M) (hM : M ≤ 1000000) : wrap64 ((a : Int) * (b : Int)) = (M : Int) := by
  have e : ((a : Int) * (b : Int)) = (M : Int) := by rw [← h]; simp
  rw [e]; unfold wrap64; omega
theorem wrap_muli {a b M : Nat} (h : a * b = M) (hM : M ≤ 1000000) : IntKind.i64.wrap ((a : Int) * (b : Int)) = (M : Int) := by
  have e : ((a : Int) * (b : Int)) = (M : Int) := by rw [← h]; simp
  rw [e]; exact IntWalk.i64_in _ (by omega)
theorem wrap_add {a b M : Nat} (h : a + b = M) (hM : M ≤ 1000000) : wrap64 ((a : Int) + (b : Int)) = (M : Int) := by unfold wrap64; omega
theorem wrap_addi {a b M : Nat} (h : a + b = M) (hM : M ≤ 1000000) : IntKind.i64.wrap ((a : Int) + (b : Int)) = (M : Int) := by rw [IntWalk.i64_in _ (by omega)]; omega
theorem small_mul {a b c d : Nat} (h1 : a ≤ c) (h2 : b ≤ d) : a * b ≤ c * d := Nat.mul_le_mul h1 h2

theorem span_facts {N L l0 u : Nat} {Sy Bi : Nat → Nat} {Ba : Nat → Int} (T : TabOk N Sy Bi Ba) (hu : u < N) (hsy : Sy u < l0) (hbl : Bi u ≤ L) :
    ∃ x yy q P : Nat, Sy u = x ∧ Bi u = yy ∧ Ba u = q ∧ 2 ^ yy = P ∧ q + P ≤ N ∧ wrap64 ((2 : Int) ^ yy) = (P : Int) ∧ IntKind.u64.wrap (yy : Int) = yy ∧ (yy : Int) ≤ 64 ∧ x < l0 ∧ ¬ l0 ≤ x ∧ yy ≤ L ∧ ¬ L < yy := by
  have h1 := T.bi u hu
  have h2 := T.lo u hu
  have h3 := T.hi u hu
  obtain ⟨P, hP⟩ : ∃ P : Nat, 2 ^ Bi u = P := ⟨_, rfl⟩
  rw [hP] at h3
  have h4 := wrap_pow (Bi u) (by omega)
  rw [hP] at h4
  exact ⟨Sy u, Bi u, (Ba u).toNat, P, rfl, rfl, by omega, hP, by omega, h4, wrapU _ (by omega), by omega, hsy, by omega, hbl, by omega⟩
theorem u_small {u N : Nat} (h : u < N) (h2 : N ≤ 512) : u ≤ 100000 := by omega
/-- The place where one more is counted. -/
theorem cell_facts {N M l0 x q P k : Nat} (hM : N * l0 = M) (hM1 : M ≤ 16384) (hN : N ≤ 512) (hx : x < l0) (hqP : q + P ≤ N) (hk : k < P) :
    ∃ xN xq p0 qk : Nat, wrap64 ((x : Int) * (N : Int)) = (xN : Int) ∧ IntKind.i64.wrap ((x : Int) * (N : Int)) = (xN : Int) ∧ wrap64 ((xN : Int) + (q : Int)) = (xq : Int) ∧ IntKind.i64.wrap ((xN : Int) + (q : Int)) = (xq : Int) ∧ wrap64 ((xq : Int) + (k : Int)) = (p0 : Int) ∧ IntKind.i64.wrap ((xq : Int) + (k : Int)) = (p0 : Int) ∧
      wrap64 ((q : Int) + (k : Int)) = (qk : Int) ∧ p0 = x * N + q + k ∧ p0 < M ∧ q + k < N ∧ qk < N ∧ ¬ N ≤ qk := by
  have h1 : (x + 1) * N ≤ l0 * N := Nat.mul_le_mul_right _ hx
  rw [Nat.mul_comm l0, hM, Nat.add_mul] at h1
  obtain ⟨xN, hxN⟩ : ∃ y, x * N = y := ⟨_, rfl⟩
  rw [hxN] at h1 ⊢
  refine ⟨xN, xN + q, xN + q + k, q + k, wrap_mul hxN (by omega), wrap_muli hxN (by omega), wrap_add rfl (by omega), wrap_addi rfl (by omega), wrap_add rfl (by omega), wrap_addi rfl (by omega), wrap_add rfl (by omega), rfl, by omega, by omega, by omega, by omega⟩
theorem cell2_facts {N M l0 s k : Nat} (hM : N * l0 = M) (hM1 : M ≤ 16384) (hs : s < l0) (hk : k < N) :
    ∃ sN p0 : Nat, wrap64 ((s : Int) * (N : Int)) = (sN : Int) ∧ IntKind.i64.wrap ((s : Int) * (N : Int)) = (sN : Int) ∧ wrap64 ((sN : Int) + (k : Int)) = (p0 : Int) ∧ IntKind.i64.wrap ((sN : Int) + (k : Int)) = (p0 : Int) ∧ p0 = s * N + k ∧ p0 < M := by
  have h1 : (s + 1) * N ≤ l0 * N := Nat.mul_le_mul_right _ hs
  rw [Nat.mul_comm l0, hM, Nat.add_mul] at h1
  obtain ⟨sN, hsN⟩ : ∃ y, s * N = y := ⟨_, rfl⟩
  rw [hsN] at h1 ⊢
  exact ⟨sN, sN + k, wrap_mul hsN (by omega), wrap_muli hsN (by omega), wrap_add rfl (by omega), wrap_addi rfl (by omega), rfl, by omega⟩
theorem meas_k {k P : Nat} (h : k < P) : P - (intOf (Value.int .i64 ((k : Int) + 1))).toNat < P - (intOf (Value.int .i64 (k : Int))).toNat := meas_u h

set_option maxHeartbeats 4000000 in
theorem FseSpans_in (w : World) (a0 : Option Addr) (b0 o0 l0 c0 : Nat) (z0 : Nat → Int) (w0 : IntsIn .i64 w a0 b0 o0 l0 c0 z0) (hl : l0 ≤ 32) (a1 : Int) :
    Calls Try.prog 6 #[.slice a0 l0 c0, .int .i64 a1] w fun e w' => e = .returned (.bool true) ∧ Below w.heap.size w w' := by
  have q0 : decide ((32 : Int) < (l0 : Int)) = false := by simp; omega
  have W0 := Lib.hid (ints_of w0)
  clear w0
  cases hok : normOk z0 l0 a1 with
  | false =>
    have HOK := Lib.hid hok
    clear hok
    go_enter Try.func6, Try.ntmps6
    go_wp2_with fail
    refine (rnorm_no a0 b0 o0 l0 c0 z0 a1 _ W0.out (by omega) HOK.out).mono ?_
    rintro e w3 ⟨rfl, rfl⟩
    go_wp2_with fail
    go_ret
    exact ⟨rfl, Below.refl _ _⟩
  | true =>
    obtain ⟨L, rfl, h5, h9, hn⟩ := normOk_log hok
    have hiso := (norm_spec _ _ _ hok).2.2.2
    obtain ⟨-, -, -, hn0, hzm, hsum⟩ := isOk_nat hiso
    have T := tabOk_is h5 h9 (natM (normZ z0 l0 L)) hsum hn
    have hsy := fun u (hu : u < 2 ^ L) => (symU_lt h5 h9 (natM (normZ z0 l0 L)) hsum u hu).1
    have hbiL := fun u (hu : u < 2 ^ L) => by have h := xU_bd h5 h9 (natM (normZ z0 l0 L)) hsum u hu; exact (span_in h.1 h.2.2.2).2.2
    have hall := fun s k (hs : s < l0) (hk : k < 2 ^ L) => seenF_all (c := z0) hok hs hk
    have htb := fun w b h => table_yes (some ⟨b, 0, none⟩) b 0 l0 l0 L (normZ z0 l0 L) w h hiso
    have hrn := fun w h => rnorm_yes a0 b0 o0 l0 c0 L z0 w h hok
    have hzp := fun i (hi : i < l0) => (norm_spec _ _ _ hok).2.1 i hi
    have hzt := fun i (hi : i < l0) => (hzm i hi)
    have hp := wrap_pow L (by omega)
    obtain ⟨zn, hzn⟩ : ∃ f, normZ z0 l0 L = f := ⟨_, rfl⟩
    rw [hzn] at T hsy hbiL htb hrn hzp hzt
    simp only [hzn] at hall
    obtain ⟨Ba, hBa⟩ : ∃ f, (fun u => baseU L (xU (natM zn) (symU (natM zn) l0 L) u)) = f := ⟨_, rfl⟩
    obtain ⟨Bi, hBi⟩ : ∃ f, (fun u => bitsU L (xU (natM zn) (symU (natM zn) l0 L) u)) = f := ⟨_, rfl⟩
    have hbiL2 : ∀ u, u < 2 ^ L → Bi u ≤ L := fun u hu => by rw [← hBi]; exact hbiL u hu
    obtain ⟨Sy, hSy⟩ : ∃ f, symU (natM zn) l0 L = f := ⟨_, rfl⟩
    rw [hBa, hBi, hSy] at T htb
    simp only [hBa] at hall
    simp only [hBi] at hall
    simp only [hSy] at hall
    rw [hSy] at hsy
    obtain ⟨N, hN⟩ : ∃ N : Nat, 2 ^ L = N := ⟨_, rfl⟩
    have hN0 : 0 < N := by rw [← hN]; exact Nat.two_pow_pos L
    rw [hN] at T hsy htb hbiL2 hp
    simp only [hN] at hall
    have hN512 := T.size
    obtain ⟨M, hM⟩ : ∃ M, N * l0 = M := ⟨_, rfl⟩
    have hM1 : M ≤ 16384 := by rw [← hM]; exact small_mul hN512 hn
    have hmk := fun w => make_ints M (by omega) w
    have fM := wrap_mul hM (by omega)
    have fMi := wrap_muli hM (by omega)
    have fL : IntKind.u64.wrap (L : Int) = L := wrapU L (by omega)
    have fL0 : (0 : Int) ≤ L := Int.natCast_nonneg _
    have fL64 : (L : Int) ≤ 64 := by omega
    have fLd : decide ((L : Int) < 0) = false := by simp
    have HT := Lib.hid T
    have HSY := Lib.hid hsy
    have HBL := Lib.hid hbiL2
    have HALL := Lib.hid hall
    have HTB := Lib.hid htb
    have HRN := Lib.hid hrn
    have HZP := Lib.hid hzp
    have HM := Lib.hid hM
    have HM1 := Lib.hid hM1
    have HN0 := Lib.hid hN0
    have HNN := Lib.hid hN512
    have HL0 := Lib.hid hl
    clear hok hiso hzm hsum T hsy hbiL hbiL2 hall htb hrn hzp hzt hzn hBa hBi hSy hN hM hM1 hN0 hn0 h5 h9 hn hl
    go_enter Try.func6, Try.ntmps6
    go_wp2_with fail
    refine (HRN.out _ W0.out).mono ?_
    rintro e w3 ⟨rfl, hh3, t3⟩
    have T3 := Lib.hid t3
    have HI3 := Lib.hid (tab_ints hh3)
    obtain ⟨G3, hG3⟩ : ∃ g, w.heap.size = g := ⟨_, rfl⟩
    rw [hG3] at HI3 ⊢
    clear t3 hh3
    go_wp2_with fail
    refine (HTB.out _ _ HI3.out).mono ?_
    rintro e w4 ⟨g, rfl, hg, htab, t4⟩
    have T4 := Lib.hid (T3.out.trans t4)
    have HI4 := Lib.hid (HI3.out.touch t4)
    have HTab := Lib.hid htab
    clear t4 htab
    go_wp2_with fail
    have TT := T4.out.alloc (.cells (tabI M (fun _ => 0)) 3)
    have hrow0 := tab_rowAt (heap_alloc_new w4 (.cells (tabI M (fun _ => 0)) 3))
    have HTab5 := RowAt.touch HTab.out (Touch.new w4 (.cells (tabI M (fun _ => 0)) 3)) id
    have HI5 := HI4.out.touch (Touch.new w4 (.cells (tabI M (fun _ => 0)) 3))
    obtain ⟨w5, hw5⟩ : ∃ w5, w4.alloc (.cells (tabI M (fun _ => 0)) 3) = w5 := ⟨_, rfl⟩
    have hSs : w4.heap.size < w5.heap.size := by rw [← hw5]; simp
    rw [hw5] at TT hrow0 HTab5 HI5 ⊢
    obtain ⟨SB, hSB⟩ : ∃ g, w4.heap.size = g := ⟨_, rfl⟩
    rw [hSB] at hrow0 hSs ⊢
    have hSw : w.heap.size ≤ SB := by have := T4.out.size; omega
    have hgS : g < SB := by have := RowAt.lt HTab.out; omega
    have hG3S : 0 < l0 → G3 < SB := fun e => by have := ints_lt HI4.out e; omega
    have HSW := Lib.hid hSw
    have HGS := Lib.hid hgS
    have HG3S := Lib.hid hG3S
    have HR0 := Lib.hid hrow0
    have TT0 := Lib.hid TT
    have HTB5 := Lib.hid HTab5
    have HI50 := Lib.hid HI5
    clear hw5 hSB hSw hgS hG3S hG3 hmk fM fMi TT hrow0 HTab5 HI5 HTab hSs q0 hg hN512
    simp only [hp]
    go_loopw [11, 12] (fun i _ wr => ∃ u : Nat, u ≤ N ∧ i = .int .i64 u ∧ RowAt wr SB 3 M (fun p => .int .i64 (seenF N Sy Bi Ba u p : Nat)) ∧ TabAt wr g N Sy Bi Ba ∧ Ints .i64 wr (some ⟨G3, 0, none⟩) G3 0 l0 zn ∧ Touch (fun _ => False) w wr) (fun i _ _ => N - (intOf i).toNat)
    case atStart => exact ⟨0, by omega, rfl, HR0.out, HTB5.out, HI50.out, TT0.out⟩
    case round =>
      obtain ⟨u, hu, rfl, hrow, htab, hints, ht⟩ := hrel
      have HRow := Lib.hid hrow
      have HTab := Lib.hid htab
      have HInts := Lib.hid hints
      have HTo := Lib.hid ht
      clear hrow htab hints ht HR0 HTB5 HI50 TT0
      by_cases hlt : u < N
      · obtain ⟨k1, k2, k3⟩ := TabAt.get HTab.out hlt
        have hK0 := fun p => seenK_zero N Sy Bi Ba u p
        have hKe := fun p => seenK_end N Sy Bi Ba u p
        obtain ⟨x, yy, q, P, hx, hy, hq, hP, hqP, fpy, fy, fy64, hxl, hxn, hyl, hyn⟩ := span_facts HT.out hlt (HSY.out u hlt) (HBL.out u hlt)
        have hKs := fun k (h : q + k < N) p0 (h2 : p0 = x * N + q + k) p => seenK_step (Sy := Sy) (Bi := Bi) (k := k) (p0 := p0) HN0.out hq h (by rw [hx]; exact h2) p
        rw [hx] at k1
        rw [hy] at k2 hKe
        rw [hq] at k3
        rw [hP] at hKe
        have fyd : decide ((yy : Int) < 0) = false := by simp
        have fy0 : (0 : Int) ≤ yy := Int.natCast_nonneg _
        have fu1 := wrap_suc u (u_small hlt HNN.out)
        have HMM := Lib.hid (meas_u hlt)
        have HKS := Lib.hid hKs
        have HKE := Lib.hid hKe
        have HRK := Lib.hid (HRow.out.congr (G := fun p => .int .i64 (seenK N Sy Bi Ba u 0 p : Nat)) (fun i hi => by rw [hK0 i]))
        have HXL := Lib.hid hxl
        have HQP := Lib.hid hqP
        have HU := Lib.hid fu1
        have HLT := Lib.hid hlt
        have HSX := Lib.hid hx
        have HBX := Lib.hid hy
        have HAX := Lib.hid hq
        clear hx hy hq hP hK0 hKe hKs hqP fu1
        go_wp2_with fail
        clear hxl hxn hyl hyn fL fL0 fL64 fLd k1 k2 k3
        go_loopw [12] (fun i w2 => ∃ k : Nat, k ≤ P ∧ i = .int .i64 k ∧ RowAt w2 SB 3 M (fun p => .int .i64 (seenK N Sy Bi Ba u k p : Nat)) ∧ TabAt w2 g N Sy Bi Ba ∧ Ints .i64 w2 (some ⟨G3, 0, none⟩) G3 0 l0 zn ∧ Touch (fun _ => False) w w2) (fun i _ => P - (intOf i).toNat)
        case atStart => exact ⟨0, Nat.zero_le _, rfl, HRK.out, HTab.out, HInts.out, HTo.out⟩
        case round =>
          obtain ⟨k, hk, rfl, hrow2, htab2, hints2, ht2⟩ := hrel
          have HRow2 := Lib.hid hrow2
          have HTab2 := Lib.hid htab2
          have HInts2 := Lib.hid hints2
          have HTo2 := Lib.hid ht2
          obtain ⟨k1, k2, k3⟩ := TabAt.get htab2 HLT.out
          rw [show Sy u = x from HSX.out] at k1
          rw [show Bi u = yy from HBX.out] at k2
          rw [show Ba u = q from HAX.out] at k3
          clear hrow2 htab2 hints2 ht2
          by_cases hkP : k < P
          · obtain ⟨xN, xq, p0, qk, f1, f1i, f2, f2i, f3, f3i, f4, hp0, hp0M, hqk, hqkN, hqkn⟩ := cell_facts HM.out HM1.out HNN.out HXL.out HQP.out hkP
            have hqkN' : k < N := Nat.lt_of_le_of_lt (Nat.le_add_left k q) hqk
            have c1 := RowAt.get HRow2.out hp0M
            have fr1 := RowAt.free HRow2.out p0
            obtain ⟨cc, hcc⟩ : ∃ cc, seenK N Sy Bi Ba u k p0 = cc := ⟨_, rfl⟩
            have hcs : cc ≤ 100000 := by rw [← hcc]; exact Nat.le_trans (seenK_le u k p0) (Nat.le_trans (Nat.succ_le_of_lt HLT.out) (Nat.le_trans HNN.out (by decide)))
            have fc := wrap_suc cc hcs
            have hset : RowAt (wr.setCell ⟨SB, p0, none⟩ (.int .i64 ((cc : Int) + 1))) SB 3 M (fun p => .int .i64 (seenK N Sy Bi Ba u (k + 1) p : Nat)) := (RowAt.set HRow2.out p0 (.int .i64 ((cc : Int) + 1))).congr (fun i hi => by
              rw [HKS.out k hqk p0 hp0 i]
              by_cases e : i = p0
              · subst e; rw [if_pos rfl, if_pos rfl, hcc]; rfl
              · rw [if_neg e, if_neg e])
            have HSET := Lib.hid hset
            have fk1 := wrap_suc k (u_small hqkN' HNN.out)
            have HFK := Lib.hid fk1
            have HMK := Lib.hid (meas_k hkP)
            have HKP := Lib.hid hkP
            have g3 : ¬ SB = g := by have := HGS.out; omega
            have HTAB3 := Lib.hid (show TabAt (wr.setCell ⟨SB, p0, none⟩ (.int .i64 ((cc : Int) + 1))) g N Sy Bi Ba from RowAt.other HTab2.out (fun e => g3 e.symm) p0 _)
            have HI3' := Lib.hid (HInts2.out.touchS ((Touch.refl (· = SB) wr).setCell (p := ⟨SB, p0, none⟩) (fun _ => rfl) (.int .i64 ((cc : Int) + 1))) (fun h e => by have := HG3S.out h; omega))
            have HT3' := Lib.hid (HTo2.out.setCell (p := ⟨SB, p0, none⟩) (fun h => absurd h (Nat.not_lt.2 HSW.out)) (.int .i64 ((cc : Int) + 1)))
            rw [hcc] at c1
            clear hcc hcs hset hp0 g3 fk1 hqkN'
            go_wp2_with fail
            go_region
            all_goals go_wp2_with fail
            all_goals go_roundw
            all_goals first | (case rel => exact ⟨k + 1, HKP.out, by first | rfl | (rw [HFK.out]; go_num) | go_num, RowAt.drewI HSET.out, RowAt.drewI HTAB3.out, HI3'.out.touch ((Touch.refl _ _).drew), HT3'.out.drew⟩) | skip
            all_goals first | (case measure => first | exact HMK.out | (rw [HFK.out]; exact HMK.out)) | skip
          · have hk2 : k = P := by omega
            subst hk2
            have HR4 := Lib.hid (HRow2.out.congr (G := fun p => .int .i64 (seenF N Sy Bi Ba (u + 1) p : Nat)) (fun i hi => by rw [HKE.out i]))
            have fu1 := HU.out
            clear hkP hk
            go_wp2_with fail
            go_roundw
            case rel => exact ⟨u + 1, HLT.out, by first | rfl | (rw [fu1]; go_num) | go_num, HR4.out, HTab2.out, HInts2.out, HTo2.out⟩
            case measure => first | exact HMM.out | (rw [fu1]; exact HMM.out)
      · obtain rfl : u = N := Nat.le_antisymm hu (Nat.not_lt.1 hlt)
        clear hlt hu
        go_wp2_with fail
        go_loopw [13, 14] (fun i _ w6 => ∃ s m : Nat, s ≤ l0 ∧ i = .int .i64 s ∧ w6 = wr.drewN m) (fun i _ _ => l0 - (intOf i).toNat)
        case atStart => exact ⟨0, 0, Nat.zero_le _, rfl, rfl⟩
        case round =>
          obtain ⟨s, m, hs, rfl, rfl⟩ := hrel
          by_cases hlt : s < l0
          · have fs1 := wrap_suc s (u_small hlt (Nat.le_trans HL0.out (by decide)))
            have HFS := Lib.hid fs1
            have HMS := Lib.hid (meas_u hlt)
            have HLS := Lib.hid hlt
            clear fs1 hs hlt
            go_wp2_with fail
            go_loopw [14] (fun i w7 => ∃ k m2 : Nat, k ≤ u ∧ i = .int .i64 k ∧ w7 = wr.drewN m2) (fun i _ => u - (intOf i).toNat)
            case atStart => exact ⟨0, m, Nat.zero_le _, rfl, rfl⟩
            case round =>
              obtain ⟨k, m2, hk, rfl, rfl⟩ := hrel
              by_cases hltk : k < u
              · obtain ⟨sN, p0, f1, f1i, f2, f2i, hp0, hp0M⟩ := cell2_facts HM.out HM1.out HLS.out hltk
                have c1 := RowAt.get HRow.out hp0M
                have c2 := HInts.out.cell s HLS.out
                rw [Nat.zero_add] at c2
                have hv := HALL.out s k HLS.out hltk
                rw [← hp0] at hv
                obtain ⟨zs, hzs⟩ : ∃ q, zn s = q := ⟨_, rfl⟩
                rw [hzs] at c2 hv
                have HMK := Lib.hid (meas_k hltk)
                have HFK := Lib.hid (wrap_suc k (u_small hltk HNN.out))
                have HLK := Lib.hid hltk
                have HP0 := Lib.hid hp0M
                by_cases hz0 : 0 < zs
                · rw [if_pos hz0] at hv
                  rw [hv] at c1
                  have e1 : ∀ m, (wr.drewN m).cell? ⟨SB, p0, none⟩ = some (.int .i64 1) := fun m => (Touch.eq_drewN (S := fun _ => False) wr m).cell c1 id
                  have e2 : ∀ m, (wr.drewN m).cell? ⟨G3, s, none⟩ = some (.int .i64 zs) := fun m => (Touch.eq_drewN (S := fun _ => False) wr m).cell c2 id
                  have d0 : decide ((0 : Int) < zs) = true := by simpa using hz0
                  have hls := HLS.out
                  clear c1 c2 hv hzs hp0 hz0 hk
                  go_wp2_with fail
                  go_quiet (fail)
                  go_wp2_with fail
                  go_roundw
                  case rel => exact ⟨k + 1, _, HLK.out, by first | rfl | (rw [HFK.out]; go_num) | go_num, rfl⟩
                  case measure => first | exact HMK.out | (rw [HFK.out]; exact HMK.out)
                · rw [if_neg hz0] at hv
                  rw [hv] at c1
                  have e1 : ∀ m, (wr.drewN m).cell? ⟨SB, p0, none⟩ = some (.int .i64 0) := fun m => (Touch.eq_drewN (S := fun _ => False) wr m).cell c1 id
                  have e2 : ∀ m, (wr.drewN m).cell? ⟨G3, s, none⟩ = some (.int .i64 zs) := fun m => (Touch.eq_drewN (S := fun _ => False) wr m).cell c2 id
                  have d0 : decide ((0 : Int) < zs) = false := by simpa using hz0
                  have hls := HLS.out
                  clear c1 c2 hv hzs hp0 hz0 hk
                  go_wp2_with fail
                  go_quiet (fail)
                  go_wp2_with fail
                  go_roundw
                  case rel => exact ⟨k + 1, _, HLK.out, by first | rfl | (rw [HFK.out]; go_num) | go_num, rfl⟩
                  case measure => first | exact HMK.out | (rw [HFK.out]; exact HMK.out)
              · obtain rfl : k = u := Nat.le_antisymm hk (Nat.not_lt.1 hltk)
                have fs1 := HFS.out
                clear hltk hk
                go_wp2_with fail
                go_roundw
                case rel => exact ⟨s + 1, _, HLS.out, by first | rfl | (rw [fs1]; go_num) | go_num, rfl⟩
                case measure => first | exact HMS.out | (rw [fs1]; exact HMS.out)
          · obtain rfl : s = l0 := Nat.le_antisymm hs (Nat.not_lt.1 hlt)
            clear hlt hs
            go_wp2_with fail
            refine (known_walk _).mono ?_
            rintro e w8 ⟨rfl, t8⟩
            go_wp2_with fail
            go_ret
            exact ⟨rfl, ((HTo.out.drewN m).trans t8).owned⟩
theorem FseSpans_law (w : World) (a0 : Option Addr) (b0 o0 l0 c0 : Nat) (z0 : Nat → Int) (w0 : IntsIn .i64 w a0 b0 o0 l0 c0 z0) (a1 : Int) (w1 : (Lit.int .i64 a1).wf = true) :
    Calls Try.prog 6 #[.slice a0 l0 c0, .int .i64 a1] w fun e w' => e = .returned (.bool true) ∧ Below w.heap.size w w' := by
  by_cases hl : 32 < l0
  · clear w0 w1
    have q0 : decide ((32 : Int) < (l0 : Int)) = true := by simp; omega
    go_enter Try.func6, Try.ntmps6
    go_wp2_with fail
    go_ret
    exact ⟨rfl, Below.refl _ _⟩
  · exact FseSpans_in w a0 b0 o0 l0 c0 z0 w0 (by omega) a1
end Go.Proofs.Ytaacphmbkieacaa
