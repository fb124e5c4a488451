/- fse: IndexFunc over states. -/
import Derived.Test.YtaacphmbkieacaaFaN
namespace Go.Proofs.Ytaacphmbkieacaa
open Go.RowKit Go.WideShapes Fs
set_option linter.unusedVariables false
set_option linter.unusedSimpArgs false
set_option maxRecDepth 100000

theorem tab_top {N : Nat} {Sy Bi : Nat → Nat} {Ba : Nat → Int} (T : TabOk N Sy Bi Ba) {u : Nat} (hu : u < N) : Ba u ≤ 512 := by
  have h1 := T.hi u hu
  have h2 := T.size
  obtain ⟨P, hP⟩ : ∃ P : Nat, 2 ^ Bi u = P := ⟨_, rfl⟩
  rw [hP] at h1
  omega

set_option maxHeartbeats 1000000 in
/-- The closure: whether a state is the symbol's whose span has t. -/
theorem in_walk (x s q : Int) (t y gs gt : Nat) (w : World) (hs : w.cell? ⟨gs, 0, none⟩ = some (.int .i64 s)) (ht : w.cell? ⟨gt, 0, none⟩ = some (.int .i64 t)) (hbi : y ≤ 9) (hlo : 0 ≤ q) (hhi : q ≤ 512) (B : Bool) (hB : (decide (x = s) && (decide (q ≤ (t : Int)) && decide ((t : Int) < q + ((2 ^ y : Nat) : Int)))) = B) :
    Calls Try.prog 41 #[.agg #[.int .i64 x, .int .i64 y, .int .i64 q], .pointer (some ⟨gs, 0, none⟩), .pointer (some ⟨gt, 0, none⟩)] w fun e w' => e = .returned (.bool B) ∧ Touch (fun _ => False) w w' := by
  have TT := Lib.hid (Touch.new w (.cells #[.int .i64 x, .int .i64 y, .int .i64 q] 34))
  have hs2 := (Touch.new w (.cells #[.int .i64 x, .int .i64 y, .int .i64 q] 34)).cell hs id
  have ht2 := (Touch.new w (.cells #[.int .i64 x, .int .i64 y, .int .i64 q] 34)).cell ht id
  have hp := wrap_pow y (by omega)
  have hps := pow_small hbi
  obtain ⟨P, hP⟩ : ∃ P : Nat, 2 ^ y = P := ⟨_, rfl⟩
  rw [hP] at hp hps hB
  have fq := wrap_q (q := q) (P := P) hlo (by omega) hps
  have fqi := wrap_qi (q := q) (P := P) hlo (by omega) hps
  have fd : decide ((y : Int) < 0) = false := by simp
  have fb0 : (0 : Int) ≤ y := Int.natCast_nonneg _
  have fb64 : (y : Int) ≤ 64 := by omega
  have HB := Lib.hid hB
  clear hs ht hP hps hbi hlo hhi hB
  by_cases c1 : x = s
  · subst c1
    by_cases c2 : q ≤ (t : Int)
    · have d2 : decide (q ≤ (t : Int)) = true := by simpa using c2
      by_cases c3 : (t : Int) < q + P
      · have d3 : decide ((t : Int) < q + P) = true := by simpa using c3
        obtain rfl : true = B := by rw [← HB.out, d2, d3]; simp
        clear c2 c3
        go_enter Try.func41, Try.ntmps41
        go_wp2_with fail
        go_quiet (fail)
        go_wp2_with fail
        go_ret
        exact ⟨rfl, TT.out.drewN _⟩
      · have d3 : decide ((t : Int) < q + P) = false := by simpa using c3
        obtain rfl : false = B := by rw [← HB.out, d3]; simp
        clear c2 c3
        go_enter Try.func41, Try.ntmps41
        go_wp2_with fail
        go_quiet (fail)
        go_wp2_with fail
        go_ret
        exact ⟨rfl, TT.out.drewN _⟩
    · have d2 : decide (q ≤ (t : Int)) = false := by simpa using c2
      obtain rfl : false = B := by rw [← HB.out, d2]; simp
      clear c2
      go_enter Try.func41, Try.ntmps41
      go_wp2_with fail
      go_quiet (fail)
      go_wp2_with fail
      go_ret
      exact ⟨rfl, TT.out.drewN _⟩
  · have d1 : (x == s) = false := by simpa using c1
    obtain rfl : false = B := by rw [← HB.out, decide_eq_false c1]; rfl
    clear c1
    go_enter Try.func41, Try.ntmps41
    go_wp2_with fail
    go_quiet (fail)
    go_wp2_with fail
    go_ret
    exact ⟨rfl, TT.out.drewN _⟩

set_option maxHeartbeats 1000000 in
theorem index41 (g c N : Nat) (Sy Bi : Nat → Nat) (Ba : Nat → Int) (s : Int) (t gs gt : Nat) (w : World) (T : TabOk N Sy Bi Ba) (h : TabAt w g N Sy Bi Ba) (hs : w.cell? ⟨gs, 0, none⟩ = some (.int .i64 s)) (ht : w.cell? ⟨gt, 0, none⟩ = some (.int .i64 t)) :
    Calls Try.prog 40 #[.slice (some ⟨g, 0, none⟩) N c, .func (.func 41) #[] #[.pointer (some ⟨gs, 0, none⟩), .pointer (some ⟨gt, 0, none⟩)]] w fun e w' => e = .returned (.int .i64 (firstI (hit Sy Bi Ba s t) N)) ∧ Touch (fun _ => False) w w' := by
  have H1 := Lib.hid h
  have HT := Lib.hid T
  have HS := Lib.hid hs
  have HTT := Lib.hid ht
  have hN := T.size
  obtain ⟨R, hR⟩ : ∃ R, firstI (hit Sy Bi Ba s t) N = R := ⟨_, rfl⟩
  rw [hR]
  have HR := Lib.hid hR
  clear h T hR hs ht
  go_enter Try.func40, Try.ntmps40
  go_wp2_with fail
  go_loopw [5, 8] (fun _ i wr => ∃ k : Nat, k ≤ N ∧ i = .int .i64 k ∧ Touch (fun _ => False) w wr ∧ firstU (hit Sy Bi Ba s t) k = none) (fun _ i _ => N - (intOf i).toNat)
  case atStart => exact ⟨0, by omega, rfl, Touch.refl _ _, rfl⟩
  case round =>
    obtain ⟨k, hk, rfl, hw, hf⟩ := hrel
    have HW := Lib.hid hw
    by_cases hlt : k < N
    · obtain ⟨k1, k2, k3⟩ := TabAt.get (RowAt.touch H1.out hw id) hlt
      have hbi := HT.out.bi k hlt
      have hlo := HT.out.lo k hlt
      have hhi := HT.out.hi k hlt
      have hst := firstU_step hf
      have hR2 : firstU (hit Sy Bi Ba s t) (k + 1) = some k → R = k := fun h => by rw [← HR.out]; exact firstI_some (firstU_mono h hlt)
      have hcl := in_walk (Sy k) s (Ba k) t (Bi k) gs gt wr (hw.cell HS.out id) (hw.cell HTT.out id) hbi hlo (tab_top HT.out hlt) (hit Sy Bi Ba s t k) rfl
      obtain ⟨x, hx⟩ : ∃ x : Int, (Sy k : Int) = x := ⟨_, rfl⟩
      obtain ⟨y, hy⟩ : ∃ x : Nat, Bi k = x := ⟨_, rfl⟩
      obtain ⟨q, hq⟩ : ∃ x : Int, Ba k = x := ⟨_, rfl⟩
      rw [hx] at k1 hcl
      rw [hy] at k2 hcl
      rw [hq] at k3 hcl
      have HCL := Lib.hid hcl
      have HST := Lib.hid hst
      have HR2 := Lib.hid hR2
      clear hx hy hq hst hf hhi hbi hlo hR2 hcl hw
      have hm : N - (intOf (Value.int .i64 ((k : Int) + 1))).toNat < N - (intOf (Value.int .i64 (k : Int))).toNat := meas_u hlt
      have HM := Lib.hid hm
      clear hm
      have fu1 := wrap_suc k (by omega)
      cases hb : hit Sy Bi Ba s t k with
      | true =>
        obtain rfl := HR2.out (by rw [HST.out, hb]; rfl)
        have HB := Lib.hid hb
        clear hb
        go_wp2_with fail
        refine HCL.out.mono ?_
        rintro e w1 ⟨rfl, t1⟩
        rw [HB.out]
        go_wp2_with fail
        go_ret
        exact ⟨rfl, HW.out.trans t1⟩
      | false =>
        have hn : firstU (hit Sy Bi Ba s t) (k + 1) = none := by rw [HST.out, hb]; rfl
        have HB := Lib.hid hb
        have HG := Lib.hid hn
        clear hb hn
        go_wp2_with fail
        refine HCL.out.mono ?_
        rintro e w1 ⟨rfl, t1⟩
        rw [HB.out]
        go_wp2_with fail
        go_roundw
        case rel => exact ⟨k + 1, by omega, by go_num, HW.out.trans t1, HG.out⟩
        case measure => exact HM.out
    · obtain rfl : k = N := by omega
      obtain rfl : R = -1 := by rw [← HR.out]; exact firstI_none hf
      clear hf hw
      go_wp2_with fail
      go_ret
      exact ⟨rfl, HW.out⟩
end Go.Proofs.Ytaacphmbkieacaa
