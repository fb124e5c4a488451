/- fse: a symbol's state: find, IndexFunc. -/
import Derived.Test.YtaacphmbkieacaaFaM
import Derived.Test.YtaacphmbkieacaaFsC
namespace Go.Proofs.Ytaacphmbkieacaa
open Go.RowKit Go.WideShapes Fs
set_option linter.unusedVariables false
set_option linter.unusedSimpArgs false
set_option maxRecDepth 100000

theorem pow_small {y : Nat} (h : y ≤ 9) : 2 ^ y ≤ 512 := by
  have := Nat.pow_le_pow_right (show 0 < 2 by omega) h; omega
theorem wrap_q {q : Int} {P : Nat} (h0 : 0 ≤ q) (h1 : q ≤ 512) (h2 : P ≤ 512) : wrap64 (q + (P : Int)) = q + P := by unfold wrap64; omega
theorem wrap_qi {q : Int} {P : Nat} (h0 : 0 ≤ q) (h1 : q ≤ 512) (h2 : P ≤ 512) : IntKind.i64.wrap (q + (P : Int)) = q + P := IntWalk.i64_in _ (by omega)

set_option maxHeartbeats 1000000 in
theorem find_walk (g c N : Nat) (Sy Bi : Nat → Nat) (Ba : Nat → Int) (s : Int) (t : Nat) (w : World) (T : TabOk N Sy Bi Ba) (h : TabAt w g N Sy Bi Ba) :
    Calls Try.prog 44 #[.slice (some ⟨g, 0, none⟩) N c, .int .i64 s, .int .i64 t] w fun e w' => e = .returned (.int .i64 (firstI (hit Sy Bi Ba s t) N)) ∧ ∃ m, w' = w.drewN m := by
  have H1 := Lib.hid h
  have HT := Lib.hid T
  have hN := T.size
  obtain ⟨R, hR⟩ : ∃ R, firstI (hit Sy Bi Ba s t) N = R := ⟨_, rfl⟩
  rw [hR]
  have HR := Lib.hid hR
  clear h T hR
  go_enter Try.func44, Try.ntmps44
  go_wp2_with fail
  go_loopw [7] (fun i wr => ∃ k m : Nat, k ≤ N ∧ i = .int .i64 k ∧ wr = w.drewN m ∧ firstU (hit Sy Bi Ba s t) k = none) (fun i _ => N - (intOf i).toNat)
  case atStart => exact ⟨0, 0, by omega, rfl, rfl, rfl⟩
  case round =>
    obtain ⟨k, m, hk, rfl, rfl, hf⟩ := hrel
    by_cases hlt : k < N
    · obtain ⟨k1, k2, k3⟩ := TabAt.get H1.out hlt
      have hbi := HT.out.bi k hlt
      have hlo := HT.out.lo k hlt
      have hhi := HT.out.hi k hlt
      have hh : hit Sy Bi Ba s t k = (decide ((Sy k : Int) = s) && (decide (Ba k ≤ (t : Int)) && decide ((t : Int) < Ba k + ((2 ^ Bi k : Nat) : Int)))) := rfl
      have hst := firstU_step hf
      obtain ⟨x, hx⟩ : ∃ x : Int, (Sy k : Int) = x := ⟨_, rfl⟩
      obtain ⟨y, hy⟩ : ∃ x : Nat, Bi k = x := ⟨_, rfl⟩
      obtain ⟨q, hq⟩ : ∃ x : Int, Ba k = x := ⟨_, rfl⟩
      rw [hx] at k1
      rw [hy] at k2 hbi hhi
      rw [hq] at k3 hlo hhi
      rw [hx, hy, hq] at hh
      have hp := wrap_pow y (by omega)
      have hps := pow_small hbi
      obtain ⟨P, hP⟩ : ∃ P : Nat, 2 ^ y = P := ⟨_, rfl⟩
      rw [hP] at hp hps hhi hh
      have e1 : ∀ m, (w.drewN m).cell? ⟨g, k * 3, none⟩ = some (.int .i64 x) := fun m => (Touch.eq_drewN (S := fun _ => False) w m).cell k1 id
      have e2 : ∀ m, (w.drewN m).cell? ⟨g, k * 3 + 1, none⟩ = some (.int .i64 y) := fun m => (Touch.eq_drewN (S := fun _ => False) w m).cell k2 id
      have e3 : ∀ m, (w.drewN m).cell? ⟨g, k * 3 + 2, none⟩ = some (.int .i64 q) := fun m => (Touch.eq_drewN (S := fun _ => False) w m).cell k3 id
      have fq := wrap_q (q := q) (P := P) hlo (by omega) hps
      have fqi := wrap_qi (q := q) (P := P) hlo (by omega) hps
      have fy : IntKind.u64.wrap (y : Int) = y := wrapU y (by omega)
      have fd : decide ((y : Int) < 0) = false := by simp
      have fb0 : (0 : Int) ≤ y := Int.natCast_nonneg _
      have fb64 : (y : Int) ≤ 64 := by omega
      have HST := Lib.hid hst
      have HH := Lib.hid hh
      have HF := Lib.hid hf
      have hR2 : firstU (hit Sy Bi Ba s t) (k + 1) = some k → R = k := fun h => by rw [← HR.out]; exact firstI_some (firstU_mono h hlt)
      have HR2 := Lib.hid hR2
      clear k1 k2 k3 hx hy hq hst hh hf hP hhi hps hbi hlo hR2
      have hno : hit Sy Bi Ba s t k = false → firstU (hit Sy Bi Ba s t) (k + 1) = none := fun h => by rw [HST.out, h]; rfl
      have HNO := Lib.hid hno
      clear hno
      have hm : N - (intOf (Value.int .i64 ((k : Int) + 1))).toNat < N - (intOf (Value.int .i64 (k : Int))).toNat := meas_u hlt
      have HM := Lib.hid hm
      clear hm
      have fu1 := wrap_suc k (by omega)
      by_cases c1 : x = s
      · subst c1
        by_cases c2 : q ≤ (t : Int)
        · have d2 : decide (q ≤ (t : Int)) = true := by simpa using c2
          by_cases c3 : (t : Int) < q + P
          · have d3 : decide ((t : Int) < q + P) = true := by simpa using c3
            have hyes : hit Sy Bi Ba x t k = true := by rw [HH.out, d2, d3]; simp
            have hfin := HR2.out (by rw [HST.out, hyes]; rfl)
            subst hfin
            clear hyes c2 c3
            go_wp2_with fail
            go_quiet (fail)
            go_wp2_with fail
            go_ret
            exact ⟨rfl, _, World.drewN_drewN _ _ _⟩
          · have d3 : decide ((t : Int) < q + P) = false := by simpa using c3
            have hh := HNO.out (by rw [HH.out, d3]; simp)
            have HG := Lib.hid hh
            clear hh c2 c3
            go_wp2_with fail
            go_quiet (fail)
            go_wp2_with fail
            go_roundw
            case rel => exact ⟨k + 1, _, by omega, by go_num, rfl, HG.out⟩
            case measure => exact HM.out
        · have d2 : decide (q ≤ (t : Int)) = false := by simpa using c2
          have hh := HNO.out (by rw [HH.out, d2]; simp)
          have HG := Lib.hid hh
          clear hh c2
          go_wp2_with fail
          go_quiet (fail)
          go_wp2_with fail
          go_roundw
          case rel => exact ⟨k + 1, _, by omega, by go_num, rfl, HG.out⟩
          case measure => exact HM.out
      · have d1 : (x == s) = false := by simpa using c1
        have hh := HNO.out (by rw [HH.out, decide_eq_false c1]; rfl)
        have HG := Lib.hid hh
        clear hh c1
        go_wp2_with fail
        go_quiet (fail)
        go_wp2_with fail
        go_roundw
        case rel => exact ⟨k + 1, _, by omega, by go_num, rfl, HG.out⟩
        case measure => exact HM.out
    · obtain rfl : k = N := by omega
      have hR3 : R = -1 := by rw [← HR.out]; exact firstI_none hf
      subst hR3
      clear hf
      go_wp2_with fail
      go_ret
      exact ⟨rfl, m, rfl⟩
end Go.Proofs.Ytaacphmbkieacaa
