/- The law PurseLess, walked. -/
import Derived.Test.YthpnppaighjhmaaC
import Derived.OpenShut
namespace Go.Proofs.Ythpnppaighjhmaa
open Go.RowKit Go.WideShapes
set_option linter.unusedVariables false

theorem less_u (A E n more : Int) (hn : 0 ≤ n) (hm : 0 ≤ more) (c : Int) (hc : 0 ≤ c) (hc4 : c < 4) : giveU (takeU A E (fun _ => 0) 2 n) 2 (n + more) c.toNat = 0 := by
  have h2 : isB 2 (n + more) = true := by simp [isB]; omega
  unfold giveU; rw [if_pos h2]
  unfold takeU
  split
  · by_cases e : c.toNat = 2
    · simp [upd, e]; split <;> omega
    · simp [upd, e]
  · by_cases e : c.toNat = 2
    · simp [upd, e]; omega
    · simp [upd, e]

theorem PurseLess_in (w : World) (a0 a1 a2 a3 A E M : Int) (hA : min (max a0 0) 1099511627776 = A) (hE : min (max a1 0) 1099511627776 = E) (h2 : 0 ≤ a2) (h2' : a2 ≤ 1000) (h3 : 0 ≤ a3) (h3' : a3 ≤ 1099511627776) (hM : min (max a0 0) (max a1 0) = M)
    (km : (a0 < 0 ∧ a1 < 0 ∧ M = 0) ∨ (a0 < 0 ∧ 0 ≤ a1 ∧ M = 0) ∨ (0 < a0 ∧ a1 < 0 ∧ M = 0) ∨ (a0 = 0 ∧ a1 < 0 ∧ M = 0) ∨ (0 ≤ a0 ∧ 0 ≤ a1 ∧ a1 < a0 ∧ M = a1) ∨ (0 ≤ a0 ∧ 0 ≤ a1 ∧ a0 ≤ a1 ∧ M = a0)) :
    Calls Try.prog 9 #[.int .i64 a0, .int .i64 a1, .int .i64 a2, .int .i64 a3] w fun e w' => e = .returned (.bool true) ∧ Below w.heap.size w w' := by
  have hA0 : 0 ≤ A ∧ A ≤ 1099511627776 := by omega
  have hE0 : 0 ≤ E ∧ E ≤ 1099511627776 := by omega
  have Hb := Lib.hid (show takeB A E (fun _ => 0) 2 a2 = decide (a2 ≤ M) by unfold takeB; rw [decide_eq_decide]; simp [used]; omega)
  have Hf := Lib.hid (show Fair (takeU A E (fun _ => 0) 2 a2) from fair_take fair0 hE0.2)
  have Hf2 := Lib.hid (show Fair (giveU (takeU A E (fun _ => 0) 2 a2) 2 (a2 + a3)) from fair_give (fair_take fair0 hE0.2))
  have Hu : Hid (used (giveU (takeU A E (fun _ => 0) 2 a2) 2 (a2 + a3)) = 0) := by
    have := less_u A E a2 a3 h2 h3
    have e0 := this 0 (by omega) (by omega); have e1 := this 1 (by omega) (by omega); have e2 := this 2 (by omega) (by omega); have e3 := this 3 (by omega) (by omega)
    show used _ = 0
    unfold used
    exact (by rw [show (0 : Nat) = (0 : Int).toNat from rfl, e0, show (1 : Nat) = (1 : Int).toNat from rfl, e1, show (2 : Nat) = (2 : Int).toNat from rfl, e2, show (3 : Nat) = (3 : Int).toNat from rfl, e3]; rfl)
  have Ho := Lib.hid (show ofv (giveU (takeU A E (fun _ => 0) 2 a2) 2 (a2 + a3)) 2 = 0 by unfold ofv; rw [if_pos (by omega)]; exact less_u A E a2 a3 h2 h3 2 (by omega) (by omega))
  have HA := Lib.hid hA
  have HE := Lib.hid hE
  have HM := Lib.hid hM
  have HA0 := Lib.hid hA0
  have HE0 := Lib.hid hE0
  clear hA hE hM hA0 hE0
  rcases km with ⟨k0, k1, rfl⟩ | ⟨k0, k1, rfl⟩ | ⟨k0, k1, rfl⟩ | ⟨rfl, k1, rfl⟩ | ⟨k0, k1, k2, rfl⟩ | ⟨k0, k1, k2, rfl⟩
  all_goals
    clear HM
    go_enter Try.func9, Try.ntmps9
    go_wp2_with fail
    refine (new_is _ _ A E _ HA.out HE.out).mono ?_
    rintro e w1 ⟨rfl, hp1, ht1⟩
    go_wp2_with fail
    refine (take_walk _ _ _ _ _ _ _ _ hp1 fair0 HA0.out HE0.out (by omega)).mono ?_
    rintro e w2 ⟨rfl, hp2, ht2⟩
    rw [Hb.out]
    go_wp2_with fail
    refine (give_walk _ _ _ _ _ _ _ _ hp2 Hf.out).mono ?_
    rintro e w4 ⟨rfl, hp4, ht4⟩
    go_wp2_with fail
    refine (used_is _ _ _ _ _ 0 _ hp4 Hf2.out Hu.out).mono ?_
    rintro e w5 ⟨rfl, rfl⟩
    go_wp2_with fail
    refine (of_is _ _ _ _ _ _ 0 _ hp4 Ho.out).mono ?_
    rintro e w5 ⟨rfl, rfl⟩
    go_wp2_with fail
    refine (known_walk _).mono ?_
    rintro e w5 ⟨rfl, ht5⟩
    go_wp2_with fail
    go_ret
    exact ⟨rfl, ((((ht1.mono (fun _ _ h => h.elim)).trans (ht2.mono (fun _ _ h => by omega))).trans (ht4.mono (fun _ _ h => by omega))).trans (ht5.mono (fun k _ h => by have := ht1.size; have := ht2.size; have := ht4.size; omega))).below (Nat.le_refl _)⟩

theorem PurseLess_law (w : World) (a0 : Int) (w0 : (Lit.int .i64 a0).wf = true) (a1 : Int) (w1 : (Lit.int .i64 a1).wf = true) (a2 : Int) (w2 : (Lit.int .i64 a2).wf = true) (a3 : Int) (w3 : (Lit.int .i64 a3).wf = true) :
    Calls Try.prog 9 #[.int .i64 a0, .int .i64 a1, .int .i64 a2, .int .i64 a3] w fun e w' => e = .returned (.bool true) ∧ Below w.heap.size w w' := by
  by_cases h0 : a2 < 0
  · go_enter Try.func9, Try.ntmps9
    go_wp2_with fail
    go_ret
    exact ⟨rfl, Below.refl _ _⟩
  by_cases h0' : 1000 < a2
  · go_enter Try.func9, Try.ntmps9
    go_wp2_with fail
    go_ret
    exact ⟨rfl, Below.refl _ _⟩
  by_cases h1 : a3 < 0
  · go_enter Try.func9, Try.ntmps9
    go_wp2_with fail
    go_ret
    exact ⟨rfl, Below.refl _ _⟩
  by_cases h1' : 1099511627776 < a3
  · go_enter Try.func9, Try.ntmps9
    go_wp2_with fail
    go_ret
    exact ⟨rfl, Below.refl _ _⟩
  exact PurseLess_in w a0 a1 a2 a3 _ _ _ rfl rfl (by omega) (by omega) (by omega) (by omega) rfl (by omega)
end Go.Proofs.Ythpnppaighjhmaa
