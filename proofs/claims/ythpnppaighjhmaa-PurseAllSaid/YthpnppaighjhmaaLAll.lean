/- The law PurseAll, walked. -/
import Derived.Test.YthpnppaighjhmaaC
import Derived.OpenShut
namespace Go.Proofs.Ythpnppaighjhmaa
open Go.RowKit Go.WideShapes
set_option linter.unusedVariables false

theorem PurseAll_in (w : World) (a0 a1 : Int) (h0 : 0 ≤ a0) (h0' : a0 ≤ 1000) (h1 : 0 ≤ a1) (h1' : a1 ≤ 1000) :
    Calls Try.prog 3 #[.int .i64 a0, .int .i64 a1] w fun e w' => e = .returned (.bool true) ∧ Below w.heap.size w w' := by
  have hb1 : takeB 1000 1000 (fun _ => 0) 0 a0 = true := by simp [takeB, used]; omega
  have Hb1 := Lib.hid hb1
  have hf1 : Fair (upd (fun _ => 0) (0 : Int).toNat ((fun _ => 0) (0 : Int).toNat + a0)) := fair_upd fair0 (by simp; omega)
  have Hf1 := Lib.hid hf1
  have hb2 : takeB 1000 1000 (upd (fun _ => 0) (0 : Int).toNat ((fun _ => 0) (0 : Int).toNat + a0)) 1 a1 = decide (a0 + a1 ≤ 1000) := by
    unfold takeB; rw [decide_eq_decide]; simp [used, upd]; omega
  have Hb2 := Lib.hid hb2
  have hof : ofv (takeU 1000 1000 (upd (fun _ => 0) (0 : Int).toNat ((fun _ => 0) (0 : Int).toNat + a0)) 1 a1) 0 = a0 := by
    unfold takeU; split <;> simp [ofv, upd]
  have Hof := Lib.hid hof
  clear hb1 hf1 hb2 hof
  go_enter Try.func3, Try.ntmps3
  go_wp2_with fail
  refine (new_is _ _ 1000 1000 _ (by decide) (by decide)).mono ?_
  rintro e w1 ⟨rfl, hp1, ht1⟩
  go_wp2_with fail
  refine (take_yes _ _ _ _ _ _ _ _ hp1 fair0 (by decide) (by decide) (by omega) Hb1.out).mono ?_
  rintro e w2 ⟨rfl, hp2, ht2⟩
  go_wp2_with fail
  refine (take_walk _ _ _ _ _ _ _ _ hp2 Hf1.out (by decide) (by decide) (by omega)).mono ?_
  rintro e w3 ⟨rfl, hp3, ht3⟩
  rw [Hb2.out]
  go_wp2_with fail
  refine (of_is _ _ _ _ _ _ a0 _ hp3 Hof.out).mono ?_
  rintro e w4 ⟨rfl, rfl⟩
  go_wp2_with fail
  refine (known_walk _).mono ?_
  rintro e w5 ⟨rfl, ht5⟩
  go_wp2_with fail
  go_ret
  exact ⟨rfl, ((((ht1.mono (fun _ _ h => h.elim)).trans (ht2.mono (fun _ _ h => by omega))).trans (ht3.mono (fun _ _ h => by omega))).trans (ht5.mono (fun k _ h => by have := ht1.size; have := ht2.size; have := ht3.size; omega))).below (Nat.le_refl _)⟩

theorem PurseAll_law (w : World) (a0 : Int) (w0 : (Lit.int .i64 a0).wf = true) (a1 : Int) (w1 : (Lit.int .i64 a1).wf = true) :
    Calls Try.prog 3 #[.int .i64 a0, .int .i64 a1] w fun e w' => e = .returned (.bool true) ∧ Below w.heap.size w w' := by
  by_cases h0 : a0 < 0
  · go_enter Try.func3, Try.ntmps3
    go_wp2_with fail
    go_ret
    exact ⟨rfl, Below.refl _ _⟩
  by_cases h0' : 1000 < a0
  · go_enter Try.func3, Try.ntmps3
    go_wp2_with fail
    go_ret
    exact ⟨rfl, Below.refl _ _⟩
  by_cases h1 : a1 < 0
  · go_enter Try.func3, Try.ntmps3
    go_wp2_with fail
    go_ret
    exact ⟨rfl, Below.refl _ _⟩
  by_cases h1' : 1000 < a1
  · go_enter Try.func3, Try.ntmps3
    go_wp2_with fail
    go_ret
    exact ⟨rfl, Below.refl _ _⟩
  exact PurseAll_in w a0 a1 (by omega) (by omega) (by omega) (by omega)
end Go.Proofs.Ythpnppaighjhmaa
