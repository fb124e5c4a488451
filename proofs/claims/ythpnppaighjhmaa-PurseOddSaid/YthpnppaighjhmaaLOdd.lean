/- The laws PurseOdd and PurseOfNothing, walked. -/
import Derived.Test.YthpnppaighjhmaaC
import Derived.OpenShut
namespace Go.Proofs.Ythpnppaighjhmaa
open Go.RowKit Go.WideShapes
set_option linter.unusedVariables false

theorem give_no (b : Nat) (t : TypeId) (all each : Int) (u : Nat → Int) (c n : Int) (w : World) (hp : Pur w t b all each u) (hf : Fair u) (hi : isB c n = false) :
    Calls Try.prog 16 #[.pointer (some ⟨b, 0, none⟩), .int .i64 c, .int .i64 n] w fun e w' => e = .returned (.tuple #[]) ∧ Pur w' t b all each u ∧ Touch (· = b) w w' := by
  have := give_walk b t all each u c n w hp hf
  unfold giveU at this
  rwa [if_neg (by rw [hi]; simp)] at this

theorem PurseOdd_out (w : World) (a0 a1 : Int) (w1 : -9223372036854775808 ≤ a1 ∧ a1 ≤ 9223372036854775807) (h : a0 < 0 ∨ 3 < a0 ∨ a1 < 0) (hh : (0 ≤ a0 ∧ a0 ≤ 3 ∧ 0 ≤ a1) = False) :
    Calls Try.prog 8 #[.int .i64 a0, .int .i64 a1] w fun e w' => e = .returned (.bool true) ∧ Below w.heap.size w w' := by
  have Hb1 := Lib.hid (show isB a0 a1 = false by simp [isB]; omega)
  have Hb2 := Lib.hid (show takeB 100 100 (upd (fun _ => 0) (1 : Int).toNat ((fun _ => 0) (1 : Int).toNat + 50)) a0 a1 = false by simp [takeB]; omega)
  have Hf := Lib.hid (show Fair (upd (fun _ => 0) (1 : Int).toNat ((fun _ => 0) (1 : Int).toNat + 50)) from fair_upd fair0 (by decide))
  have H := Lib.hid h
  have HH := Lib.hid w1
  clear hh h w1
  have fin : ∀ (k : Calls Try.prog 8 #[.int .i64 a0, .int .i64 a1] w fun e w' => e = .returned (.bool true) ∧ Below w.heap.size w w'), Calls Try.prog 8 #[.int .i64 a0, .int .i64 a1] w fun e w' => e = .returned (.bool true) ∧ Below w.heap.size w w' := fun k => k
  rcases Classical.em (a0 < 0) with g | g
  rotate_left
  rcases Classical.em (3 < a0) with g3 | g3
  rotate_left
  have g4 : a1 < 0 := by have := H.out; omega
  all_goals
    clear fin
    go_enter Try.func8, Try.ntmps8
    go_wp2_with fail
    refine (new_is _ _ 100 100 _ (by decide) (by decide)).mono ?_
    rintro e w1 ⟨rfl, hp1, ht1⟩
    go_wp2_with fail
    refine (take_yes _ _ _ _ _ _ _ _ hp1 fair0 (by decide) (by decide) (by decide) (by decide)).mono ?_
    rintro e w2 ⟨rfl, hp2, ht2⟩
    go_wp2_with fail
    refine (take_no _ _ _ _ _ _ _ _ hp2 Hf.out (by decide) (by decide) HH.out Hb2.out).mono ?_
    rintro e w3 ⟨rfl, hp3, ht3⟩
    go_wp2_with fail
    refine (give_no _ _ _ _ _ _ _ _ hp3 Hf.out Hb1.out).mono ?_
    rintro e w4 ⟨rfl, hp4, ht4⟩
    go_wp2_with fail
    refine (used_is _ _ _ _ _ 50 _ hp4 Hf.out (by decide)).mono ?_
    rintro e w5 ⟨rfl, rfl⟩
    go_wp2_with fail
    refine (of_is _ _ _ _ _ _ 50 _ hp4 (by decide)).mono ?_
    rintro e w5 ⟨rfl, rfl⟩
    go_wp2_with fail
    refine (known_walk _).mono ?_
    rintro e w5 ⟨rfl, ht5⟩
    go_wp2_with fail
    go_ret
    exact ⟨rfl, (((((ht1.mono (fun _ _ h => h.elim)).trans (ht2.mono (fun _ _ h => by omega))).trans (ht3.mono (fun _ _ h => by omega))).trans (ht4.mono (fun _ _ h => by omega))).trans (ht5.mono (fun k _ h => by have := ht1.size; have := ht2.size; have := ht3.size; have := ht4.size; omega))).below (Nat.le_refl _)⟩

theorem PurseOdd_in (w : World) (a0 a1 : Int) (h0 : 0 ≤ a0) (h1 : a0 ≤ 3) (h2 : 0 ≤ a1) :
    Calls Try.prog 8 #[.int .i64 a0, .int .i64 a1] w fun e w' => e = .returned (.bool true) ∧ Below w.heap.size w w' := by
  go_enter Try.func8, Try.ntmps8
  go_wp2_with fail
  refine (new_is _ _ 100 100 _ (by decide) (by decide)).mono ?_
  rintro e w1 ⟨rfl, hp1, ht1⟩
  go_wp2_with fail
  refine (take_yes _ _ _ _ _ _ _ _ hp1 fair0 (by decide) (by decide) (by decide) (by decide)).mono ?_
  rintro e w2 ⟨rfl, hp2, ht2⟩
  go_wp2_with fail
  go_ret
  exact ⟨rfl, ((ht1.mono (fun _ _ h => h.elim)).trans (ht2.mono (fun _ _ h => by omega))).below (Nat.le_refl _)⟩

theorem PurseOdd_law (w : World) (a0 : Int) (w0 : (Lit.int .i64 a0).wf = true) (a1 : Int) (w1 : (Lit.int .i64 a1).wf = true) :
    Calls Try.prog 8 #[.int .i64 a0, .int .i64 a1] w fun e w' => e = .returned (.bool true) ∧ Below w.heap.size w w' := by
  have hb := bounds_i64 w1
  by_cases h : 0 ≤ a0 ∧ a0 ≤ 3 ∧ 0 ≤ a1
  · exact PurseOdd_in w a0 a1 h.1 h.2.1 h.2.2
  · exact PurseOdd_out w a0 a1 hb (by omega) (by simp; omega)

theorem PurseOfNothing_law (w : World) (a0 : Int) (w0 : (Lit.int .i64 a0).wf = true) (a1 : Int) (w1 : (Lit.int .i64 a1).wf = true) :
    Calls Try.prog 7 #[.int .i64 a0, .int .i64 a1] w fun e w' => e = .returned (.bool true) ∧ Below w.heap.size w w' := by
  go_enter Try.func7, Try.ntmps7
  go_wp2_with fail
  refine (give_nil _ _ _).mono ?_
  rintro e w1 ⟨rfl, rfl⟩
  go_wp2_with fail
  refine (take_nil _ _ _).mono ?_
  rintro e w2 ⟨rfl, ht2⟩
  go_wp2_with fail
  refine (used_nil _).mono ?_
  rintro e w3 ⟨rfl, rfl⟩
  go_wp2_with fail
  refine (of_nil _ _).mono ?_
  rintro e w3 ⟨rfl, rfl⟩
  go_wp2_with fail
  refine (known_walk _).mono ?_
  rintro e w5 ⟨rfl, ht5⟩
  go_wp2_with fail
  go_ret
  exact ⟨rfl, ((ht2.mono (fun _ _ h => h.elim)).trans (ht5.mono (fun k _ h => by have := ht2.size; omega))).below (Nat.le_refl _)⟩

end Go.Proofs.Ythpnppaighjhmaa
