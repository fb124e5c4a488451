/- The law PurseBounds, walked. -/
import Derived.Test.YthpnppaighjhmaaD
import Derived.OpenShut
import Derived.Deep.RegionHeld3
namespace Go.Proofs.Ythpnppaighjhmaa
open Go.RowKit Go.WideShapes
set_option linter.unusedVariables false


/-- What holds of what is used. -/
structure Good (all each : Int) (u : Nat → Int) : Prop where
  low : ∀ k, k < 4 → 0 ≤ u k ∧ u k ≤ each
  sum : used u ≤ all
theorem Good.fair {all each : Int} {u : Nat → Int} (h : Good all each u) (he : each ≤ 1099511627776) : Fair u := fun k hk => by have := h.low k hk; omega
theorem used_upd (u : Nat → Int) (c : Nat) (hc : c < 4) (x : Int) : used (upd u c x) = used u - u c + x := by
  match c, hc with
  | 0, _ => simp [used, upd]; omega
  | 1, _ => simp [used, upd]; omega
  | 2, _ => simp [used, upd]; omega
  | 3, _ => simp [used, upd]
theorem good_take {all each : Int} {u : Nat → Int} {c n : Int} (h : Good all each u) : Good all each (takeU all each u c n) := by
  unfold takeU
  split
  · rename_i hb
    simp [takeB] at hb
    refine ⟨fun k hk => ?_, ?_⟩
    · have := h.low k hk
      simp only [upd]
      split
      · rename_i e; subst e; omega
      · exact this
    · rw [used_upd _ _ (by omega)]; omega
  · exact h
theorem good_give {all each : Int} {u : Nat → Int} {c n : Int} (h : Good all each u) : Good all each (giveU u c n) := by
  unfold giveU
  split
  · rename_i hb
    simp [isB] at hb
    have hc := h.low c.toNat (by omega)
    refine ⟨fun k hk => ?_, ?_⟩
    · have := h.low k hk
      simp only [upd]
      split
      · rename_i e; subst e; split <;> omega
      · exact this
    · have := h.sum
      rw [used_upd _ _ (by omega)]; split <;> omega
  · exact h
theorem good0 {all each : Int} (h : 0 ≤ all) (h' : 0 ≤ each) : Good all each (fun _ => 0) := ⟨fun _ _ => by simp; exact h', by simpa [used] using h⟩

set_option maxRecDepth 100000 in
set_option maxHeartbeats 1000000 in
theorem PurseBounds_in (w : World) (a0 a1 : Int) (b2 o2 l2 c2 : Nat) (a2 : Option Addr) (z2 : Nat → Nat → Int) (w2 : RecsIn 3 w a2 b2 o2 l2 c2 z2) (h0 : 0 ≤ a0) (h0' : a0 ≤ 1099511627776) (h1 : 0 ≤ a1) (h1' : a1 ≤ 1099511627776) (hl : l2 ≤ 200) :
    Calls Try.prog 5 #[.int .i64 a0, .int .i64 a1, .slice a2 l2 c2] w fun e w' => e = .returned (.bool true) ∧ Below w.heap.size w w' := by
  have HE := Lib.hid (show min (max a1 0) 1099511627776 = a1 by omega)
  have HA := Lib.hid (show min (max a0 0) 1099511627776 = a0 by omega)
  have Hat := Lib.hid w2.at_
  have d0 : decide ((200 : Int) < (l2 : Int)) = false := by simp; omega
  have d1 : decide (a0 < 0) = false := by simp; omega
  have d2 : decide (a1 < 0) = false := by simp; omega
  have d3 : decide (1099511627776 < a0) = false := by simp; omega
  have d4 : decide (1099511627776 < a1) = false := by simp; omega
  go_enter Try.func5, Try.ntmps5
  go_wp2_with fail
  refine (new_is _ _ a0 a1 _ HA.out HE.out).mono ?_
  rintro e w1 ⟨rfl, hp1, ht1⟩
  have Hp1 := Lib.hid hp1
  clear hp1
  go_wp2_with fail
  go_loopw [8] (fun i wr => ∃ k : Nat, ∃ u : Nat → Int, k ≤ l2 ∧ i = .int .i64 k ∧ Good a0 a1 u ∧ Pur wr 39 w.heap.size a0 a1 u ∧ Touch (fun k => w.heap.size ≤ k) w wr) (fun i _ => l2 - (intOf i).toNat)
  case atStart => exact ⟨0, _, by omega, rfl, good0 h0 h1, Hp1.out, ht1.mono (fun _ _ h => h.elim)⟩
  case round =>
    obtain ⟨k, u, hk, rfl, hg, hp, ht⟩ := hrel
    have Hp := Lib.hid hp
    clear hp
    by_cases hlt : k < l2
    · obtain rfl := Hat.out (by omega)
      obtain ⟨e0, e1, e2⟩ := rec3 w2 ht hlt
      have f1 := bounds_i64 (w2.wf k 1)
      have f2 := bounds_i64 (w2.wf k 2)
      by_cases hz : z2 k 0 = 1
      · have hz' : (z2 k 0 == 1) = true := by simpa using hz
        clear hz
        go_wp2_with fail
        go_region_held3 (fun wx => wx.cell? ⟨b2, o2 + k * 3 + 1, none⟩ = some (.int .i64 (z2 k 1)) ∧ wx.cell? ⟨b2, o2 + k * 3 + 2, none⟩ = some (.int .i64 (z2 k 2))) (first | exact ⟨e1, e2⟩ | exact (rec3 w2 (own_touch (Nat.le_refl _) ht ht3) hlt).2) (first | (go_at_call 11; refine (take_walk _ _ _ _ _ _ _ _ Hp.out.drew (hg.fair h1') ⟨h0, h0'⟩ ⟨h1, h1'⟩ f2).mono ?_; rintro e w3 ⟨rfl, hp3, ht3⟩))
        have Hg3 := Lib.hid (good_take (c := z2 k 1) (n := z2 k 2) hg)
        generalize takeU a0 a1 u (z2 k 1) (z2 k 2) = u3 at *
        generalize takeB a0 a1 u (z2 k 1) (z2 k 2) = b3 at *
        have Hp3 := Lib.hid hp3
        have Ht3 := Lib.hid (own_touch (Nat.le_refl _) ht ht3)
        clear hp3 hg Hp ht ht3 e0 e1 e2 f1 f2 hz'
        go_wp2_with fail
        go_loop [9, 10] (fun s c => ∃ j : Nat, j ≤ 4 ∧ c = .int .i64 j ∧ s = .int .i64 (usedTo u3 j)) (fun _ c => 4 - (intOf c).toNat)
        case atStart => exact ⟨0, by omega, rfl, rfl⟩
        case round =>
          obtain ⟨j, hj, rfl, rfl⟩ := hrel
          by_cases hj4 : j < 4
          · have hu := Hg3.out.low j hj4
            have hs := usedTo_bd (Hg3.out.fair h1') j hj
            have Ho := Lib.hid (show ofv u3 (j : Int) = u3 j by simp [ofv]; omega)
            go_wp2_with (go_at_call 12; refine (of_is _ _ _ _ _ _ (u3 j) _ Hp3.out Ho.out).mono ?_; rintro e w' ⟨rfl, rfl⟩)
            go_round
            case rel => exact ⟨j + 1, by omega, by go_num, by simp only [usedTo]⟩
            case measure => simp [intOf]; omega
          · obtain rfl : j = 4 := by omega
            have hs := Hg3.out.sum
            have hs' : 0 ≤ used u3 := by have := Hg3.out.low 0; have := Hg3.out.low 1; have := Hg3.out.low 2; have := Hg3.out.low 3; simp only [used]; omega
            have HU := Lib.hid (show used u3 = usedTo u3 4 by simp [usedTo, used])
            go_wp2_with fail
            refine (used_is _ _ _ _ _ (usedTo u3 4) _ Hp3.out (Hg3.out.fair h1') HU.out).mono ?_
            rintro e w4 ⟨rfl, rfl⟩
            rw [← HU.out]
            go_wp2_with fail
            go_roundw
            case rel => exact ⟨k + 1, u3, by omega, by go_num, Hg3.out, Hp3.out, Ht3.out⟩
            case measure => simp [intOf]; omega
      · have hz' : (z2 k 0 == 1) = false := by simpa using hz
        clear hz
        go_wp2_with fail
        go_region_held3 (fun wx => wx.cell? ⟨b2, o2 + k * 3 + 1, none⟩ = some (.int .i64 (z2 k 1)) ∧ wx.cell? ⟨b2, o2 + k * 3 + 2, none⟩ = some (.int .i64 (z2 k 2))) (first | exact ⟨e1, e2⟩ | exact (rec3 w2 (own_touch (Nat.le_refl _) ht ht3) hlt).2) (first | (go_at_call 16; refine (give_walk _ _ _ _ _ _ _ _ Hp.out.drew (hg.fair h1')).mono ?_; rintro e w3 ⟨rfl, hp3, ht3⟩))
        have Hg3 := Lib.hid (good_give (c := z2 k 1) (n := z2 k 2) hg)
        generalize giveU u (z2 k 1) (z2 k 2) = u3 at *
        have Hp3 := Lib.hid hp3
        have Ht3 := Lib.hid (own_touch (Nat.le_refl _) ht ht3)
        clear hp3 hg Hp ht ht3 e0 e1 e2 f1 f2 hz'
        go_wp2_with fail
        go_loop [9, 10] (fun s c => ∃ j : Nat, j ≤ 4 ∧ c = .int .i64 j ∧ s = .int .i64 (usedTo u3 j)) (fun _ c => 4 - (intOf c).toNat)
        case atStart => exact ⟨0, by omega, rfl, rfl⟩
        case round =>
          obtain ⟨j, hj, rfl, rfl⟩ := hrel
          by_cases hj4 : j < 4
          · have hu := Hg3.out.low j hj4
            have hs := usedTo_bd (Hg3.out.fair h1') j hj
            have Ho := Lib.hid (show ofv u3 (j : Int) = u3 j by simp [ofv]; omega)
            go_wp2_with (go_at_call 12; refine (of_is _ _ _ _ _ _ (u3 j) _ Hp3.out Ho.out).mono ?_; rintro e w' ⟨rfl, rfl⟩)
            go_round
            case rel => exact ⟨j + 1, by omega, by go_num, by simp only [usedTo]⟩
            case measure => simp [intOf]; omega
          · obtain rfl : j = 4 := by omega
            have hs := Hg3.out.sum
            have hs' : 0 ≤ used u3 := by have := Hg3.out.low 0; have := Hg3.out.low 1; have := Hg3.out.low 2; have := Hg3.out.low 3; simp only [used]; omega
            have HU := Lib.hid (show used u3 = usedTo u3 4 by simp [usedTo, used])
            go_wp2_with fail
            refine (used_is _ _ _ _ _ (usedTo u3 4) _ Hp3.out (Hg3.out.fair h1') HU.out).mono ?_
            rintro e w4 ⟨rfl, rfl⟩
            rw [← HU.out]
            go_wp2_with fail
            go_roundw
            case rel => exact ⟨k + 1, u3, by omega, by go_num, Hg3.out, Hp3.out, Ht3.out⟩
            case measure => simp [intOf]; omega
    · obtain rfl : k = l2 := by omega
      go_wp2_with fail
      refine (known_walk _).mono ?_
      rintro e w5 ⟨rfl, ht5⟩
      go_wp2_with fail
      go_ret
      exact ⟨rfl, (ht.trans (ht5.mono (fun k _ h => by have := ht.size; omega))).below (Nat.le_refl _)⟩

theorem PurseBounds_law (w : World) (a0 : Int) (w0 : (Lit.int .i64 a0).wf = true) (a1 : Int) (w1 : (Lit.int .i64 a1).wf = true) (a2 : Option Addr) (b2 o2 l2 c2 : Nat) (z2 : Nat → Nat → Int) (w2 : RecsIn 3 w a2 b2 o2 l2 c2 z2) :
    Calls Try.prog 5 #[.int .i64 a0, .int .i64 a1, .slice a2 l2 c2] w fun e w' => e = .returned (.bool true) ∧ Below w.heap.size w w' := by
  by_cases hl : 200 < l2
  · go_enter Try.func5, Try.ntmps5
    go_wp2_with fail
    go_ret
    exact ⟨rfl, Below.refl _ _⟩
  have hl' : l2 ≤ 200 := by omega
  by_cases h0 : a0 < 0
  · go_enter Try.func5, Try.ntmps5
    go_wp2_with fail
    go_ret
    exact ⟨rfl, Below.refl _ _⟩
  by_cases h1 : a1 < 0
  · go_enter Try.func5, Try.ntmps5
    go_wp2_with fail
    go_ret
    exact ⟨rfl, Below.refl _ _⟩
  by_cases h2 : 1099511627776 < a0
  · go_enter Try.func5, Try.ntmps5
    go_wp2_with fail
    go_ret
    exact ⟨rfl, Below.refl _ _⟩
  by_cases h3 : 1099511627776 < a1
  · go_enter Try.func5, Try.ntmps5
    go_wp2_with fail
    go_ret
    exact ⟨rfl, Below.refl _ _⟩
  exact PurseBounds_in w a0 a1 b2 o2 l2 c2 a2 z2 w2 (by omega) (by omega) (by omega) (by omega) hl'
end Go.Proofs.Ythpnppaighjhmaa
