/- The law PursePlays, walked. -/
import Derived.Test.YthpnppaighjhmaaD
import Derived.Deep.RegionHeld3
namespace Go.Proofs.Ythpnppaighjhmaa
open Go.RowKit Go.WideShapes
set_option linter.unusedVariables false

theorem rof_is (b : Nat) (t : TypeId) (all each : Int) (u : Nat → Int) (c v : Int) (w : World) (hp : Pur w t b all each u) (hv : ofv u c = v) :
    Calls Try.prog 18 #[.pointer (some ⟨b, 0, none⟩), .int .i64 c] w fun e w' => e = .returned (.int .i64 v) ∧ w = w' := by
  subst hv; exact rof_walk b t all each u c w hp
theorem rused_is (b : Nat) (t : TypeId) (all each : Int) (u : Nat → Int) (v : Int) (w : World) (hp : Pur w t b all each u) (hf : Fair u) (hv : used u = v) :
    Calls Try.prog 20 #[.pointer (some ⟨b, 0, none⟩)] w fun e w' => e = .returned (.int .i64 v) ∧ w = w' := by
  subst hv; exact rused_walk b t all each u w hp hf
theorem rnew_is (all each a e : Int) (w : World) (ha : min (max all 0) 1099511627776 = a) (he : min (max each 0) 1099511627776 = e) : Calls Try.prog 14 #[.int .i64 all, .int .i64 each] w fun r w' => r = .returned (.pointer (some ⟨w.heap.size, 0, none⟩)) ∧
    Pur w' 41 w.heap.size a e (fun _ => 0) ∧ Touch (fun _ => False) w w' := by
  subst ha he
  exact (rnew_walk all each w).mono fun _ _ h => ⟨h.1, h.2.1, h.2.2.1⟩

set_option maxRecDepth 100000 in
set_option maxHeartbeats 1000000 in
theorem PursePlays_in (w : World) (a0 a1 A E : Int) (b2 o2 l2 c2 : Nat) (a2 : Option Addr) (z2 : Nat → Nat → Int) (w2 : RecsIn 3 w a2 b2 o2 l2 c2 z2) (hA : min (max a0 0) 1099511627776 = A) (hE : min (max a1 0) 1099511627776 = E) (hl : l2 ≤ 200) :
    Calls Try.prog 4 #[.int .i64 a0, .int .i64 a1, .slice a2 l2 c2] w fun e w' => e = .returned (.bool true) ∧ Below w.heap.size w w' := by
  have ha : 0 ≤ A ∧ A ≤ 1099511627776 := by omega
  have he : 0 ≤ E ∧ E ≤ 1099511627776 := by omega
  have HE := Lib.hid hE
  have HA := Lib.hid hA
  clear hE hA
  have Hat := Lib.hid w2.at_
  have d0 : decide ((200 : Int) < (l2 : Int)) = false := by simp; omega
  go_enter Try.func4, Try.ntmps4
  go_wp2_with fail
  refine (new_walk a0 a1 _).mono ?_
  rintro e w1 ⟨rfl, hp1, ht1, hs1⟩
  rw [HA.out, HE.out] at hp1
  have Hp1 := Lib.hid hp1
  have Hs1 := Lib.hid hs1
  clear hp1 hs1
  go_wp2_with fail
  refine (rnew_is _ _ A E _ HA.out HE.out).mono ?_
  rintro e w1' ⟨rfl, hx1, htx⟩
  rw [Hs1.out]
  rw [Hs1.out] at hx1
  have Hx1 := Lib.hid hx1
  have Hp1' := Lib.hid (Hp1.out.touch htx (fun h => h))
  clear hx1
  have ht0 := (ht1.trans htx).mono (S' := fun k => w.heap.size ≤ k) (fun _ _ h => h.elim)
  clear Hp1 Hs1 ht1 htx
  go_wp2_with fail
  go_loopw [9] (fun i wr => ∃ k : Nat, ∃ u : Nat → Int, k ≤ l2 ∧ i = .int .i64 k ∧ Fair u ∧ Pur wr 39 w.heap.size A E u ∧ Pur wr 41 (w.heap.size + 1) A E u ∧ Touch (fun k => w.heap.size ≤ k) w wr) (fun i _ => l2 - (intOf i).toNat)
  case atStart => exact ⟨0, _, by omega, rfl, fair0, Hp1'.out, Hx1.out, ht0⟩
  case round =>
    obtain ⟨k, u, hk, rfl, hg, hp, hx, ht⟩ := hrel
    have Hp := Lib.hid hp
    have Hx := Lib.hid hx
    clear hp hx Hp1' Hx1 ht0
    by_cases hlt : k < l2
    · obtain rfl := Hat.out (by omega)
      obtain ⟨e0, e1, e2⟩ := rec3 w2 ht hlt
      have f1 := bounds_i64 (w2.wf k 1)
      have f2 := bounds_i64 (w2.wf k 2)
      by_cases hz : z2 k 0 = 1
      · have hz' : (z2 k 0 == 1) = true := by simpa using hz
        clear hz
        go_wp2_with fail
        go_region_held3 (fun wx => wx.cell? ⟨b2, o2 + k * 3 + 1, none⟩ = some (.int .i64 (z2 k 1)) ∧ wx.cell? ⟨b2, o2 + k * 3 + 2, none⟩ = some (.int .i64 (z2 k 2))) (first | exact ⟨e1, e2⟩ | exact (rec3 w2 (own_touch (Nat.le_refl _) ht ht3) hlt).2 | exact (rec3 w2 ((own_touch (Nat.le_refl _) ht ht3).trans (ht4.mono fun _ _ e => by omega)) hlt).2) (first | (go_at_call 11; refine (take_walk _ _ _ _ _ _ _ _ Hp.out.drew hg ha he f2).mono ?_; rintro e w3 ⟨rfl, hp3, ht3⟩) | (go_at_call 15; refine (rtake_walk _ _ _ _ _ _ _ _ (Hx.out.drew.touch ht3 (by omega)) hg ha he f2).mono ?_; rintro e w4 ⟨rfl, hx4, ht4⟩))
        have Hg3 := Lib.hid (fair_take (all := A) (c := z2 k 1) (n := z2 k 2) hg he.2)
        generalize takeU A E u (z2 k 1) (z2 k 2) = u3 at *
        generalize takeB A E u (z2 k 1) (z2 k 2) = b3 at *
        have Hp4 := Lib.hid (hp3.touch ht4 (by omega))
        have Ht4 := Lib.hid ((own_touch (Nat.le_refl _) ht ht3).trans (ht4.mono (S' := fun k => w.heap.size ≤ k) fun _ _ e => by omega))
        have Hx4 := Lib.hid hx4
        clear hp3 hx4 hg Hp Hx ht ht3 ht4 e0 e1 e2 f1 f2 hz'
        go_wp2_with fail
        go_loop [10] (fun c => ∃ j : Nat, j ≤ 6 ∧ c = .int .i64 ((j : Int) - 1)) (fun c => (5 - (intOf c)).toNat)
        case atStart => exact ⟨0, by omega, rfl⟩
        case round =>
          obtain ⟨j, hj, rfl⟩ := hrel
          by_cases hj4 : j < 6
          · go_wp2_with (first | (go_at_call 12; refine (of_walk _ _ _ _ _ _ _ Hp4.out).mono ?_; rintro e w' ⟨rfl, rfl⟩) | (go_at_call 18; refine (rof_walk _ _ _ _ _ _ _ Hx4.out).mono ?_; rintro e w' ⟨rfl, rfl⟩))
            go_round
            case rel => exact ⟨j + 1, by omega, by congr 1; omega⟩
            case measure => simp [intOf]; omega
          · obtain rfl : j = 6 := by omega
            go_wp2_with (first | (go_at_call 19; refine (used_walk _ _ _ _ _ _ Hp4.out Hg3.out).mono ?_; rintro e w' ⟨rfl, rfl⟩) | (go_at_call 20; refine (rused_walk _ _ _ _ _ _ Hx4.out Hg3.out).mono ?_; rintro e w' ⟨rfl, rfl⟩))
            go_roundw
            case rel => exact ⟨k + 1, u3, by omega, by go_num, Hg3.out, Hp4.out, Hx4.out, Ht4.out⟩
            case measure => simp [intOf]; omega
      · have hz' : (z2 k 0 == 1) = false := by simpa using hz
        clear hz
        go_wp2_with fail
        go_region_held3 (fun wx => wx.cell? ⟨b2, o2 + k * 3 + 1, none⟩ = some (.int .i64 (z2 k 1)) ∧ wx.cell? ⟨b2, o2 + k * 3 + 2, none⟩ = some (.int .i64 (z2 k 2))) (first | exact ⟨e1, e2⟩ | exact (rec3 w2 (own_touch (Nat.le_refl _) ht ht3) hlt).2) (first | (go_at_call 16; refine (give_walk _ _ _ _ _ _ _ _ Hp.out.drew hg).mono ?_; rintro e w3 ⟨rfl, hp3, ht3⟩))
        have ht' := own_touch (Nat.le_refl _) ht ht3
        have Hx3 := Lib.hid (Hx.out.drew.touch ht3 (by omega))
        have Hp3 := Lib.hid hp3
        clear hp3 Hp Hx ht ht3 e0 e1 e2
        obtain ⟨e0, e1, e2⟩ := rec3 w2 ht' hlt
        go_wp2_with fail
        go_region_held3 (fun wx => wx.cell? ⟨b2, o2 + k * 3 + 1, none⟩ = some (.int .i64 (z2 k 1)) ∧ wx.cell? ⟨b2, o2 + k * 3 + 2, none⟩ = some (.int .i64 (z2 k 2))) (first | exact ⟨e1, e2⟩ | exact (rec3 w2 (ht'.drew.trans (ht4.mono fun _ _ e => by omega)) hlt).2) (first | (go_at_call 17; refine (rgive_walk _ _ _ _ _ _ _ _ Hx3.out.drew hg f2).mono ?_; rintro e w4 ⟨rfl, hx4, ht4⟩))
        have Hg3 := Lib.hid (fair_give (c := z2 k 1) (n := z2 k 2) hg)
        generalize giveU u (z2 k 1) (z2 k 2) = u3 at *
        have Hp4 := Lib.hid (Hp3.out.drew.touch ht4 (by omega))
        have Ht4 := Lib.hid (ht'.drew.trans (ht4.mono (S' := fun k => w.heap.size ≤ k) fun _ _ e => by omega))
        have Hx4 := Lib.hid hx4
        clear hx4 hg Hp3 Hx3 ht' ht4 e0 e1 e2 f1 f2 hz'
        go_wp2_with fail
        go_loop [10] (fun c => ∃ j : Nat, j ≤ 6 ∧ c = .int .i64 ((j : Int) - 1)) (fun c => (5 - (intOf c)).toNat)
        case atStart => exact ⟨0, by omega, rfl⟩
        case round =>
          obtain ⟨j, hj, rfl⟩ := hrel
          by_cases hj4 : j < 6
          · go_wp2_with (first | (go_at_call 12; refine (of_walk _ _ _ _ _ _ _ Hp4.out).mono ?_; rintro e w' ⟨rfl, rfl⟩) | (go_at_call 18; refine (rof_walk _ _ _ _ _ _ _ Hx4.out).mono ?_; rintro e w' ⟨rfl, rfl⟩))
            go_round
            case rel => exact ⟨j + 1, by omega, by congr 1; omega⟩
            case measure => simp [intOf]; omega
          · obtain rfl : j = 6 := by omega
            go_wp2_with (first | (go_at_call 19; refine (used_walk _ _ _ _ _ _ Hp4.out Hg3.out).mono ?_; rintro e w' ⟨rfl, rfl⟩) | (go_at_call 20; refine (rused_walk _ _ _ _ _ _ Hx4.out Hg3.out).mono ?_; rintro e w' ⟨rfl, rfl⟩))
            go_roundw
            case rel => exact ⟨k + 1, u3, by omega, by go_num, Hg3.out, Hp4.out, Hx4.out, Ht4.out⟩
            case measure => simp [intOf]; omega
    · obtain rfl : k = l2 := by omega
      go_wp2_with fail
      refine (known_walk _).mono ?_
      rintro e w5 ⟨rfl, ht5⟩
      go_wp2_with fail
      go_ret
      exact ⟨rfl, (ht.trans (ht5.mono (fun k _ h => by have := ht.size; omega))).below (Nat.le_refl _)⟩

theorem PursePlays_law (w : World) (a0 : Int) (w0 : (Lit.int .i64 a0).wf = true) (a1 : Int) (w1 : (Lit.int .i64 a1).wf = true) (a2 : Option Addr) (b2 o2 l2 c2 : Nat) (z2 : Nat → Nat → Int) (w2 : RecsIn 3 w a2 b2 o2 l2 c2 z2) :
    Calls Try.prog 4 #[.int .i64 a0, .int .i64 a1, .slice a2 l2 c2] w fun e w' => e = .returned (.bool true) ∧ Below w.heap.size w w' := by
  by_cases hl : 200 < l2
  · go_enter Try.func4, Try.ntmps4
    go_wp2_with fail
    go_ret
    exact ⟨rfl, Below.refl _ _⟩
  · exact PursePlays_in w a0 a1 _ _ b2 o2 l2 c2 a2 z2 w2 rfl rfl (by omega)
end Go.Proofs.Ythpnppaighjhmaa
