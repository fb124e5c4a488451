/- The law PurseBack, walked. -/
import Derived.Test.YthpnppaighjhmaaC
import Derived.OpenShut
namespace Go.Proofs.Ythpnppaighjhmaa
open Go.RowKit Go.WideShapes
set_option linter.unusedVariables false

theorem give_full (b : Nat) (t : TypeId) (all each : Int) (c n : Int) (w : World) (hc : 0 ≤ c ∧ c ≤ 3) (hn : 0 ≤ n ∧ n ≤ 1073741824) (hp : Pur w t b all each (upd (fun _ => 0) c.toNat ((fun _ => 0) c.toNat + n))) :
    Calls Try.prog 16 #[.pointer (some ⟨b, 0, none⟩), .int .i64 c, .int .i64 n] w fun e w' => e = .returned (.tuple #[]) ∧ Pur w' t b all each (fun _ => 0) ∧ Touch (· = b) w w' := by
  have hf : Fair (upd (fun _ => 0) c.toNat ((fun _ => 0) c.toNat + n)) := fair_upd fair0 (by simp; omega)
  have := give_walk b t all each _ c n w hp hf
  unfold giveU at this
  rw [if_pos (by simp [isB]; omega)] at this
  have e : (upd (upd (fun _ => 0) c.toNat ((fun _ => (0 : Int)) c.toNat + n)) c.toNat (upd (fun _ => 0) c.toNat ((fun _ => (0 : Int)) c.toNat + n) c.toNat - if upd (fun _ => 0) c.toNat ((fun _ => (0 : Int)) c.toNat + n) c.toNat < n then upd (fun _ => 0) c.toNat ((fun _ => (0 : Int)) c.toNat + n) c.toNat else n)) = fun _ => 0 := by
    funext k
    simp [upd]
    intro h h'; simp [h] at h'
  rwa [e] at this

theorem used_one (c n : Int) (hc : 0 ≤ c ∧ c ≤ 3) : used (upd (fun _ => 0) c.toNat ((fun _ => 0) c.toNat + n)) = n := by
  obtain ⟨c, rfl⟩ := Int.eq_ofNat_of_zero_le hc.1
  match c, hc with
  | 0, _ => simp [used, upd]
  | 1, _ => simp [used, upd]
  | 2, _ => simp [used, upd]
  | 3, _ => simp [used, upd]
  | k + 4, h => omega

theorem PurseBack_in (w : World) (a0 a1 a2 : Int) (h0 : 0 ≤ a0) (h0' : a0 ≤ 3) (h1 : 0 ≤ a1) (h1' : a1 ≤ 1073741824) (h2 : 0 ≤ a2) (h2' : a2 ≤ 20) :
    Calls Try.prog 6 #[.int .i64 a0, .int .i64 a1, .int .i64 a2] w fun e w' => e = .returned (.bool true) ∧ Below w.heap.size w w' := by
  obtain ⟨T, rfl⟩ := Int.eq_ofNat_of_zero_le h2
  have HE := Lib.hid (show min (max a1 0) 1099511627776 = a1 by omega)
  have Hb1 := Lib.hid (show takeB 1073741824 a1 (fun _ => 0) a0 a1 = true by simp [takeB, used]; try omega)
  have Hu := Lib.hid (used_one a0 a1 ⟨h0, h0'⟩)
  have Hf := Lib.hid (show Fair (upd (fun _ => 0) a0.toNat ((fun _ => 0) a0.toNat + a1)) from fair_upd fair0 (by simp; omega))
  have Hb2 := Lib.hid (show 0 < a1 → takeB 1073741824 a1 (upd (fun _ => 0) a0.toNat ((fun _ => 0) a0.toNat + a1)) a0 1 = false from fun h => by simp [takeB, upd])
  go_enter Try.func6, Try.ntmps6
  go_wp2_with fail
  refine (new_is _ _ 1073741824 a1 _ (by decide) HE.out).mono ?_
  rintro e w1 ⟨rfl, hp1, ht1⟩
  have Hp1 := Lib.hid hp1
  clear hp1
  go_wp2_with fail
  go_loopw [8] (fun i wr => ∃ k : Nat, k ≤ T ∧ i = .int .i64 k ∧ Pur wr 39 w.heap.size 1073741824 a1 (fun _ => 0) ∧ Touch (fun k => w.heap.size ≤ k) w wr) (fun i _ => T - (intOf i).toNat)
  case atStart => exact ⟨0, by omega, rfl, Hp1.out, ht1.mono (fun _ _ h => h.elim)⟩
  case round =>
    obtain ⟨k, hk, rfl, hp, ht⟩ := hrel
    have Hp := Lib.hid hp
    clear hp
    by_cases hlt : k < T
    · by_cases hz : 0 < a1
      · go_wp2_with fail
        refine (take_yes _ _ _ _ _ _ _ _ Hp.out fair0 (by decide) (by omega) (by omega) Hb1.out).mono ?_
        rintro e w2 ⟨rfl, hp2, ht2⟩
        go_wp2_with fail
        refine (take_no _ _ _ _ _ _ _ _ hp2 Hf.out (by decide) (by omega) (by decide) (Hb2.out hz)).mono ?_
        rintro e w3 ⟨rfl, hp3, ht3⟩
        go_wp2_with fail
        refine (used_is _ _ _ _ _ a1 _ hp3 Hf.out Hu.out).mono ?_
        rintro e w4 ⟨rfl, rfl⟩
        go_wp2_with fail
        refine (give_full _ _ _ _ _ _ _ (by omega) (by omega) hp3).mono ?_
        rintro e w4 ⟨rfl, hp4, ht4⟩
        have Hp4 := Lib.hid hp4
        clear hp4
        go_wp2_with fail
        go_roundw
        case rel => exact ⟨k + 1, by omega, by go_num, Hp4.out, ((ht.trans (ht2.mono (fun _ _ h => by omega))).trans (ht3.mono (fun _ _ h => by omega))).trans (ht4.mono (fun _ _ h => by omega))⟩
        case measure => simp [intOf]; omega
      · have hz' : a1 ≤ 0 := by omega
        go_wp2_with fail
        refine (take_yes _ _ _ _ _ _ _ _ Hp.out fair0 (by decide) (by omega) (by omega) Hb1.out).mono ?_
        rintro e w2 ⟨rfl, hp2, ht2⟩
        go_wp2_with fail
        refine (used_is _ _ _ _ _ a1 _ hp2 Hf.out Hu.out).mono ?_
        rintro e w4 ⟨rfl, rfl⟩
        go_wp2_with fail
        refine (give_full _ _ _ _ _ _ _ (by omega) (by omega) hp2).mono ?_
        rintro e w4 ⟨rfl, hp4, ht4⟩
        have Hp4 := Lib.hid hp4
        clear hp4
        go_wp2_with fail
        go_roundw
        case rel => exact ⟨k + 1, by omega, by go_num, Hp4.out, ((ht.trans (ht2.mono (fun _ _ h => by omega)))).trans (ht4.mono (fun _ _ h => by omega))⟩
        case measure => simp [intOf]; omega
    · obtain rfl : k = T := by omega
      go_wp2_with fail
      refine (used_is _ _ _ _ _ 0 _ Hp.out fair0 (by decide)).mono ?_
      rintro e w4 ⟨rfl, rfl⟩
      go_wp2_with fail
      refine (known_walk _).mono ?_
      rintro e w5 ⟨rfl, ht5⟩
      go_wp2_with fail
      go_ret
      exact ⟨rfl, (ht.trans (ht5.mono (fun k _ h => by have := ht.size; omega))).below (Nat.le_refl _)⟩

theorem PurseBack_law (w : World) (a0 : Int) (w0 : (Lit.int .i64 a0).wf = true) (a1 : Int) (w1 : (Lit.int .i64 a1).wf = true) (a2 : Int) (w2 : (Lit.int .i64 a2).wf = true) :
    Calls Try.prog 6 #[.int .i64 a0, .int .i64 a1, .int .i64 a2] w fun e w' => e = .returned (.bool true) ∧ Below w.heap.size w w' := by
  by_cases h0 : a0 < 0
  · go_enter Try.func6, Try.ntmps6
    go_wp2_with fail
    go_ret
    exact ⟨rfl, Below.refl _ _⟩
  by_cases h0' : 3 < a0
  · go_enter Try.func6, Try.ntmps6
    go_wp2_with fail
    go_ret
    exact ⟨rfl, Below.refl _ _⟩
  by_cases h1 : a1 < 0
  · go_enter Try.func6, Try.ntmps6
    go_wp2_with fail
    go_ret
    exact ⟨rfl, Below.refl _ _⟩
  by_cases h1' : 1073741824 < a1
  · go_enter Try.func6, Try.ntmps6
    go_wp2_with fail
    go_ret
    exact ⟨rfl, Below.refl _ _⟩
  by_cases h2 : a2 < 0
  · go_enter Try.func6, Try.ntmps6
    go_wp2_with fail
    go_ret
    exact ⟨rfl, Below.refl _ _⟩
  by_cases h2' : 20 < a2
  · go_enter Try.func6, Try.ntmps6
    go_wp2_with fail
    go_ret
    exact ⟨rfl, Below.refl _ _⟩
  exact PurseBack_in w a0 a1 a2 (by omega) (by omega) (by omega) (by omega) (by omega) (by omega)

end Go.Proofs.Ythpnppaighjhmaa
