/- Walks of the document's own purse (mangleref11). -/
import Derived.Test.YthpnppaighjhmaaA
namespace Go.Proofs.Ythpnppaighjhmaa
open Go.RowKit

theorem rof_walk (b : Nat) (t : TypeId) (all each : Int) (u : Nat → Int) (c : Int) (w : World) (hp : Pur w t b all each u) :
    Calls Try.prog 18 #[.pointer (some ⟨b, 0, none⟩), .int .i64 c] w fun e w' => e = .returned (.int .i64 (ofv u c)) ∧ w = w' := by
  obtain ⟨_, _, hu, _⟩ := hp.cells
  by_cases hc : 0 ≤ c ∧ c < 4
  · obtain ⟨c, rfl⟩ := Int.eq_ofNat_of_zero_le hc.1
    have hc4 : c < 4 := by omega
    have hu := hu c hc4
    have Hv := Lib.hid (show ofv u (c : Int) = u c by simp [ofv]; omega)
    clear hc
    go_enter Try.func18, Try.ntmps18
    go_wp2
    go_ret
    exact ⟨ret_int Hv.out.symm, rfl⟩
  · have Hv := Lib.hid (show ofv u c = 0 by simp [ofv, hc])
    by_cases h0 : c < 0
    · go_enter Try.func18, Try.ntmps18
      go_wp2
      go_ret
      exact ⟨ret_int Hv.out.symm, rfl⟩
    · have h4 : 4 ≤ c := by omega
      clear hc
      go_enter Try.func18, Try.ntmps18
      go_wp2
      go_ret
      exact ⟨ret_int Hv.out.symm, rfl⟩

theorem rused_walk (b : Nat) (t : TypeId) (all each : Int) (u : Nat → Int) (w : World) (hp : Pur w t b all each u) (hf : Fair u) :
    Calls Try.prog 20 #[.pointer (some ⟨b, 0, none⟩)] w fun e w' => e = .returned (.int .i64 (used u)) ∧ w = w' := by
  obtain ⟨_, _, hu, _⟩ := hp.cells
  have Hu := Lib.hid hu
  clear hp hu
  have Hf := Lib.hid hf
  clear hf
  go_enter Try.func20, Try.ntmps20
  go_wp2
  go_loop [3, 4] (fun n i => ∃ k : Nat, k ≤ 4 ∧ i = .int .i64 k ∧ n = .int .i64 (usedTo u k)) (fun _ i => 4 - (intOf i).toNat)
  case atStart => exact ⟨0, by omega, rfl, rfl⟩
  case round =>
    obtain ⟨k, hk, rfl, rfl⟩ := hrel
    by_cases hlt : k < 4
    · have hb := usedTo_bd Hf.out k hk
      have hv := Hf.out k hlt
      have hu := Hu.out k hlt
      go_wp2
      go_round
      case rel => exact ⟨k + 1, by omega, by go_num, by simp only [usedTo]⟩
      case measure => simp [intOf]; omega
    · obtain rfl : k = 4 := by omega
      go_wp2
      go_ret
      exact ⟨ret_int (by simp [usedTo, used]), rfl⟩

theorem rtake_walk (b : Nat) (t : TypeId) (all each : Int) (u : Nat → Int) (c n : Int) (w : World) (hp : Pur w t b all each u) (hf : Fair u)
    (ha : 0 ≤ all ∧ all ≤ 1099511627776) (he : 0 ≤ each ∧ each ≤ 1099511627776) (hn : -9223372036854775808 ≤ n ∧ n ≤ 9223372036854775807) :
    Calls Try.prog 15 #[.pointer (some ⟨b, 0, none⟩), .int .i64 c, .int .i64 n] w fun e w' => e = .returned (.bool (takeB all each u c n)) ∧ Pur w' t b all each (takeU all each u c n) ∧ Touch (· = b) w w' := by
  by_cases hi : isB c n = true
  · have hi' := hi
    simp [isB] at hi'
    obtain ⟨c, rfl⟩ := Int.eq_ofNat_of_zero_le hi'.1
    obtain ⟨h0, h1, hu, hz⟩ := hp.cells
    have hc4 : c < 4 := by omega
    have hu := hu c hc4
    have hz := hz (2 + c)
    have hfc := hf c hc4
    have hus : 0 ≤ used u ∧ used u ≤ 4398046511104 := by
      have := hf 0 (by omega); have := hf 1 (by omega); have := hf 2 (by omega); have := hf 3 (by omega); simp only [used]; omega
    have hn0 : 0 ≤ n := hi'.2.2
    have Hp := Lib.hid hp
    have Hf := Lib.hid hf
    have g1 : decide ((c : Int) < 0) = false := by simp
    have g2 : decide ((4 : Int) ≤ (c : Int)) = false := by simp; omega
    have g3 : decide (n < 0) = false := by simp; omega
    clear hi hi' hp hf
    by_cases ha1 : each - u c < n
    · have ht := Lib.hid (show takeB all each u (c : Int) n = false by simp [takeB]; omega)
      go_enter Try.func15, Try.ntmps15
      go_wp2
      go_quiet (((go_at_call 20; exact quiet_same (rused_walk _ _ _ _ _ _ Hp.out Hf.out))))
      go_wp2
      go_ret
      exact ⟨ret_bool ht.out.symm, by unfold takeU; rw [if_neg (by rw [ht.out]; simp)]; exact Hp.out, (Touch.refl _ _).drewN _⟩
    · have hd : decide (each - u c < n) = false := by simpa using ha1
      by_cases ha2 : all - used u < n
      · have ht := Lib.hid (show takeB all each u (c : Int) n = false by simp [takeB]; omega)
        go_enter Try.func15, Try.ntmps15
        go_wp2
        go_quiet (((go_at_call 20; exact quiet_same (rused_walk _ _ _ _ _ _ Hp.out Hf.out))))
        go_wp2
        go_ret
        exact ⟨ret_bool ht.out.symm, by unfold takeU; rw [if_neg (by rw [ht.out]; simp)]; exact Hp.out, (Touch.refl _ _).drewN _⟩
      · have ht := Lib.hid (show takeB all each u (c : Int) n = true by simp [takeB]; omega)
        go_enter Try.func15, Try.ntmps15
        go_wp2
        go_quiet (((go_at_call 20; exact quiet_same (rused_walk _ _ _ _ _ _ Hp.out Hf.out))))
        go_wp2
        go_region
        all_goals
          go_wp2
          go_ret
          exact ⟨ret_bool ht.out.symm, by unfold takeU; rw [if_pos ht.out]; exact Hp.out.set hc4 _, ((Touch.refl (· = b) w).drewN _).setCell (fun _ => rfl) _⟩
  · have hi : isB c n = false := by simpa using hi
    have ht := Lib.hid (show takeB all each u (c : Int) n = false by simp [isB] at hi; simp [takeB]; omega)
    have Hp := Lib.hid hp
    simp [isB] at hi
    clear hp hf
    by_cases g1 : c < 0
    · clear hi
      go_enter Try.func15, Try.ntmps15
      go_wp2
      go_quiet (fail)
      go_wp2
      go_ret
      exact ⟨ret_bool ht.out.symm, by unfold takeU; rw [if_neg (by rw [ht.out]; simp)]; exact Hp.out, (Touch.refl _ _).drewN _⟩
    · have d1 : decide (c < 0) = false := by simpa using g1
      by_cases g2 : 4 ≤ c
      · clear hi
        go_enter Try.func15, Try.ntmps15
        go_wp2
        go_quiet (fail)
        go_wp2
        go_ret
        exact ⟨ret_bool ht.out.symm, by unfold takeU; rw [if_neg (by rw [ht.out]; simp)]; exact Hp.out, (Touch.refl _ _).drewN _⟩
      · have g3 : n < 0 := by omega
        have d2 : decide (4 ≤ c) = false := by simpa using g2
        clear hi
        go_enter Try.func15, Try.ntmps15
        go_wp2
        go_quiet (fail)
        go_wp2
        go_ret
        exact ⟨ret_bool ht.out.symm, by unfold takeU; rw [if_neg (by rw [ht.out]; simp)]; exact Hp.out, (Touch.refl _ _).drewN _⟩

theorem rgive_walk (b : Nat) (t : TypeId) (all each : Int) (u : Nat → Int) (c n : Int) (w : World) (hp : Pur w t b all each u) (hf : Fair u) (hn : -9223372036854775808 ≤ n ∧ n ≤ 9223372036854775807) :
    Calls Try.prog 17 #[.pointer (some ⟨b, 0, none⟩), .int .i64 c, .int .i64 n] w fun e w' => e = .returned (.tuple #[]) ∧ Pur w' t b all each (giveU u c n) ∧ Touch (· = b) w w' := by
  by_cases hi : isB c n = true
  · have hi' := hi
    simp [isB] at hi'
    obtain ⟨c, rfl⟩ := Int.eq_ofNat_of_zero_le hi'.1
    obtain ⟨h0, h1, hu, hz⟩ := hp.cells
    have hc4 : c < 4 := by omega
    have hu := hu c hc4
    have hz := hz (2 + c)
    have hfc := hf c hc4
    have hn0 : 0 ≤ n := hi'.2.2
    have hib := Lib.hid hi
    have Hp := Lib.hid hp
    clear hi hi' hp hf
    have he : Hid (giveU u (c : Int) n = upd u c (if n < u c then u c - n else 0)) := by
      unfold giveU; rw [if_pos hib.out]; show upd u c _ = _; congr 1; show u c - (if u c < n then u c else n) = _; split <;> split <;> omega
    go_enter Try.func17, Try.ntmps17
    go_wp2
    go_region
    all_goals
      go_end0
      exact ⟨rfl, by rw [he.out]; exact Hp.out.set hc4 _, (((Touch.refl (· = b) w).setCell (fun _ => rfl) _).drew)⟩
  · have hi : isB c n = false := by simpa using hi
    have hib := Lib.hid hi
    have Hp := Lib.hid hp
    simp [isB] at hi
    clear hp hf
    by_cases g1 : c < 0
    · go_enter Try.func17, Try.ntmps17
      go_wp2
      go_end0
      exact ⟨rfl, by unfold giveU; rw [if_neg (by rw [hib.out]; simp)]; exact Hp.out, (Touch.refl _ _)⟩
    · by_cases g2 : 4 ≤ c
      · go_enter Try.func17, Try.ntmps17
        go_wp2
        go_end0
        exact ⟨rfl, by unfold giveU; rw [if_neg (by rw [hib.out]; simp)]; exact Hp.out, (Touch.refl _ _)⟩
      · have g3 : n < 0 := by omega
        go_enter Try.func17, Try.ntmps17
        go_wp2
        go_end0
        exact ⟨rfl, by unfold giveU; rw [if_neg (by rw [hib.out]; simp)]; exact Hp.out, (Touch.refl _ _)⟩

theorem new_post (w : World) (x y X Y : Int) (t : TypeId) (hx : x = X) (hy : y = Y) :
    Ending.returned (Value.pointer (some ⟨w.heap.size, 0, none⟩)) = Ending.returned (Value.pointer (some ⟨w.heap.size, 0, none⟩)) ∧
    Pur (w.alloc (.cells #[.int .i64 x, .int .i64 y, .int .i64 0, .int .i64 0, .int .i64 0, .int .i64 0] t)) t w.heap.size X Y (fun _ => 0) ∧ Touch (fun _ => False) w (w.alloc (.cells #[.int .i64 x, .int .i64 y, .int .i64 0, .int .i64 0, .int .i64 0, .int .i64 0] t)) ∧
    (w.alloc (.cells #[.int .i64 x, .int .i64 y, .int .i64 0, .int .i64 0, .int .i64 0, .int .i64 0] t)).heap.size = w.heap.size + 1 := by
  subst hx hy
  exact ⟨rfl, by unfold Pur; exact heap_alloc_new _ _, (Touch.refl _ _).alloc _, by simp⟩

theorem rnew_walk (all each : Int) (w : World) : Calls Try.prog 14 #[.int .i64 all, .int .i64 each] w fun e w' => e = .returned (.pointer (some ⟨w.heap.size, 0, none⟩)) ∧
    Pur w' 41 w.heap.size (min (max all 0) 1099511627776) (min (max each 0) 1099511627776) (fun _ => 0) ∧ Touch (fun _ => False) w w' ∧ w'.heap.size = w.heap.size + 1 := by
  go_enter Try.func14, Try.ntmps14
  go_wp2
  all_goals (go_ret; exact new_post _ _ _ _ _ _ (by omega) (by omega))
end Go.Proofs.Ythpnppaighjhmaa
