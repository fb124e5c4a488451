/- known, and the laws' walks that are short. -/
import Derived.Test.YthpnppaighjhmaaB
namespace Go.Proofs.Ythpnppaighjhmaa
open Go.RowKit

theorem fair0 : Fair (fun _ => 0) := fun _ _ => by simp
theorem Pur.touch {w w' : World} {t : TypeId} {b : Nat} {all each : Int} {u : Nat → Int} {S : Nat → Prop} (h : Pur w t b all each u) (ht : Touch S w w') (hs : ¬ S b) : Pur w' t b all each u := by
  unfold Pur at h ⊢
  rw [ht.block b (lt_of_block h) hs]; exact h

theorem fair_take {all each : Int} {u : Nat → Int} {c n : Int} (hf : Fair u) (he : each ≤ 1099511627776) : Fair (takeU all each u c n) := by
  unfold takeU
  split
  · rename_i h
    simp [takeB] at h
    intro k hk
    have := hf k hk
    simp only [upd]
    split
    · rename_i e; subst e; have := hf _ hk; omega
    · exact this
  · exact hf
theorem fair_give {u : Nat → Int} {c n : Int} (hf : Fair u) : Fair (giveU u c n) := by
  unfold giveU
  split
  · rename_i h
    simp [isB] at h
    intro k hk
    have := hf k hk
    simp only [upd]
    split
    · rename_i e; subst e; have := hf _ hk; split <;> omega
    · exact this
  · exact hf


theorem take_yes (b : Nat) (t : TypeId) (all each : Int) (u : Nat → Int) (c n : Int) (w : World) (hp : Pur w t b all each u) (hf : Fair u)
    (ha : 0 ≤ all ∧ all ≤ 1099511627776) (he : 0 ≤ each ∧ each ≤ 1099511627776) (hn : -9223372036854775808 ≤ n ∧ n ≤ 9223372036854775807) (hb : takeB all each u c n = true) :
    Calls Try.prog 11 #[.pointer (some ⟨b, 0, none⟩), .int .i64 c, .int .i64 n] w fun e w' => e = .returned (.bool true) ∧ Pur w' t b all each (upd u c.toNat (u c.toNat + n)) ∧ Touch (· = b) w w' := by
  have := take_walk b t all each u c n w hp hf ha he hn
  unfold takeU at this
  rw [if_pos hb, hb] at this
  exact this
theorem take_no (b : Nat) (t : TypeId) (all each : Int) (u : Nat → Int) (c n : Int) (w : World) (hp : Pur w t b all each u) (hf : Fair u)
    (ha : 0 ≤ all ∧ all ≤ 1099511627776) (he : 0 ≤ each ∧ each ≤ 1099511627776) (hn : -9223372036854775808 ≤ n ∧ n ≤ 9223372036854775807) (hb : takeB all each u c n = false) :
    Calls Try.prog 11 #[.pointer (some ⟨b, 0, none⟩), .int .i64 c, .int .i64 n] w fun e w' => e = .returned (.bool false) ∧ Pur w' t b all each u ∧ Touch (· = b) w w' := by
  have := take_walk b t all each u c n w hp hf ha he hn
  unfold takeU at this
  rw [if_neg (by rw [hb]; simp), hb] at this
  exact this
theorem new_is (all each a e : Int) (w : World) (ha : min (max all 0) 1099511627776 = a) (he : min (max each 0) 1099511627776 = e) : Calls Try.prog 10 #[.int .i64 all, .int .i64 each] w fun r w' => r = .returned (.pointer (some ⟨w.heap.size, 0, none⟩)) ∧
    Pur w' 39 w.heap.size a e (fun _ => 0) ∧ Touch (fun _ => False) w w' := by
  subst ha he
  exact (new_walk all each w).mono fun _ _ h => ⟨h.1, h.2.1, h.2.2.1⟩
theorem of_is (b : Nat) (t : TypeId) (all each : Int) (u : Nat → Int) (c v : Int) (w : World) (hp : Pur w t b all each u) (hv : ofv u c = v) :
    Calls Try.prog 12 #[.pointer (some ⟨b, 0, none⟩), .int .i64 c] w fun e w' => e = .returned (.int .i64 v) ∧ w = w' := by
  subst hv; exact of_walk b t all each u c w hp
theorem used_is (b : Nat) (t : TypeId) (all each : Int) (u : Nat → Int) (v : Int) (w : World) (hp : Pur w t b all each u) (hf : Fair u) (hv : used u = v) :
    Calls Try.prog 19 #[.pointer (some ⟨b, 0, none⟩)] w fun e w' => e = .returned (.int .i64 v) ∧ w = w' := by
  subst hv; exact used_walk b t all each u w hp hf
theorem fair_upd {u : Nat → Int} {c : Nat} {x : Int} (hf : Fair u) (hx : 0 ≤ x ∧ x ≤ 1099511627776) : Fair (upd u c x) := by
  intro k hk
  simp only [upd]
  split
  · exact hx
  · exact hf k hk

theorem known_walk (w : World) : Calls Try.prog 13 #[] w fun e w' => e = .returned (.bool true) ∧ Touch (fun k => w.heap.size ≤ k) w w' := by
  go_enter Try.func13, Try.ntmps13
  go_wp2_with fail
  refine (new_is _ _ 10 5 _ (by decide) (by decide)).mono ?_
  rintro e w1 ⟨rfl, hp1, ht1⟩
  go_wp2_with fail
  refine (take_no _ _ _ _ _ _ _ _ hp1 fair0 (by decide) (by decide) (by decide) (by decide)).mono ?_
  rintro e w2 ⟨rfl, hp2, ht2⟩
  go_wp2_with fail
  refine (take_yes _ _ _ _ _ _ _ _ hp2 fair0 (by decide) (by decide) (by decide) (by decide)).mono ?_
  rintro e w3 ⟨rfl, hp3, ht3⟩
  have hf3 : Fair (upd (fun _ => 0) (0 : Int).toNat ((fun _ => 0) (0 : Int).toNat + 5)) := fair_upd fair0 (by decide)
  go_wp2_with fail
  refine (used_is _ _ _ _ _ 5 _ hp3 hf3 (by decide)).mono ?_
  rintro e w4 ⟨rfl, rfl⟩
  go_wp2_with fail
  refine (of_is _ _ _ _ _ _ 5 _ hp3 (by decide)).mono ?_
  rintro e w4 ⟨rfl, rfl⟩
  go_wp2_with fail
  refine (of_is _ _ _ _ _ _ 0 _ hp3 (by decide)).mono ?_
  rintro e w4 ⟨rfl, rfl⟩
  go_wp2_with fail
  go_ret
  exact ⟨rfl, (ht1.mono (fun _ _ h => h.elim)).trans (((ht2.mono (fun _ _ h => by omega)).trans (ht3.mono (fun _ _ h => by omega))))⟩
end Go.Proofs.Ythpnppaighjhmaa
