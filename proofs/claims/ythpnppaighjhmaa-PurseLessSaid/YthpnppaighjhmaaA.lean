/- Shared words for the walks of the purse: a purse's block in memory, and what a call may turn. -/
import Derived.Test.YthpnppaighjhmaaRows
import Derived.WalkKit
import Derived.Deep.QuietTactic
import Derived.BigQuiet
import Derived.Deep.LoopGhost
import Derived.Outline
import Derived.Lib.Hide
namespace Go.Proofs.Ythpnppaighjhmaa
open Go.RowKit

/-- A purse's block. -/
def Pur (w : World) (t : TypeId) (b : Nat) (all each : Int) (u : Nat → Int) : Prop :=
  w.heap[b]? = some (.cells #[.int .i64 all, .int .i64 each, .int .i64 (u 0), .int .i64 (u 1), .int .i64 (u 2), .int .i64 (u 3)] t (0, 0))

theorem Pur.cells {w : World} {t : TypeId} {b : Nat} {all each : Int} {u : Nat → Int} (h : Pur w t b all each u) :
    w.cell? ⟨b, 0, none⟩ = some (.int .i64 all) ∧ w.cell? ⟨b, 1, none⟩ = some (.int .i64 each) ∧ (∀ k, k < 4 → w.cell? ⟨b, 2 + k, none⟩ = some (.int .i64 (u k))) ∧ ∀ k, w.frozen? ⟨b, k, none⟩ = false := by
  unfold Pur at h
  refine ⟨by simp [World.cell?, h], by simp [World.cell?, h], fun k hk => ?_, fun k => by simp [World.frozen?, h]⟩
  match k, hk with
  | 0, _ => simp [World.cell?, h]
  | 1, _ => simp [World.cell?, h]
  | 2, _ => simp [World.cell?, h]
  | 3, _ => simp [World.cell?, h]

def isB (c n : Int) : Bool := decide (0 ≤ c ∧ c < 4 ∧ 0 ≤ n)


theorem ret_bool {a b : Bool} (h : a = b) : Ending.returned (.bool a) = .returned (.bool b) := by rw [h]
theorem ret_int {k : IntKind} {a b : Int} (h : a = b) : Ending.returned (.int k a) = .returned (.int k b) := by rw [h]

theorem is_walk (b : Nat) (c n : Int) (w : World) :
    Calls Try.prog 22 #[.pointer (some ⟨b, 0, none⟩), .int .i64 c, .int .i64 n] w fun e w' => e = .returned (.bool (isB c n)) ∧ w = w' := by
  go_enter Try.func22, Try.ntmps22
  go_wp2
  all_goals (go_ret; exact ⟨ret_bool (by unfold isB; first | (symm; simp; omega) | simp [*]), rfl⟩)

theorem is_true (b : Nat) (c n : Int) (w : World) (h : isB c n = true) :
    Calls Try.prog 22 #[.pointer (some ⟨b, 0, none⟩), .int .i64 c, .int .i64 n] w fun e w' => e = .returned (.bool true) ∧ w = w' := by
  have := is_walk b c n w
  rwa [h] at this
theorem is_false (b : Nat) (c n : Int) (w : World) (h : isB c n = false) :
    Calls Try.prog 22 #[.pointer (some ⟨b, 0, none⟩), .int .i64 c, .int .i64 n] w fun e w' => e = .returned (.bool false) ∧ w = w' := by
  have := is_walk b c n w
  rwa [h] at this
theorem quiet_same {P : Program} {f : FuncId} {args : Array Value} {w : World} {n : Nat} {v : Value}
    (h : Calls P f args (w.drewN n) fun e w' => e = .returned v ∧ w.drewN n = w') : Calls P f args (w.drewN n) fun e w'' => e = .returned v ∧ ∃ m, w'' = w.drewN m :=
  h.mono fun _ _ ⟨he, hm⟩ => ⟨he, n, hm.symm⟩

theorem is_nil (c n : Int) (w : World) :
    Calls Try.prog 22 #[.pointer none, .int .i64 c, .int .i64 n] w fun e w' => e = .returned (.bool false) ∧ w = w' := by
  go_enter Try.func22, Try.ntmps22
  go_wp2
  all_goals (go_ret; exact ⟨rfl, rfl⟩)


/-- From w to w' only blocks of S, of those that were there, may have turned. -/
structure Touch (S : Nat → Prop) (w w' : World) : Prop where
  os : w'.os = w.os
  tape : w'.tape = w.tape
  output : w'.output = w.output
  size : w.heap.size ≤ w'.heap.size
  block : ∀ k, k < w.heap.size → ¬ S k → w'.heap[k]? = w.heap[k]?

theorem Touch.refl (S : Nat → Prop) (w : World) : Touch S w w := ⟨rfl, rfl, rfl, Nat.le_refl _, fun _ _ _ => rfl⟩
theorem Touch.trans {S : Nat → Prop} {a b c : World} (h : Touch S a b) (k : Touch S b c) : Touch S a c :=
  ⟨k.os.trans h.os, k.tape.trans h.tape, k.output.trans h.output, Nat.le_trans h.size k.size, fun i hi hs => (k.block i (Nat.lt_of_lt_of_le hi h.size) hs).trans (h.block i hi hs)⟩
theorem Touch.mono {S S' : Nat → Prop} {a b : World} (h : Touch S a b) (hs : ∀ k, k < a.heap.size → S k → S' k) : Touch S' a b :=
  ⟨h.os, h.tape, h.output, h.size, fun i hi hn => h.block i hi fun hk => hn (hs i hi hk)⟩
theorem Touch.drewN {S : Nat → Prop} {a b : World} (h : Touch S a b) (n : Nat) : Touch S a (b.drewN n) := h.trans ⟨rfl, rfl, rfl, Nat.le_refl _, fun _ _ _ => rfl⟩
theorem Touch.drew {S : Nat → Prop} {a b : World} (h : Touch S a b) : Touch S a b.drew := h.trans ⟨rfl, rfl, rfl, Nat.le_refl _, fun _ _ _ => rfl⟩
theorem Touch.alloc {S : Nat → Prop} {a b : World} (h : Touch S a b) (o : Obj) : Touch S a (b.alloc o) :=
  h.trans ⟨rfl, rfl, rfl, by simp, fun k hk _ => Below.heap_alloc _ _ _ hk⟩
theorem Touch.setCell {S : Nat → Prop} {a b : World} (h : Touch S a b) {p : Addr} (hp : p.block < a.heap.size → S p.block) (u : Value) : Touch S a (b.setCell p u) :=
  ⟨h.os, h.tape, h.output, by simpa [World.setCell] using h.size, fun k hk hs => (Below.heap_setCell _ _ _ _ (by rintro rfl; exact hs (hp hk))).trans (h.block k hk hs)⟩
theorem Touch.below {B : Nat} {a b : World} (h : Touch (fun k => B ≤ k) a b) (hB : B ≤ a.heap.size) : Below B a b :=
  ⟨h.os, h.tape, h.output, h.size, fun k hk => h.block k (by omega) (by omega)⟩

def ofv (u : Nat → Int) (c : Int) : Int := if 0 ≤ c ∧ c < 4 then u c.toNat else 0
def used (u : Nat → Int) : Int := u 0 + u 1 + u 2 + u 3
def Fair (u : Nat → Int) : Prop := ∀ k, k < 4 → 0 ≤ u k ∧ u k ≤ 1099511627776

theorem of_walk (b : Nat) (t : TypeId) (all each : Int) (u : Nat → Int) (c : Int) (w : World) (hp : Pur w t b all each u) :
    Calls Try.prog 12 #[.pointer (some ⟨b, 0, none⟩), .int .i64 c] w fun e w' => e = .returned (.int .i64 (ofv u c)) ∧ w = w' := by
  obtain ⟨_, _, hu, _⟩ := hp.cells
  by_cases hc : 0 ≤ c ∧ c < 4
  · obtain ⟨c, rfl⟩ := Int.eq_ofNat_of_zero_le hc.1
    have hc4 : c < 4 := by omega
    have hu := hu c hc4
    have Hv := Lib.hid (show ofv u (c : Int) = u c by simp [ofv]; omega)
    have hi : isB c 0 = true := by simp [isB]; omega
    have hib := Lib.hid hi
    clear hi hc
    go_enter Try.func12, Try.ntmps12
    go_wp2_with (go_at_call 22; refine (is_walk _ _ _ _).mono ?_; rintro e w' ⟨rfl, rfl⟩; rw [hib.out])
    go_ret
    exact ⟨ret_int Hv.out.symm, rfl⟩
  · have hi : isB c 0 = false := by simp [isB]; omega
    have hib := Lib.hid hi
    have Hv := Lib.hid (show ofv u c = 0 by simp [ofv, hc])
    clear hi hc
    go_enter Try.func12, Try.ntmps12
    go_wp2_with (go_at_call 22; refine (is_walk _ _ _ _).mono ?_; rintro e w' ⟨rfl, rfl⟩; rw [hib.out])
    go_ret
    exact ⟨ret_int Hv.out.symm, rfl⟩

theorem of_nil (c : Int) (w : World) : Calls Try.prog 12 #[.pointer none, .int .i64 c] w fun e w' => e = .returned (.int .i64 0) ∧ w = w' := by
  go_enter Try.func12, Try.ntmps12
  go_wp2_with (go_at_call 22; refine (is_nil _ _ _).mono ?_; rintro e w' ⟨rfl, rfl⟩)
  go_ret
  exact ⟨rfl, rfl⟩

def usedTo (u : Nat → Int) : Nat → Int
  | 0 => 0
  | k + 1 => usedTo u k + u k

theorem usedTo_bd {u : Nat → Int} (hf : Fair u) (k : Nat) (hk : k ≤ 4) : 0 ≤ usedTo u k ∧ usedTo u k ≤ k * 1099511627776 := by
  induction k with
  | zero => simp [usedTo]
  | succ k ih => have := ih (by omega); have := hf k (by omega); simp only [usedTo]; omega

theorem used_walk (b : Nat) (t : TypeId) (all each : Int) (u : Nat → Int) (w : World) (hp : Pur w t b all each u) (hf : Fair u) :
    Calls Try.prog 19 #[.pointer (some ⟨b, 0, none⟩)] w fun e w' => e = .returned (.int .i64 (used u)) ∧ w = w' := by
  have Hp := Lib.hid hp
  clear hp
  have Hf := Lib.hid hf
  clear hf
  go_enter Try.func19, Try.ntmps19
  go_wp2
  go_loop [3, 4, 5] (fun n _ i => ∃ k : Nat, k ≤ 4 ∧ i = .int .i64 k ∧ n = .int .i64 (usedTo u k)) (fun _ _ i => 4 - (intOf i).toNat)
  case atStart => exact ⟨0, by omega, rfl, rfl⟩
  case round =>
    obtain ⟨k, hk, rfl, rfl⟩ := hrel
    by_cases hlt : k < 4
    · have hb := usedTo_bd Hf.out k hk
      have hv := Hf.out k hlt
      have Ho : ofv u (k : Int) = u k := by simp [ofv]; omega
      have Ho := Lib.hid Ho
      go_wp2_with (go_at_call 12; refine (of_walk _ _ _ _ _ _ _ Hp.out).mono ?_; rintro e w' ⟨rfl, rfl⟩; rw [Ho.out])
      go_round
      case rel => exact ⟨k + 1, by omega, by go_num, by simp only [usedTo]⟩
      case measure => simp [intOf]; omega
    · obtain rfl : k = 4 := by omega
      go_wp2
      go_ret
      exact ⟨ret_int (by simp [usedTo, used]), rfl⟩

theorem used_nil (w : World) : Calls Try.prog 19 #[.pointer none] w fun e w' => e = .returned (.int .i64 0) ∧ w = w' := by
  go_enter Try.func19, Try.ntmps19
  go_wp2
  go_loop [3, 4, 5] (fun n _ i => ∃ k : Nat, k ≤ 4 ∧ i = .int .i64 k ∧ n = .int .i64 0) (fun _ _ i => 4 - (intOf i).toNat)
  case atStart => exact ⟨0, by omega, rfl, rfl⟩
  case round =>
    obtain ⟨k, hk, rfl, rfl⟩ := hrel
    by_cases hlt : k < 4
    · go_wp2_with (go_at_call 12; refine (of_nil _ _).mono ?_; rintro e w' ⟨rfl, rfl⟩)
      go_round
      case rel => exact ⟨k + 1, by omega, by go_num, rfl⟩
      case measure => simp [intOf]; omega
    · obtain rfl : k = 4 := by omega
      go_wp2
      go_ret
      exact ⟨rfl, rfl⟩

/-- Behind a take or a give. -/
def upd (u : Nat → Int) (c : Nat) (x : Int) : Nat → Int := fun k => if k = c then x else u k

theorem Pur.set {w : World} {t : TypeId} {b : Nat} {all each : Int} {u : Nat → Int} (h : Pur w t b all each u) {c : Nat} (hc : c < 4) (x : Int) :
    Pur (w.setCell ⟨b, 2 + c, none⟩ (.int .i64 x)) t b all each (upd u c x) := by
  have hlt := lt_of_block h
  unfold Pur at h ⊢
  have h' : w.heap[b] = .cells #[.int .i64 all, .int .i64 each, .int .i64 (u 0), .int .i64 (u 1), .int .i64 (u 2), .int .i64 (u 3)] t (0, 0) := by simpa [Array.getElem?_eq_getElem hlt] using h
  show (w.heap.modify b _)[b]? = _
  rw [Array.getElem?_eq_getElem (by simpa using hlt), Array.getElem_modify_self, h']
  match c, hc with
  | 0, _ => simp [upd]
  | 1, _ => simp [upd]
  | 2, _ => simp [upd]
  | 3, _ => simp [upd]
theorem Pur.drewN {w : World} {t : TypeId} {b : Nat} {all each : Int} {u : Nat → Int} (h : Pur w t b all each u) (n : Nat) : Pur (w.drewN n) t b all each u := h

def takeB (all each : Int) (u : Nat → Int) (c n : Int) : Bool := decide (0 ≤ c ∧ c < 4 ∧ 0 ≤ n ∧ n ≤ each - u c.toNat ∧ n ≤ all - used u)
def takeU (all each : Int) (u : Nat → Int) (c n : Int) : Nat → Int := if takeB all each u c n then upd u c.toNat (u c.toNat + n) else u

theorem take_walk (b : Nat) (t : TypeId) (all each : Int) (u : Nat → Int) (c n : Int) (w : World) (hp : Pur w t b all each u) (hf : Fair u)
    (ha : 0 ≤ all ∧ all ≤ 1099511627776) (he : 0 ≤ each ∧ each ≤ 1099511627776) (hn : -9223372036854775808 ≤ n ∧ n ≤ 9223372036854775807) :
    Calls Try.prog 11 #[.pointer (some ⟨b, 0, none⟩), .int .i64 c, .int .i64 n] w fun e w' => e = .returned (.bool (takeB all each u c n)) ∧ Pur w' t b all each (takeU all each u c n) ∧ Touch (· = b) w w' := by
  by_cases hi : isB c n = true
  · have hi' := hi
    simp [isB] at hi'
    obtain ⟨c, rfl⟩ := Int.eq_ofNat_of_zero_le hi'.1
    obtain ⟨h0, h1, hu, hz⟩ := hp.cells
    have hc4 : c < 4 := by omega
    have hu := hu c hc4
    have hz := hz (2 + c)
    have hfc := hf c hc4
    have hus : 0 ≤ used u ∧ used u ≤ 4398046511104 := by
      have := hf 0 (by omega); have := hf 1 (by omega); have := hf 2 (by omega); have := hf 3 (by omega); simp only [used]; omega
    have hn0 : 0 ≤ n := hi'.2.2
    have hib := Lib.hid hi
    have Hp := Lib.hid hp
    have Hf := Lib.hid hf
    clear hi hi' hp hf
    by_cases ha1 : each - u c < n
    · have ht := Lib.hid (show takeB all each u (c : Int) n = false by simp [takeB]; omega)
      go_enter Try.func11, Try.ntmps11
      go_wp2
      go_quiet ((first | (go_at_call 22; exact quiet_same (is_true _ _ _ _ hib.out)) | (go_at_call 19; exact quiet_same (used_walk _ _ _ _ _ _ Hp.out Hf.out))))
      go_wp2
      go_ret
      exact ⟨ret_bool ht.out.symm, by unfold takeU; rw [if_neg (by rw [ht.out]; simp)]; exact Hp.out, (Touch.refl _ _).drewN _⟩
    · have hd : decide (each - u c < n) = false := by simpa using ha1
      by_cases ha2 : all - used u < n
      · have ht := Lib.hid (show takeB all each u (c : Int) n = false by simp [takeB]; omega)
        go_enter Try.func11, Try.ntmps11
        go_wp2
        go_quiet ((first | (go_at_call 22; exact quiet_same (is_true _ _ _ _ hib.out)) | (go_at_call 19; exact quiet_same (used_walk _ _ _ _ _ _ Hp.out Hf.out))))
        go_wp2
        go_ret
        exact ⟨ret_bool ht.out.symm, by unfold takeU; rw [if_neg (by rw [ht.out]; simp)]; exact Hp.out, (Touch.refl _ _).drewN _⟩
      · have ht := Lib.hid (show takeB all each u (c : Int) n = true by simp [takeB]; omega)
        go_enter Try.func11, Try.ntmps11
        go_wp2
        go_quiet ((first | (go_at_call 22; exact quiet_same (is_true _ _ _ _ hib.out)) | (go_at_call 19; exact quiet_same (used_walk _ _ _ _ _ _ Hp.out Hf.out))))
        go_wp2
        go_region
        all_goals
          go_wp2
          go_ret
          exact ⟨ret_bool ht.out.symm, by unfold takeU; rw [if_pos ht.out]; exact Hp.out.set hc4 _, ((Touch.refl (· = b) w).drewN _).setCell (fun _ => rfl) _⟩
  · have hi : isB c n = false := by simpa using hi
    have hib := Lib.hid hi
    have ht := Lib.hid (show takeB all each u (c : Int) n = false by simp [isB] at hi; simp [takeB]; omega)
    have Hp := Lib.hid hp
    clear hi hp hf
    go_enter Try.func11, Try.ntmps11
    go_wp2
    go_quiet (((go_at_call 22; exact quiet_same (is_false _ _ _ _ hib.out))))
    go_wp2
    go_ret
    exact ⟨ret_bool ht.out.symm, by unfold takeU; rw [if_neg (by rw [ht.out]; simp)]; exact Hp.out, (Touch.refl _ _).drewN _⟩

theorem take_nil (c n : Int) (w : World) : Calls Try.prog 11 #[.pointer none, .int .i64 c, .int .i64 n] w fun e w' => e = .returned (.bool false) ∧ Touch (fun _ => False) w w' := by
  go_enter Try.func11, Try.ntmps11
  go_wp2
  go_quiet (((go_at_call 22; exact quiet_same (is_nil _ _ _))))
  go_wp2
  go_ret
  exact ⟨rfl, (Touch.refl _ _).drewN _⟩

def giveU (u : Nat → Int) (c n : Int) : Nat → Int := if isB c n then upd u c.toNat (u c.toNat - if u c.toNat < n then u c.toNat else n) else u

theorem give_walk (b : Nat) (t : TypeId) (all each : Int) (u : Nat → Int) (c n : Int) (w : World) (hp : Pur w t b all each u) (hf : Fair u) :
    Calls Try.prog 16 #[.pointer (some ⟨b, 0, none⟩), .int .i64 c, .int .i64 n] w fun e w' => e = .returned (.tuple #[]) ∧ Pur w' t b all each (giveU u c n) ∧ Touch (· = b) w w' := by
  by_cases hi : isB c n = true
  · have hi' := hi
    simp [isB] at hi'
    obtain ⟨c, rfl⟩ := Int.eq_ofNat_of_zero_le hi'.1
    obtain ⟨h0, h1, hu, hz⟩ := hp.cells
    have hc4 : c < 4 := by omega
    have hu := hu c hc4
    have hz := hz (2 + c)
    have hfc := hf c hc4
    have hn0 : 0 ≤ n := hi'.2.2
    have hib := Lib.hid hi
    have Hp := Lib.hid hp
    have Hf := Lib.hid hf
    clear hi hi' hp hf
    go_enter Try.func16, Try.ntmps16
    go_wp2_with (go_at_call 22; refine (is_true _ _ _ _ hib.out).mono ?_; rintro e w' ⟨rfl, rfl⟩)
    go_region
    go_end0
    exact ⟨rfl, by unfold giveU; rw [if_pos hib.out]; exact Hp.out.set hc4 _, (((Touch.refl (· = b) w).setCell (fun _ => rfl) _).drew)⟩
  · have hi : isB c n = false := by simpa using hi
    have hib := Lib.hid hi
    have Hp := Lib.hid hp
    clear hi hp hf
    go_enter Try.func16, Try.ntmps16
    go_wp2_with (go_at_call 22; refine (is_false _ _ _ _ hib.out).mono ?_; rintro e w' ⟨rfl, rfl⟩)
    go_end0
    exact ⟨rfl, by unfold giveU; rw [if_neg (by rw [hib.out]; simp)]; exact Hp.out, (Touch.refl _ _)⟩

theorem bounded_walk (n : Int) (w : World) : Calls Try.prog 21 #[.int .i64 n] w fun e w' => e = .returned (.int .i64 (min (max n 0) 1099511627776)) ∧ w = w' := by
  go_enter Try.func21, Try.ntmps21
  go_wp2
  all_goals (go_ret; exact ⟨ret_int (by omega), rfl⟩)

theorem give_nil (c n : Int) (w : World) : Calls Try.prog 16 #[.pointer none, .int .i64 c, .int .i64 n] w fun e w' => e = .returned (.tuple #[]) ∧ w = w' := by
  go_enter Try.func16, Try.ntmps16
  go_wp2_with (go_at_call 22; refine (is_nil _ _ _).mono ?_; rintro e w' ⟨rfl, rfl⟩)
  go_end0
  exact ⟨rfl, rfl⟩

theorem new_walk (all each : Int) (w : World) : Calls Try.prog 10 #[.int .i64 all, .int .i64 each] w fun e w' => e = .returned (.pointer (some ⟨w.heap.size, 0, none⟩)) ∧
    Pur w' 39 w.heap.size (min (max all 0) 1099511627776) (min (max each 0) 1099511627776) (fun _ => 0) ∧ Touch (fun _ => False) w w' ∧ w'.heap.size = w.heap.size + 1 := by
  go_enter Try.func10, Try.ntmps10
  go_wp2_with (go_at_call 21; refine (bounded_walk _ _).mono ?_; rintro e w' ⟨rfl, rfl⟩)
  go_ret
  exact ⟨rfl, by unfold Pur; exact heap_alloc_new _ _, (Touch.refl _ _).alloc _, by simp⟩
end Go.Proofs.Ythpnppaighjhmaa
