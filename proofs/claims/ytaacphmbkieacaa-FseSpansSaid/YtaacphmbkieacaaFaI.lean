/- fse: rows and tables in memory; digits; a row copied. -/
import Derived.Test.YtaacphmbkieacaaFaG
namespace Go.Proofs.Ytaacphmbkieacaa
open Go.RowKit Go.WideShapes Fs
set_option linter.unusedVariables false
set_option linter.unusedSimpArgs false
set_option maxRecDepth 100000

/-- A block, the first n cells of which are known, that can be written. -/
def RowAt (w : World) (g : Nat) (e : TypeId) (n : Nat) (F : Nat → Value) : Prop := ∃ cur : Array Value, w.heap[g]? = some (.cells cur e (0, 0)) ∧ ∀ i, i < n → cur[i]? = some (F i)
theorem RowAt.get {w : World} {g : Nat} {e : TypeId} {n : Nat} {F : Nat → Value} (h : RowAt w g e n F) {i : Nat} (hi : i < n) : w.cell? ⟨g, i, none⟩ = some (F i) := by
  obtain ⟨cur, h1, h2⟩ := h
  rw [cell_of_row _ _ _ _ _ _ h1]; exact h2 i hi
theorem RowAt.free {w : World} {g : Nat} {e : TypeId} {n : Nat} {F : Nat → Value} (h : RowAt w g e n F) (i : Nat) : w.frozen? ⟨g, i, none⟩ = false := by
  obtain ⟨cur, h1, _⟩ := h
  simp [World.frozen?, h1]
theorem RowAt.lt {w : World} {g : Nat} {e : TypeId} {n : Nat} {F : Nat → Value} (h : RowAt w g e n F) : g < w.heap.size := by
  obtain ⟨cur, h1, _⟩ := h
  exact lt_of_block h1
theorem RowAt.congr {w : World} {g : Nat} {e : TypeId} {n : Nat} {F G : Nat → Value} (h : RowAt w g e n F) (e' : ∀ i, i < n → F i = G i) : RowAt w g e n G := by
  obtain ⟨cur, h1, h2⟩ := h
  exact ⟨cur, h1, fun i hi => by rw [h2 i hi, e' i hi]⟩
theorem RowAt.set {w : World} {g : Nat} {e : TypeId} {n : Nat} {F : Nat → Value} (h : RowAt w g e n F) (i : Nat) (u : Value) : RowAt (w.setCell ⟨g, i, none⟩ u) g e n (fun k => if k = i then u else F k) := by
  obtain ⟨cur, h1, h2⟩ := h
  refine ⟨_, heap_setCell_same h1 u, fun j hj => ?_⟩
  rw [Array.getElem?_setIfInBounds]
  have hj2 := (Array.getElem?_eq_some_iff.1 (h2 j hj)).1
  show _ = some (if j = i then u else F j)
  by_cases e : i = j
  · subst e; rw [if_pos rfl, if_pos hj2, if_pos rfl]
  · rw [if_neg e, if_neg (fun h => e h.symm), h2 j hj]
theorem RowAt.touch {w w' : World} {g : Nat} {e : TypeId} {n : Nat} {F : Nat → Value} {S : Nat → Prop} (h : RowAt w g e n F) (ht : Touch S w w') (hs : ¬ S g) : RowAt w' g e n F := by
  obtain ⟨cur, h1, h2⟩ := h
  exact ⟨cur, ht.heap h1 hs, h2⟩
theorem RowAt.other {w : World} {g g' : Nat} {e : TypeId} {n : Nat} {F : Nat → Value} (h : RowAt w g e n F) (hg : g ≠ g') (i : Nat) (u : Value) : RowAt (w.setCell ⟨g', i, none⟩ u) g e n F :=
  h.touch ((Touch.refl (· = g') w).setCell (p := ⟨g', i, none⟩) (fun _ => rfl) u) hg
theorem RowAt.ints {w : World} {g n : Nat} {z : Nat → Int} {e : TypeId} (h : RowAt w g e n (fun i => .int .i64 (z i))) : Ints .i64 w (some ⟨g, 0, none⟩) g 0 n z :=
  ⟨fun _ => rfl, fun i hi => by rw [Nat.zero_add]; exact h.get hi⟩
theorem rowAt_own {w : World} {e : TypeId} {B : Nat} {v : Value} {n : Nat} {z : Nat → Int} (h : w.ownsRow B e 1 v n (cellsZ .i64 z n)) (hn : 0 < n) : ∃ g c, v = .slice (some ⟨g, 0, none⟩) n c ∧ B ≤ g ∧ RowAt w g e n (fun i => .int .i64 (z i)) := by
  rcases h.2 with ⟨_, h⟩ | ⟨g, cap, cur, rfl, hB, h1, h2, _, h4, h5⟩
  · omega
  · refine ⟨g, cap, rfl, hB, cur, h1, fun i hi => ?_⟩
    have := congrArg (·[i]?) h5
    simp only [Nat.mul_one] at this
    rw [List.getElem?_take_of_lt hi, cellsZ_get hi, Array.getElem?_toList] at this
    exact this

/-- A state's three cells. -/
def entC (Sy Bi : Nat → Nat) (Ba : Nat → Int) (i : Nat) : Value := if i % 3 = 0 then .int .i64 (Sy (i / 3)) else if i % 3 = 1 then .int .i64 (Bi (i / 3)) else .int .i64 (Ba (i / 3))
theorem ent0 (Sy Bi : Nat → Nat) (Ba : Nat → Int) (u : Nat) : entC Sy Bi Ba (u * 3) = .int .i64 (Sy u) := by
  unfold entC; rw [if_pos (by omega), show u * 3 / 3 = u by omega]
theorem ent1 (Sy Bi : Nat → Nat) (Ba : Nat → Int) (u : Nat) : entC Sy Bi Ba (u * 3 + 1) = .int .i64 (Bi u) := by
  unfold entC; rw [if_neg (by omega), if_pos (by omega), show (u * 3 + 1) / 3 = u by omega]
theorem ent2 (Sy Bi : Nat → Nat) (Ba : Nat → Int) (u : Nat) : entC Sy Bi Ba (u * 3 + 2) = .int .i64 (Ba u) := by
  unfold entC; rw [if_neg (by omega), if_neg (by omega), show (u * 3 + 2) / 3 = u by omega]
/-- A table of N states. -/
def TabAt (w : World) (g N : Nat) (Sy Bi : Nat → Nat) (Ba : Nat → Int) : Prop := RowAt w g 34 (N * 3) (entC Sy Bi Ba)
theorem TabAt.get {w : World} {g N : Nat} {Sy Bi : Nat → Nat} {Ba : Nat → Int} (h : TabAt w g N Sy Bi Ba) {u : Nat} (hu : u < N) : w.cell? ⟨g, u * 3, none⟩ = some (.int .i64 (Sy u)) ∧ w.cell? ⟨g, u * 3 + 1, none⟩ = some (.int .i64 (Bi u)) ∧ w.cell? ⟨g, u * 3 + 2, none⟩ = some (.int .i64 (Ba u)) :=
  ⟨by rw [RowAt.get h (by omega), ent0], by rw [RowAt.get h (by omega), ent1], by rw [RowAt.get h (by omega), ent2]⟩
section
variable {w : World} {g N : Nat} {Sy Bi : Nat → Nat} {Ba : Nat → Int} (h : TabAt w g N Sy Bi Ba) (u : Nat)
include h
theorem TabAt.set0 (v : Nat) : TabAt (w.setCell ⟨g, u * 3, none⟩ (.int .i64 v)) g N (upd Sy u v) Bi Ba :=
  (RowAt.set h (u * 3) _).congr fun i hi => by
    unfold entC upd
    by_cases e : i = u * 3
    · subst e; rw [if_pos rfl, if_pos (by omega), if_pos (by omega)]
    · rw [if_neg e]
      by_cases e0 : i % 3 = 0
      · rw [if_pos e0, if_pos e0, if_neg (by omega)]
      · rw [if_neg e0, if_neg e0]
theorem TabAt.set1 (v : Nat) : TabAt (w.setCell ⟨g, u * 3 + 1, none⟩ (.int .i64 v)) g N Sy (upd Bi u v) Ba :=
  (RowAt.set h (u * 3 + 1) _).congr fun i hi => by
    unfold entC upd
    by_cases e : i = u * 3 + 1
    · subst e; rw [if_pos rfl, if_neg (by omega), if_pos (by omega), if_pos (by omega)]
    · rw [if_neg e]
      by_cases e0 : i % 3 = 0
      · rw [if_pos e0, if_pos e0]
      · rw [if_neg e0, if_neg e0]
        by_cases e1 : i % 3 = 1
        · rw [if_pos e1, if_pos e1, if_neg (by omega)]
        · rw [if_neg e1, if_neg e1]
theorem TabAt.set2 (v : Int) : TabAt (w.setCell ⟨g, u * 3 + 2, none⟩ (.int .i64 v)) g N Sy Bi (upd Ba u v) :=
  (RowAt.set h (u * 3 + 2) _).congr fun i hi => by
    unfold entC upd
    by_cases e : i = u * 3 + 2
    · subst e; rw [if_pos rfl, if_neg (by omega), if_neg (by omega), if_pos (by omega)]
    · rw [if_neg e]
      by_cases e0 : i % 3 = 0
      · rw [if_pos e0, if_pos e0]
      · rw [if_neg e0, if_neg e0]
        by_cases e1 : i % 3 = 1
        · rw [if_pos e1, if_pos e1]
        · rw [if_neg e1, if_neg e1, if_neg (by omega)]
end
theorem Try.info34 : (Try.prog.info? 34).map (fun i => (i.zero, i.size, i.bytes)) = some (some (.agg #[.int .i64 0, .int .i64 0, .int .i64 0]), 3, 24) := by kernel_rfl
theorem made3_get (z : Value) (n i : Nat) (h : i < n * 3) : (madeCells #[z, z, z] (n * 3))[i]? = some z := by
  have h3 : i % 3 = 0 ∨ i % 3 = 1 ∨ i % 3 = 2 := by omega
  rcases h3 with h3 | h3 | h3 <;> simp [madeCells, h, h3]
theorem made_tab {w : World} {g N : Nat} (h : w.heap[g]? = some (.cells (madeCells #[.int .i64 0, .int .i64 0, .int .i64 0] (N * 3)) 34 (0, 0))) : TabAt w g N (fun _ => 0) (fun _ => 0) (fun _ => 0) :=
  ⟨_, h, fun i hi => by rw [made3_get _ N i hi]; unfold entC; split; rfl; split <;> rfl⟩
theorem make_ents (N : Nat) (hN : N ≤ 100000) (w : World) : (Instr.makeSlice 29 (.int .i64 N) (.int .i64 N)).run Try.prog w = .ok (.slice (some ⟨w.heap.size, 0, none⟩) N N) (w.alloc (.cells (madeCells #[.int .i64 0, .int .i64 0, .int .i64 0] (N * 3)) 34)) := by
  obtain ⟨i0, hi, hz0, hz1, hz2⟩ := info_parts Try.info34
  have := run_make (P := Try.prog) w 29 34 i0 (.agg #[.int .i64 0, .int .i64 0, .int .i64 0]) Try.underlying29 hi hz0 .i64 .i64 N N (by omega) (by omega) (by rw [hz2]; omega) (by omega)
  rw [this, hz1]
  simp [Value.cells]

theorem blen_half (x : Nat) (h : 0 < x) : blen x = blen (x / 2) + 1 := by
  obtain ⟨a, b, c⟩ := blen_pos h
  obtain ⟨k, hk⟩ : ∃ k, blen x = k + 1 := ⟨blen x - 1, by omega⟩
  rw [hk] at a b ⊢
  simp only [Nat.add_sub_cancel] at a
  congr 1
  cases k with
  | zero =>
    have : x = 1 := by simp at a b; omega
    subst this; rfl
  | succ k =>
    rw [Nat.pow_succ] at a b
    have h2 := blen_is (x := x / 2) (k := k) (by omega) (by omega)
    rw [h2]
theorem digits_walk (x : Nat) (hx : x ≤ 1000000) (w : World) : Calls Try.prog 37 #[.int .i64 x] w fun e w' => e = .returned (.int .i64 (blen x : Nat)) ∧ w = w' := by
  obtain ⟨R, hR⟩ : ∃ R, blen x = R := ⟨_, rfl⟩
  rw [hR]
  have HR := Lib.hid hR
  clear hR
  go_enter Try.func37, Try.ntmps37
  go_wp2_with fail
  go_loop [0, 3] (fun n k => ∃ a j : Nat, a ≤ 1000000 ∧ j + a ≤ x ∧ n = .int .i64 a ∧ k = .int .i64 j ∧ j + blen a = R) (fun n _ => (intOf n).toNat)
  case atStart => exact ⟨x, 0, hx, by omega, rfl, rfl, by have := HR.out; omega⟩
  case round =>
    obtain ⟨a, j, ha, hja, rfl, rfl, hb⟩ := hrel
    have HB := Lib.hid hb
    clear hb
    by_cases h0 : a = 0
    · subst h0
      have : j = R := by have := HB.out; simpa [blen] using this
      subst this
      go_wp2_with fail
      go_ret
      exact ⟨rfl, rfl⟩
    · have hh := blen_half a (by omega)
      have HH := Lib.hid hh
      have hpos : 0 < a := by omega
      clear hh h0
      go_wp2_with fail
      go_round
      case rel => exact ⟨a / 2, j + 1, by omega, by omega, by go_num, by go_num, by have := HH.out; have := HB.out; omega⟩
      case measure => simp [intOf]; omega
end Go.Proofs.Ytaacphmbkieacaa
