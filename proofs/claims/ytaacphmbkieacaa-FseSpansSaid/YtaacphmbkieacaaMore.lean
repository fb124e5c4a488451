/- Rows of whole numbers, own blocks, what is appended: over any program. -/
import Derived.Test.YtaacphmbkieacaaMem
import Derived.Test.YtaacphmbkieacaaOpen
import Derived.Laws.Small
import Derived.Laws.StructEq
import Derived.Laws.Cover2
import Derived.Laws.BytesArg
import Derived.KernelRfl
namespace Go.Proofs.Ytaacphmbkieacaa
open Go.RowKit Go.WideShapes
set_option linter.unusedVariables false

theorem heap_alloc_2 (w : World) (o o' : Obj) : ((w.alloc o).alloc o').heap[w.heap.size + 1]? = some o' := by
  have := heap_alloc_new (w.alloc o) o'
  rwa [show (w.alloc o).heap.size = w.heap.size + 1 from by simp] at this
theorem results_cell {fn : Func} {a : Tmp} {t : TypeId} (h : fn.results = #[.cell a t]) (tmps : Array Value) (P : Program) (w : World) (p : Addr) (v : Value) (hp : tmps.getD a undef = .pointer (some p)) (hl : (loadVar t p).run P w = .ok v w) :
    (results fn tmps).run P w = .ok v w := by
  have hp' : tmps[a]?.getD undef = .pointer (some p) := by simpa using hp
  simp [results, h, hp', asAddr, hl]
theorem Touch.owned {w w' : World} (h : Touch (fun _ => False) w w') : Below w.heap.size w w' := h.none.below (Nat.le_refl _)
theorem Touch.new (w : World) (o : Obj) : Touch (fun _ => False) w (w.alloc o) := (Touch.refl _ w).alloc o
theorem Touch.eq_drewN (w : World) (n : Nat) {S : Nat → Prop} : Touch S w (w.drewN n) := (Touch.refl S w).drewN n

/-- Whole numbers of a function, as cells. -/
def cellsZ (k : IntKind) (z : Nat → Int) (n : Nat) : List Value := (List.range n).map fun i => .int k (z i)
theorem cellsZ_succ (k : IntKind) (z : Nat → Int) (n : Nat) : cellsZ k z (n + 1) = cellsZ k z n ++ [.int k (z n)] := by simp [cellsZ, List.range_succ]
theorem cellsZ_length (k : IntKind) (z : Nat → Int) (n : Nat) : (cellsZ k z n).length = n := by simp [cellsZ]
theorem cellsZ_get {k : IntKind} {z : Nat → Int} {n i : Nat} (h : i < n) : (cellsZ k z n)[i]? = some (.int k (z i)) := by simp [cellsZ, h]
theorem cellsZ_congr {k : IntKind} {z z' : Nat → Int} {n : Nat} (h : ∀ i, i < n → z i = z' i) : cellsZ k z n = cellsZ k z' n := by
  unfold cellsZ; exact List.map_congr_left (fun i hi => by rw [h i (List.mem_range.1 hi)])
theorem cellsZ_append (k : IntKind) (z z' : Nat → Int) (n m : Nat) : cellsZ k z n ++ cellsZ k z' m = cellsZ k (fun i => if i < n then z i else z' (i - n)) (n + m) := by
  apply List.ext_getElem?
  intro i
  by_cases h : i < n
  · rw [List.getElem?_append_left (by rw [cellsZ_length]; exact h), cellsZ_get h, cellsZ_get (by omega), if_pos h]
  · rw [List.getElem?_append_right (by rw [cellsZ_length]; omega), cellsZ_length]
    by_cases h2 : i < n + m
    · rw [cellsZ_get (by omega), cellsZ_get h2, if_neg h]
    · rw [List.getElem?_eq_none (by rw [cellsZ_length]; omega), List.getElem?_eq_none (by rw [cellsZ_length]; omega)]

/-- Whole numbers that can be read. -/
structure Ints (k : IntKind) (w : World) (a : Option Addr) (b off len : Nat) (z : Nat → Int) : Prop where
  at_ : 0 < len → a = some ⟨b, off, none⟩
  cell : ∀ i, i < len → w.cell? ⟨b, off + i, none⟩ = some (.int k (z i))
theorem Ints.touch {k : IntKind} {w w' : World} {a : Option Addr} {b off len : Nat} {z : Nat → Int} (h : Ints k w a b off len z) (ht : Touch (fun _ => False) w w') : Ints k w' a b off len z :=
  ⟨h.at_, fun i hi => ht.cell (h.cell i hi) id⟩
theorem Ints.touchS {k : IntKind} {w w' : World} {a : Option Addr} {b off len : Nat} {z : Nat → Int} {S : Nat → Prop} (h : Ints k w a b off len z) (ht : Touch S w w') (hs : 0 < len → ¬ S b) : Ints k w' a b off len z :=
  ⟨h.at_, fun i hi => ht.cell (h.cell i hi) (hs (by omega))⟩
theorem ints_of {k : IntKind} {w : World} {a : Option Addr} {b off len cap : Nat} {z : Nat → Int} (h : IntsIn k w a b off len cap z) : Ints k w a b off len z := ⟨h.at_, h.cell⟩
theorem ints_row {k : IntKind} {w : World} {e : TypeId} {v : Value} {n : Nat} {z : Nat → Int} (h : w.ownsRow 0 e 1 v n (cellsZ k z n)) : ∃ a b c, v = .slice a n c ∧ Ints k w a b 0 n z := by
  rcases row_form h with ⟨rfl, hn⟩ | ⟨g, c, rfl⟩
  · exact ⟨none, 0, 0, by rw [hn], fun h => by omega, fun i hi => by omega⟩
  · exact ⟨_, g, c, rfl, fun _ => rfl, fun i hi => by rw [Nat.zero_add]; exact row_cell h rfl (cellsZ_get hi)⟩
/-- Numbers that can be read, as what is appended. -/
theorem src_ints {P : Program} {k : IntKind} {w : World} {a : Option Addr} {b off len : Nat} (cap : Nat) {z : Nat → Int} {tx e : TypeId} (hk : P.underlying tx = some (.slice e)) (h : Ints k w a b off len z) :
    Src P 1 tx (.slice a len cap) len (cellsZ k z len) w := by
  by_cases hl : len = 0
  · subst hl
    rcases a with _ | a'
    · exact Src.ofNil w hk _
    · exact Src.ofSlice w hk a' 0 cap [] rfl (fun j u hj => by simp at hj) (fun u hu => by cases hu)
  · have := h.at_ (by omega)
    subst this
    refine Src.ofSlice w hk _ len cap _ (by simp [cellsZ]) (fun j u hj => ?_) (fun u hu => ?_)
    · have hj' : j < len := by
        have := (List.getElem?_eq_some_iff.1 hj).1
        simpa [cellsZ] using this
      rw [cellsZ_get hj'] at hj
      cases hj
      have hq := h.cell j hj'
      unfold Addr.add
      split <;> simp_all
    · simp [cellsZ] at hu
      obtain ⟨i, _, rfl⟩ := hu
      rfl
/-- What lies in a block of one cell, as what is appended. -/
theorem src_at {P : Program} (g : Nat) {tx e e' : TypeId} (hk : P.underlying tx = some (.slice e')) (u : Value) (hu : u.oneCell' = true) (w1 : World) (hw : w1.heap[g]? = some (.cells #[u] e (0, 0))) : Src P 1 tx (.slice (some ⟨g, 0, none⟩) 1 1) 1 [u] w1 :=
  Src.ofSlice w1 hk _ 1 1 [u] rfl (fun j x hj => by
    match j, hj with
    | 0, hj => simp at hj; subst hj; simp [Addr.add, World.cell?, hw]
    | j + 1, hj => simp at hj) (by intro x hx; simp at hx; subst hx; exact hu)
theorem src_cells {P : Program} (g : Nat) {tx e e' : TypeId} (hk : P.underlying tx = some (.slice e')) (us : List Value) (hu : ∀ u ∈ us, u.oneCell' = true) (w1 : World) (hw : w1.heap[g]? = some (.cells us.toArray e (0, 0))) : Src P us.length tx (.slice (some ⟨g, 0, none⟩) 1 1) 1 us w1 :=
  Src.ofSlice w1 hk _ 1 1 us (by simp) (fun j x hj => by
    have e : (⟨g, 0, none⟩ : Addr).add j = ⟨g, j, none⟩ := by unfold Addr.add; split <;> simp_all
    rw [e, cell_of_row _ _ _ _ _ _ hw]
    simpa using hj) hu

/-- What v leads to is a block from n on. -/
def OwnB (n : Nat) (v : Value) : Prop := ∀ k, v.ownBlock = some k → n ≤ k
theorem OwnB.fresh {n m : Nat} {u v : Value} (h : OwnB n u) (hf : Fresh m u v) (hm : n ≤ m) : OwnB n v := by
  intro k hk
  rcases hf with hf | ⟨q, hq, hle⟩
  · exact h k (by rw [← hf]; exact hk)
  · rw [hq] at hk; cases hk; omega
theorem OwnB.nil (n : Nat) : OwnB n (.slice none 0 0) := fun k hk => by cases hk
theorem OwnB.mono {n m : Nat} {v : Value} (h : OwnB n v) (hm : m ≤ n) : OwnB m v := fun k hk => Nat.le_trans hm (h k hk)
theorem own_app {w w1 w2 : World} {v : Value} (h : Touch (fun _ => False) w w1) (hv : OwnB w.heap.size v) (k : Touch (fun k => v.ownBlock = some k) w1 w2) : Touch (fun _ => False) w w2 :=
  h.then k fun i hi hh => by have := hv i hh; omega
theorem OwnB.here (w : World) (c : Nat) : OwnB w.heap.size (.slice (some ⟨w.heap.size, 0, none⟩) 0 c) := fun k hk => by simp [Value.ownBlock] at hk; omega

/-- Records of three numbers, told by a list. -/
def recL (ps : List (Int × Int × Int)) : List Value := ps.flatMap fun p => [.int .i64 p.1, .int .i64 p.2.1, .int .i64 p.2.2]
theorem recL_snoc (ps : List (Int × Int × Int)) (p : Int × Int × Int) : recL (ps ++ [p]) = recL ps ++ [.int .i64 p.1, .int .i64 p.2.1, .int .i64 p.2.2] := by simp [recL]
theorem recL_length (ps : List (Int × Int × Int)) : (recL ps).length = ps.length * 3 := by
  induction ps with
  | nil => rfl
  | cons p r ih => simp [recL] at ih ⊢; omega
theorem recL_get (ps : List (Int × Int × Int)) (j : Nat) (p : Int × Int × Int) (h : ps[j]? = some p) : (recL ps)[j * 3]? = some (.int .i64 p.1) ∧ (recL ps)[j * 3 + 1]? = some (.int .i64 p.2.1) ∧ (recL ps)[j * 3 + 2]? = some (.int .i64 p.2.2) := by
  induction ps generalizing j with
  | nil => simp at h
  | cons q r ih =>
    cases j with
    | zero => simp at h; subst h; simp [recL]
    | succ j =>
      simp at h
      have := ih j h
      simp only [recL, List.flatMap_cons, List.cons_append, List.nil_append] at this ⊢
      rw [show (j + 1) * 3 = j * 3 + 1 + 1 + 1 by omega, show (j * 3 + 1 + 1 + 1) + 1 = (j * 3 + 1) + 1 + 1 + 1 by omega, show (j * 3 + 1 + 1 + 1) + 2 = (j * 3 + 2) + 1 + 1 + 1 by omega]
      simpa using this
/-- Records that can be read. -/
structure Recs (w : World) (a : Option Addr) (b off : Nat) (ps : List (Int × Int × Int)) : Prop where
  at_ : 0 < ps.length → a = some ⟨b, off, none⟩
  cell : ∀ j p, ps[j]? = some p → w.cell? ⟨b, off + j * 3, none⟩ = some (.int .i64 p.1) ∧ w.cell? ⟨b, off + j * 3 + 1, none⟩ = some (.int .i64 p.2.1) ∧ w.cell? ⟨b, off + j * 3 + 2, none⟩ = some (.int .i64 p.2.2)
theorem Recs.touch {w w' : World} {a : Option Addr} {b off : Nat} {ps : List (Int × Int × Int)} (h : Recs w a b off ps) (ht : Touch (fun _ => False) w w') : Recs w' a b off ps :=
  ⟨h.at_, fun j p hj => ⟨ht.cell (h.cell j p hj).1 id, ht.cell (h.cell j p hj).2.1 id, ht.cell (h.cell j p hj).2.2 id⟩⟩
theorem recs_row {w : World} {e : TypeId} {v : Value} {ps : List (Int × Int × Int)} (h : w.ownsRow 0 e 3 v ps.length (recL ps)) : ∃ a b c, v = .slice a ps.length c ∧ Recs w a b 0 ps := by
  rcases row_form h with ⟨rfl, hn⟩ | ⟨g, c, rfl⟩
  · refine ⟨none, 0, 0, by rw [hn], fun h => by omega, fun j p hj => ?_⟩
    have : ps = [] := List.eq_nil_of_length_eq_zero hn
    subst this; simp at hj
  · refine ⟨_, g, c, rfl, fun _ => rfl, fun j p hj => ?_⟩
    obtain ⟨h1, h2, h3⟩ := recL_get ps j p hj
    have c1 := h.cells (g := g) rfl _ _ h1
    have c2 := h.cells (g := g) rfl _ _ h2
    have c3 := h.cells (g := g) rfl _ _ h3
    have e : ∀ i, (⟨g, 0, none⟩ : Addr).add i = ⟨g, i, none⟩ := fun i => by unfold Addr.add; split <;> simp_all
    rw [e] at c1 c2 c3
    rw [Nat.zero_add]
    exact ⟨c1, c2, c3⟩
end Go.Proofs.Ytaacphmbkieacaa
