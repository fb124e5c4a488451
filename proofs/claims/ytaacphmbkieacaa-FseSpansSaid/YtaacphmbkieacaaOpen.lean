/- What a slice or an array that came in is told as: lemmas that open a reading, over any program. -/
import Derived.WalkKit
import Derived.ProofKit
import Derived.OpenShut
import Derived.ChangeOld
import Derived.Below
import Derived.Deep.Slices
import Derived.Deep.Matrix
namespace Go.Proofs.Ytaacphmbkieacaa
open Go.ChangeShapes Go.WideShapes Go.ChangeAt Go.RowKit Go.Deep

/-- A slice of whole numbers that came in. -/
structure IntsIn (k : IntKind) (w : World) (a : Option Addr) (b off len cap : Nat) (z : Nat → Int) : Prop where
  at_ : 0 < len → a = some ⟨b, off, none⟩
  lt : 0 < len → b < w.heap.size
  le : len ≤ cap
  max : cap ≤ maxLen
  cell : ∀ i, i < len → w.cell? ⟨b, off + i, none⟩ = some (.int k (z i))
  wf : ∀ i, (Lit.int k (z i)).wf = true

/-- A slice of records of n whole numbers (of Go's int) that came in. -/
structure RecsIn (n : Nat) (w : World) (a : Option Addr) (b off len cap : Nat) (z : Nat → Nat → Int) : Prop where
  at_ : 0 < len → a = some ⟨b, off, none⟩
  lt : 0 < len → b < w.heap.size
  le : len ≤ cap
  max : cap ≤ maxLen
  cell : ∀ i, i < len → ∀ j, j < n → w.cell? ⟨b, off + i * n + j, none⟩ = some (.int .i64 (z i j))
  wf : ∀ i j, (Lit.int .i64 (z i j)).wf = true

/-- A slice of slices of whole numbers that came in. -/
structure RowsIn (k : IntKind) (w : World) (a : Option Addr) (b off len cap : Nat) (A : Nat → Option Addr) (B O L C : Nat → Nat) (Z : Nat → Nat → Int) : Prop where
  at_ : 0 < len → a = some ⟨b, off, none⟩
  lt : 0 < len → b < w.heap.size
  le : len ≤ cap
  max : cap ≤ maxLen
  cell : ∀ i, i < len → w.cell? ⟨b, off + i, none⟩ = some (.slice (A i) (L i) (C i))
  row : ∀ i, i < len → IntsIn k w (A i) (B i) (O i) (L i) (C i) (Z i)

section
variable {H : Type} {enc : TypeId × Value → H} {P : Program} {w : World}

theorem wf_zero (k : IntKind) : (Lit.int k 0).wf = true := by cases k <;> decide

theorem add_pos {a : Addr} (hs : a.spot = none) (i : Nat) : a.add i = ⟨a.block, a.off + i, none⟩ := by
  obtain ⟨b, o, s⟩ := a
  simp at hs; subst hs
  unfold Addr.add
  split
  · simp [*]
  · rfl

theorem ints_in_of {k : IntKind} {x : Addr} {len cap : Nat} {zs : List Int} (hl : len ≤ cap) (hm : cap ≤ maxLen) (hz : zs.length = cap)
    (hcell : ∀ i, i < zs.length → w.cell? (x.add i) = some (.int k (zs.getD i 0))) (hwz : ∀ n ∈ zs, (Lit.int k n).wf = true) :
    ∃ b off z, IntsIn k w (some x) b off len cap z := by
  refine ⟨x.block, x.off, fun i => zs.getD i 0, ?_, ?_, hl, hm, ?_, ?_⟩
  · intro h0
    have h := hcell 0 (by omega)
    have hs : x.spot = none := by simpa [Addr.add] using World.cell?_spot h
    obtain ⟨b, o, s⟩ := x
    simp at hs; subst hs; rfl
  · intro h0
    have h := hcell 0 (by omega)
    have : (x.add 0).block < w.heap.size := World.block_lt_of_cell? _ _ h
    simpa [Addr.add] using this
  · intro i hi
    have h := hcell i (by omega)
    have h0 := hcell 0 (by omega)
    have hs : x.spot = none := by simpa [Addr.add] using World.cell?_spot h0
    rw [add_pos hs] at h
    exact h
  · intro i
    by_cases hi : i < zs.length
    · have : zs.getD i 0 = zs[i] := by simp [List.getD_eq_getElem?_getD, hi]
      show (Lit.int k (zs.getD i 0)).wf = true
      rw [this]; exact hwz _ (List.getElem_mem hi)
    · have : zs.getD i 0 = 0 := by simp [List.getD_eq_getElem?_getD, Nat.le_of_not_lt hi]
      show (Lit.int k (zs.getD i 0)).wf = true
      rw [this]; exact wf_zero k

theorem ints_nil (k : IntKind) (w : World) : IntsIn k w none 0 0 0 0 (fun _ => 0) :=
  ⟨fun h => by omega, fun h => by omega, Nat.le_refl _, Nat.zero_le _, fun _ h => by omega, fun _ => wf_zero k⟩

theorem ints_in {t e : TypeId} {k : IntKind} {a : Option Addr} {len cap fuel : Nat} {x : DataW H × List MemPlace} (ht : P.underlying t = some (.slice e)) (he : P.underlying e = some (.int k)) (hc : P.cellsOf e = 1)
    (h : DataW.trod enc P w 0 (fun _ => true) true fuel t [.slice a len cap] = some x) : ∃ b off z, IntsIn k w a b off len cap z := by
  rcases open_ints ht he hc h with ⟨hcs, _⟩ | ⟨x, l, c, zs, hcs, _, hl, hm, hz, _, hcell, hwz⟩
  · simp at hcs
    obtain ⟨rfl, rfl, rfl⟩ := hcs
    exact ⟨_, _, _, ints_nil k w⟩
  · simp at hcs
    obtain ⟨rfl, rfl, rfl⟩ := hcs
    exact ints_in_of hl hm (by simpa using hz) hcell hwz

theorem rows_in {t e q : TypeId} {k : IntKind} {a : Option Addr} {len cap fuel : Nat} {x : DataW H × List MemPlace} (ht : P.underlying t = some (.slice e)) (he : P.underlying e = some (.slice q)) (hq : P.underlying q = some (.int k))
    (ce : P.cellsOf e = 1) (cq : P.cellsOf q = 1) (h : DataW.trod enc P w 0 (fun _ => true) true fuel t [.slice a len cap] = some x) : ∃ b off A B O L C Z, RowsIn k w a b off len cap A B O L C Z := by
  rcases open_int_rows ht he hq ce cq h with ⟨hcs, _⟩ | ⟨x, l, c, A, L, C, Z, hcs, _, hl, hm, _, hr⟩
  · simp at hcs
    obtain ⟨rfl, rfl, rfl⟩ := hcs
    exact ⟨0, 0, fun _ => none, fun _ => 0, fun _ => 0, fun _ => 0, fun _ => 0, fun _ _ => 0, fun h => by omega, fun h => by omega, Nat.le_refl _, Nat.zero_le _, fun _ h => by omega, fun _ h => by omega⟩
  · simp at hcs
    obtain ⟨rfl, rfl, rfl⟩ := hcs
    have each : ∀ i, i < len → ∃ y : Nat × Nat × (Nat → Int), IntsIn k w (A i) y.1 y.2.1 (L i) (C i) y.2.2 := by
      intro i hi
      obtain ⟨_, h1, h2, h3, h4, h5, h6⟩ := hr i (by omega)
      cases hA : A i with
      | none =>
        have hc := h5 hA
        have hL : L i = 0 := by omega
        rw [hL, hc]
        exact ⟨(0, 0, fun _ => 0), ints_nil k w⟩
      | some a' =>
        obtain ⟨b, o, z, hz⟩ := ints_in_of (x := a') h1 h2 h3 (fun j hj => (h6 a' hA).2 j (by omega)) h4
        exact ⟨(b, o, z), hz⟩
    obtain ⟨y, hy⟩ := choose_lt each
    have hsp : 0 < len → x.spot = none := fun h0 => by
      have h := (hr 0 (by omega)).1
      simpa [Addr.add] using World.cell?_spot h
    refine ⟨x.block, x.off, A, fun i => (y i).1, fun i => (y i).2.1, L, C, fun i => (y i).2.2, ?_, ?_, hl, hm, ?_, hy⟩
    · intro h0
      have hs := hsp h0
      obtain ⟨b, o, s⟩ := x
      simp at hs; subst hs; rfl
    · intro h0
      have h := (hr 0 (by omega)).1
      have : (x.add 0).block < w.heap.size := World.block_lt_of_cell? _ _ h
      simpa [Addr.add] using this
    · intro i hi
      have h := (hr i (by omega)).1
      rw [add_pos (hsp (by omega))] at h
      exact h

/-- A struct whose fields are all of Go's int. -/
def intFields (P : Program) (fs : Array Field) (n : Nat) : Bool :=
  fs.size == n && (List.range n).all fun j => match fs[j]? with
    | some f => f.offset == j && P.cellsOf f.type == 1 && (match P.underlying f.type with | some (.int .i64) => true | _ => false)
    | none => false

theorem int_cells {e : TypeId} {fs : Array Field} {n fuel : Nat} {cs : List Value} {x : DataW H × List MemPlace} (he : P.underlying e = some (.struct fs)) (hf : intFields P fs n = true)
    (h : DataW.trod enc P w 0 (fun _ => true) true fuel e cs = some x) : ∀ j, j < n → ∃ v : Int, cs[j]? = some (.int .i64 v) ∧ (Lit.int .i64 v).wf = true := by
  simp only [intFields, Bool.and_eq_true, beq_iff_eq, List.all_eq_true] at hf
  obtain ⟨hn, hf⟩ := hf
  obtain ⟨xs, m, _, _, hcl, hxl, hg⟩ := DataW.trod_struct he h
  intro j hj
  have hk := hf j (List.mem_range.2 hj)
  have hlt : j < fs.size := by omega
  rw [Array.getElem?_eq_getElem hlt] at hk
  simp only [Bool.and_eq_true, beq_iff_eq] at hk
  obtain ⟨⟨ho, hc1⟩, hu⟩ := hk
  have g := hg j fs[j] (Array.getElem?_eq_getElem hlt)
  rw [ho, hc1] at g
  rw [List.getElem?_eq_getElem (by omega)] at g
  have hu' : P.underlying (fs[j]).type = some (.int .i64) := by
    revert hu
    split
    · rename_i hh; intro _; exact hh
    · intro hh; cases hh
  obtain ⟨v, hv, _, hw⟩ := DataW.trod_int hu' g
  have hd : j < cs.length := by
    rcases Nat.lt_or_ge j cs.length with h1 | h1
    · exact h1
    · rw [List.drop_eq_nil_of_le h1] at hv; simp at hv
  have h1 : ((cs.drop j).take 1)[0]? = some (Value.int .i64 v) := by rw [hv]; rfl
  rw [List.getElem?_take_of_lt (by omega), List.getElem?_drop] at h1
  exact ⟨v, by simpa using h1, hw⟩

theorem recs_in {t e : TypeId} {fs : Array Field} {n : Nat} {a : Option Addr} {len cap fuel : Nat} {x : DataW H × List MemPlace} (ht : P.underlying t = some (.slice e)) (he : P.underlying e = some (.struct fs)) (hf : intFields P fs n = true)
    (hn : P.cellsOf e = n) (hn0 : 0 < n) (h : DataW.trod enc P w 0 (fun _ => true) true fuel t [.slice a len cap] = some x) : ∃ b off z, RecsIn n w a b off len cap z := by
  rcases open_slice ht h with ⟨hcs, _⟩ | ⟨x, l, c, m, q, D, Pl, hcs, _, hl, hm, hmm, _, hx⟩
  · simp at hcs
    obtain ⟨rfl, rfl, rfl⟩ := hcs
    exact ⟨0, 0, fun _ _ => 0, fun h => by omega, fun h => by omega, Nat.le_refl _, Nat.zero_le _, fun _ h => by omega, fun _ _ => wf_zero _⟩
  · simp at hcs
    obtain ⟨rfl, rfl, rfl⟩ := hcs
    simp only [if_true] at hmm
    rw [hn] at hx
    have cell : ∀ i, i < len → ∀ j, j < n → ∃ v : Int, w.cell? ((x.add (i * n)).add j) = some (.int .i64 v) ∧ (Lit.int .i64 v).wf = true := by
      intro i hi j hj
      obtain ⟨cs', h1, h2⟩ := hx i (by omega)
      obtain ⟨v, hv, hw⟩ := int_cells he hf h2 j hj
      obtain ⟨_, hlen, hc⟩ := World.cells?_some h1
      exact ⟨v, by rw [hc j hj]; exact hv, hw⟩
    have cell' : ∀ i, i < len → ∃ f : Nat → Int, ∀ j, j < n → w.cell? ((x.add (i * n)).add j) = some (.int .i64 (f j)) ∧ (Lit.int .i64 (f j)).wf = true := fun i hi => choose_lt (cell i hi)
    obtain ⟨z, hz⟩ := choose_lt cell'
    have hsp : 0 < len → x.spot = none := fun h0 => by
      have h := (hz 0 h0 0 hn0).1
      simpa [Addr.add] using World.cell?_spot h
    refine ⟨x.block, x.off, fun i j => if i < len ∧ j < n then z i j else 0, ?_, ?_, hl, hm, ?_, ?_⟩
    · intro h0
      have hs := hsp h0
      obtain ⟨b, o, s⟩ := x
      simp at hs; subst hs; rfl
    · intro h0
      have h := (hz 0 h0 0 hn0).1
      have := World.block_lt_of_cell? _ _ h
      simpa [Addr.add] using this
    · intro i hi j hj
      have h := (hz i hi j hj).1
      rw [add_pos (hsp (by omega)), add_pos rfl] at h
      rw [if_pos ⟨hi, hj⟩]
      exact h
    · intro i j
      show (Lit.int .i64 (if i < len ∧ j < n then z i j else 0)).wf = true
      split
      · rename_i hh; exact (hz i hh.1 j hh.2).2
      · exact wf_zero _

theorem ints_arg {t e : TypeId} {k : IntKind} {v : Value} {d : DataW H} {p : List MemPlace} {a : Option Addr} {len cap : Nat} (hv : v = .slice a len cap) (ht : P.underlying t = some (.slice e)) (he : P.underlying e = some (.int k)) (hc : P.cellsOf e = 1)
    (h : DataW.Trod enc P w 0 (fun _ => true) true t v d p) : ∃ b off z, IntsIn k w a b off len cap z := by
  subst hv
  obtain ⟨f, hf⟩ := h
  exact ints_in ht he hc (by simpa [Value.cells] using hf)
theorem rows_arg {t e q : TypeId} {k : IntKind} {v : Value} {d : DataW H} {p : List MemPlace} {a : Option Addr} {len cap : Nat} (hv : v = .slice a len cap) (ht : P.underlying t = some (.slice e)) (he : P.underlying e = some (.slice q)) (hq : P.underlying q = some (.int k))
    (ce : P.cellsOf e = 1) (cq : P.cellsOf q = 1) (h : DataW.Trod enc P w 0 (fun _ => true) true t v d p) : ∃ b off A B O L C Z, RowsIn k w a b off len cap A B O L C Z := by
  subst hv
  obtain ⟨f, hf⟩ := h
  exact rows_in ht he hq ce cq (by simpa [Value.cells] using hf)
theorem recs_arg {t e : TypeId} {fs : Array Field} {n : Nat} {v : Value} {d : DataW H} {p : List MemPlace} {a : Option Addr} {len cap : Nat} (hv : v = .slice a len cap) (ht : P.underlying t = some (.slice e)) (he : P.underlying e = some (.struct fs)) (hf : intFields P fs n = true)
    (hn : P.cellsOf e = n) (hn0 : 0 < n) (h : DataW.Trod enc P w 0 (fun _ => true) true t v d p) : ∃ b off z, RecsIn n w a b off len cap z := by
  subst hv
  obtain ⟨f, hf'⟩ := h
  exact recs_in ht he hf hn hn0 (by simpa [Value.cells] using hf')

/-- An array of three of Go's ints, by value. -/
theorem three_arg {r : Reach} {b0 : Nat} {t e : TypeId} {v : Value} {d : DataW H} {p : List MemPlace} (ht : P.underlying t = some (.array 3 e)) (he : P.underlying e = some (.int .i64)) (hc : P.cellsOf t = 3) (ce : P.cellsOf e = 1)
    (hv : Value.okWide P w r b0 t v) (h : DataW.Trod enc P w 0 (fun _ => true) true t v d p) :
    ∃ x y z : Int, v = .agg #[.int .i64 x, .int .i64 y, .int .i64 z] ∧ (Lit.int .i64 x).wf = true ∧ (Lit.int .i64 y).wf = true ∧ (Lit.int .i64 z).wf = true := by
  unfold Value.okWide at hv
  rw [ht] at hv
  obtain ⟨cs, rfl, hcs, _⟩ := hv
  obtain ⟨f, hf⟩ := h
  obtain ⟨xs, m, _, _, _, hxl, hg⟩ := DataW.trod_array ht hf
  have hl : cs.size = 3 := by omega
  have key : ∀ i, i < 3 → ∃ v : Int, cs.toList[i]? = some (.int .i64 v) ∧ (Lit.int .i64 v).wf = true := by
    intro i hi
    have g := hg i hi
    rw [ce, List.getElem?_eq_getElem (by omega)] at g
    obtain ⟨v, hv, _, hw⟩ := DataW.trod_int he g
    have h1 : (((Value.agg cs).cells.toList.drop (i * 1)).take 1)[0]? = some (Value.int .i64 v) := by rw [hv]; rfl
    rw [List.getElem?_take_of_lt (by omega), List.getElem?_drop] at h1
    exact ⟨v, by simpa [Value.cells] using h1, hw⟩
  obtain ⟨x, hx, wx⟩ := key 0 (by omega)
  obtain ⟨y, hy, wy⟩ := key 1 (by omega)
  obtain ⟨z, hz, wz⟩ := key 2 (by omega)
  refine ⟨x, y, z, ?_, wx, wy, wz⟩
  congr 1
  apply Array.ext'
  apply List.ext_getElem?
  intro i
  match i with
  | 0 => simpa using hx
  | 1 => simpa using hy
  | 2 => simpa using hz
  | i + 3 => simp; omega
end
end Go.Proofs.Ytaacphmbkieacaa
