/- A slice of slices that came in: no row takes more than the reach. -/
import Derived.Test.YtdhfepalphpabaaOpen
import Derived.SizedLaws
namespace Go.Proofs.Ytdhfepalphpabaa
open Go.ChangeShapes Go.WideShapes Go.ChangeAt Go.RowKit Go.Deep
section
variable {H : Type} {enc : TypeId × Value → H} {P : Program} {w : World}

theorem weights_mem_all (e : TypeId) (d : DataW H) (n : Nat) (hn : n ∈ d.weights P e) : ∀ ds : List (DataW H), d ∈ ds → n ∈ DataW.weightsAll P e ds
  | [], h => by cases h
  | x :: r, h => by
    rw [DataW.weightsAll, List.mem_append]
    rcases List.mem_cons.1 h with rfl | h
    · exact .inl hn
    · exact .inr (weights_mem_all e d n hn r h)

theorem rows_sized {t e q : TypeId} {k : IntKind} {v : Value} {d : DataW H} {p : List MemPlace} {a : Option Addr} {len cap : Nat} (hv : v = .slice a len cap) (ht : P.underlying t = some (.slice e)) (he : P.underlying e = some (.slice q)) (hq : P.underlying q = some (.int k))
    (ce : P.cellsOf e = 1) (cq : P.cellsOf q = 1) (hb : P.bytesOf q = 1) (h : DataW.Trod enc P w 0 (fun _ => true) true t v d p) (hsz : ∀ n ∈ d.weights P t, n ≤ reachBytes) :
    ∃ b off A B O L C Z, RowsIn k w a b off len cap A B O L C Z ∧ ∀ i, i < len → L i ≤ reachBytes := by
  subst hv
  obtain ⟨f, hf⟩ := h
  have hf' : DataW.trod enc P w 0 (fun _ => true) true f t [.slice a len cap] = some (d, p) := by simpa [Value.cells] using hf
  rcases open_int_rows ht he hq ce cq hf' with ⟨hcs, _⟩ | ⟨x, l, c, A, L, C, Z, hcs, _, hl, hm, hx, hr⟩
  · simp at hcs
    obtain ⟨rfl, rfl, rfl⟩ := hcs
    exact ⟨0, 0, fun _ => none, fun _ => 0, fun _ => 0, fun _ => 0, fun _ => 0, fun _ _ => 0, ⟨fun h => by omega, fun h => by omega, Nat.le_refl _, Nat.zero_le _, fun _ h => by omega, fun _ h => by omega⟩, fun i hi => by omega⟩
  · simp at hcs
    obtain ⟨rfl, rfl, rfl⟩ := hcs
    have hd : d = _ := congrArg Prod.fst hx
    have hreach : ∀ i, i < len → L i ≤ reachBytes := by
      intro i hi
      obtain ⟨_, h1, h2, h3, h4, h5, h6⟩ := hr i (by omega)
      cases hA : A i with
      | none => have := h5 hA; omega
      | some a' =>
        have hmem : C i ∈ d.weights P t := by
          rw [hd]
          simp only [DataW.weights, ht, List.mem_cons, List.mem_append]
          refine .inr (.inl (weights_mem_all e (intRow k (A i) (L i) (Z i)) _ ?_ _ (List.mem_map.2 ⟨i, List.mem_range.2 hi, rfl⟩)))
          rw [hA]
          simp only [intRow, DataW.weights, he, hb, List.mem_cons]
          left
          simp [lits]
          omega
        have := hsz _ hmem
        omega
    have each : ∀ i, i < len → ∃ y : Nat × Nat × (Nat → Int), IntsIn k w (A i) y.1 y.2.1 (L i) (C i) y.2.2 := by
      intro i hi
      obtain ⟨_, h1, h2, h3, h4, h5, h6⟩ := hr i (by omega)
      cases hA : A i with
      | none =>
        have hc := h5 hA
        have hL : L i = 0 := by omega
        rw [hL, hc]
        exact ⟨(0, 0, fun _ => 0), ints_nil k w⟩
      | some a' =>
        obtain ⟨b, o, z, hz⟩ := ints_in_of (x := a') h1 h2 h3 (fun j hj => (h6 a' hA).2 j (by omega)) h4
        exact ⟨(b, o, z), hz⟩
    obtain ⟨y, hy⟩ := choose_lt each
    have hsp : 0 < len → x.spot = none := fun h0 => by
      have h := (hr 0 (by omega)).1
      simpa [Addr.add] using World.cell?_spot h
    refine ⟨x.block, x.off, A, fun i => (y i).1, fun i => (y i).2.1, L, C, fun i => (y i).2.2, ⟨?_, ?_, hl, hm, ?_, hy⟩, hreach⟩
    · intro h0
      have hs := hsp h0
      obtain ⟨b, o, s⟩ := x
      simp at hs; subst hs; rfl
    · intro h0
      have h := (hr 0 (by omega)).1
      have : (x.add 0).block < w.heap.size := World.block_lt_of_cell? _ _ h
      simpa [Addr.add] using this
    · intro i hi
      have h := (hr i (by omega)).1
      rw [add_pos (hsp (by omega))] at h
      exact h
end
end Go.Proofs.Ytdhfepalphpabaa
