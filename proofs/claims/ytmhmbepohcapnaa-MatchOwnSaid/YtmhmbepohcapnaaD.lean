/- match: rows put together (slices.Concat), copied (slices.Clone). -/
import Derived.Test.YtmhmbepohcapnaaC
namespace Go.Proofs.Ytmhmbepohcapnaa
open Go.RowKit Go.WideShapes
set_option linter.unusedVariables false
set_option linter.unusedSimpArgs false
set_option maxRecDepth 100000

theorem Try.info5 : (Try.prog.info? 5).map (fun i => (i.zero, i.size, i.bytes)) = some (some (.int .u8 0), 1, 1) := by kernel_rfl

/-- append(nil, make(.., n)...). -/
theorem run_append_zeros {P : Program} (w : World) (t tx ty e : TypeId) (i : TypeInfo) (z : Value) (ht : P.underlying t = some (.slice e)) (hk : P.underlying tx = some (.int .i64)) (hi : P.info? e = some i) (hz : i.zero = some z) (hs : i.size = 1) (hb : i.bytes = 1)
    (n : Nat) (hn0 : 0 < n) (hn1 : n ≤ 1000000) :
    (Builtin.append_ #[t, tx] ty #[.slice none 0 0, .int .i64 n]).run P w =
      .ok (.slice (some ⟨w.heap.size, 0, none⟩) n (grownCap w n 0 e)) (w.drew.alloc (.cells (Builtin.zeroCells z.cells n ++ Builtin.zeroCells z.cells (grownCap w n 0 e - n)) e)) := by
  have hw : IntKind.i64.wrap (n : Int) = n := IntWalk.i64_in _ (by omega)
  have h1 : ¬ ((n : Int) < 0) := by omega
  have h2 : ¬ ((281474976710656 : Int) < n * i.bytes) := by rw [hb]; omega
  have h3 : ¬ (n ≤ 0) := by omega
  have h4 : ¬ ((9223372036854775807 : Int) < n) := by omega
  have h5 : ¬ (281474976710656 < Builtin.nextslicecap n 0 * i.bytes) := by
    have := growslice_fits (old := 0) (need := n) (bytes := i.bytes) hn0 (by rw [hb]; omega)
    omega
  have h6 : ¬ (n * i.size = 0) := by rw [hs]; omega
  have h7 : max (n : Int) 0 = n := by omega
  have h8 : ¬ (n = 0) := by omega
  have h9 : ¬ ((n : Int) ≤ 0) := by omega
  have hold := run_firstCells_none (P := P) w.drew i.size 0 0 0
  have h10 : (Builtin.firstCells i.size 0 (.slice none 0 0)).run P w.drew = .ok #[] w.drew := hold
  have h2' : ¬ ((281474976710656 : Int) < n) := by omega
  have h5' : ¬ (281474976710656 < Builtin.nextslicecap n 0) := by rw [hb, Nat.mul_one] at h5; exact h5
  rw [hs] at h10
  clear h2 h5 h6 hold
  simp [Builtin.append_, run_underlying ht, run_underlying hk, sizeOf, typeInfo, zeroValue, hi, hz, hw, h1, h2', h3, h4, h5', h7, h8, h9, h10, hs, hb, Question.forced, newRow, grownCap, asInt, asIntOf]

theorem run_append_zeros_own {P : Program} (w : World) (t tx ty e : TypeId) (i : TypeInfo) (z : Value) (ht : P.underlying t = some (.slice e)) (hk : P.underlying tx = some (.int .i64)) (hi : P.info? e = some i) (hz : i.zero = some z) (hs : i.size = 1) (hb : i.bytes = 1) (hzs : z.cells.size = 1)
    (n : Nat) (hn0 : 0 < n) (hn1 : n ≤ 1000000) :
    ∃ c w', (Builtin.append_ #[t, tx] ty #[.slice none 0 0, .int .i64 n]).run P w = .ok (.slice (some ⟨w.heap.size, 0, none⟩) n c) w' ∧ w'.ownsRow 0 e 1 (.slice (some ⟨w.heap.size, 0, none⟩) 0 c) 0 [] ∧ Touch (fun _ => False) w w' ∧ n ≤ c := by
  refine ⟨_, _, run_append_zeros w t tx ty e i z ht hk hi hz hs hb n hn0 hn1, ⟨rfl, .inr ⟨w.heap.size, _, _, rfl, Nat.zero_le _, heap_alloc_new w.drew _, Nat.zero_le _, grownCap_le_maxLen w n 0 e (by unfold maxLen; omega), ?_, rfl⟩⟩, ((Touch.refl _ w).drew).alloc _, grownCap_ge w n 0 e⟩
  have := grownCap_ge w n 0 e
  simp only [Array.size_append, size_zeroCells, hzs]
  omega
theorem wpList_append_zeros {P : Program} {w : World} {ops : Array Oper} {rest : List Oper} {o : Oper} {a : Act} {Q : Exit → Act → World → Prop} (hgd : o.guard = none) (s x : Operand) (t tx : TypeId)
    (ho : o.op = .call { callee := .builtin .append, args := #[s, x], argTypes := #[t, tx] })
    (e : TypeId) (i : TypeInfo) (z : Value) (ht : P.underlying t = some (.slice e)) (hk : P.underlying tx = some (.int .i64)) (hi : P.info? e = some i) (hz : i.zero = some z) (hs : i.size = 1) (hb : i.bytes = 1) (hzs : z.cells.size = 1)
    (n : Nat) (hn0 : 0 < n) (hn1 : n ≤ 1000000) (hv : a.eval s = .slice none 0 0) (hx : a.eval x = .int .i64 n)
    (h : ∀ c w', w'.ownsRow 0 e 1 (.slice (some ⟨w.heap.size, 0, none⟩) 0 c) 0 [] → Touch (fun _ => False) w w' → n ≤ c → wpList P ops Q rest (a.put o.dst (.slice (some ⟨w.heap.size, 0, none⟩) n c)) w') : wpList P ops Q (o :: rest) a w :=
  wpList_plain hgd fun _ hK => by
    obtain ⟨c, w', hr, h2, h3, h4⟩ := run_append_zeros_own (P := P) w t tx o.type e i z ht hk hi hz hs hb hzs n hn0 hn1
    unfold Oper.wp execOp
    simp only [ho, resolve, invoke, builtin, Sem.run_bind, Sem.run_pure, Result.andThen_ok, List.map_toArray, List.map_cons, List.map_nil, hv, hx, hr]
    exact hK _ _ (h c w' h2 h3 h4)

theorem grow_walk (n : Nat) (w : World) (hn : n ≤ 1000000) : Calls Try.prog 24 #[.slice none 0 0, .int .i64 n] w fun e w' => ∃ v, e = .returned v ∧ w'.ownsRow 0 5 1 v 0 [] ∧ OwnB w.heap.size v ∧ Touch (fun _ => False) w w' := by
  obtain ⟨i0, hi, hz0, hz1, hz2⟩ := info_parts Try.info5
  by_cases h0 : n = 0
  · subst h0
    go_enter Try.func24, Try.ntmps24
    go_wp2_with fail
    go_ret
    exact ⟨_, rfl, World.ownsRow_nil _ _ _ _, OwnB.nil _, Touch.refl _ _⟩
  · have hp : 0 < n := by omega
    go_enter Try.func24, Try.ntmps24
    go_wp2_with (refine wpList_append_zeros rfl (.tmp 20) (.tmp 21) 22 3 rfl 5 i0 (.int .u8 0) Try.underlying22 Try.underlying3 hi hz0 hz1 hz2 rfl n hp hn rfl rfl ?_; intro c w2 hown ht hnc)
    go_ret
    exact ⟨_, rfl, hown, OwnB.here w c, ht⟩
end Go.Proofs.Ytmhmbepohcapnaa
