/- seqs: Begin, known; the law SeqsCodes. -/
import Derived.Test.YthnhacbagmhfoaaA
import Derived.Laws.Small
import Derived.Laws.StructEq
import Derived.Laws.Cover2
import Derived.KernelRfl
namespace Go.Proofs.Ythnhacbagmhfoaa
open Go.RowKit Go.WideShapes
set_option linter.unusedVariables false
set_option maxRecDepth 100000

theorem results_cell {fn : Func} {a : Tmp} {t : TypeId} (h : fn.results = #[.cell a t]) (tmps : Array Value) (P : Program) (w : World) (p : Addr) (v : Value) (hp : tmps.getD a undef = .pointer (some p)) (hl : (loadVar t p).run P w = .ok v w) :
    (results fn tmps).run P w = .ok v w := by
  have hp' : tmps[a]?.getD undef = .pointer (some p) := by simpa using hp
  simp [results, h, hp', asAddr, hl]
theorem Try.size31 : (Try.prog.info? 31).map (·.size) = some 3 := by kernel_rfl
/-- Three whole numbers in a row, as one value. -/
def arr3 (a b c : Int) : Value := .agg #[.int .i64 a, .int .i64 b, .int .i64 c]
theorem load31 {w : World} {g : Nat} {a b c : Int} {t : TypeId} {fr : Nat × Nat} (h : w.heap[g]? = some (.cells #[.int .i64 a, .int .i64 b, .int .i64 c] t fr)) : (loadVar 31 ⟨g, 0, none⟩).run Try.prog w = .ok (arr3 a b c) w :=
  run_loadVar_row w g t 31 _ fr _ h Try.underlying31 rfl Try.size31

theorem begin_walk (w : World) : Calls Try.prog 21 #[] w fun e w' => e = .returned (arr3 1 4 8) ∧ Touch (fun _ => False) w w' := by
  go_enter Try.func21, Try.ntmps21
  go_wp2
  refine bodyPost_ret (results_cell rfl _ _ _ _ _ rfl (load31 (heap_alloc_new _ _))) rfl ?_
  exact ⟨rfl, (Touch.refl _ _).alloc _⟩
theorem ref_begin (w : World) : Calls Try.prog 32 #[] w fun e w' => e = .returned (arr3 1 4 8) ∧ Touch (fun _ => False) w w' := by
  go_enter Try.func32, Try.ntmps32
  go_wp2
  refine bodyPost_ret (results_cell rfl _ _ _ _ _ rfl (load31 (heap_alloc_new _ _))) rfl ?_
  exact ⟨rfl, (Touch.refl _ _).alloc _⟩
theorem eq31 (a b c a' b' c' : Int) (w : World) : (Op.equalIn 10000 31 (.agg #[.int .i64 a, .int .i64 b, .int .i64 c]) (.agg #[.int .i64 a', .int .i64 b', .int .i64 c'])).run Try.prog w = .ok (a == a' && (b == b' && c == c')) w := by
  have u3 := Try.underlying3
  have a3 := Try.isAgg3
  have z3 := Try.sizeOf3
  rw [show (10000 : Nat) = 9999 + 1 from rfl, Op.equalIn]
  simp only [Sem.run_bind, run_underlying Try.underlying31, Result.andThen_ok]
  simp only [Std.Legacy.Range.forIn_eq_forIn_range', Std.Legacy.Range.size, Nat.sub_zero, Nat.add_sub_cancel, Nat.div_one, List.range'_succ, List.range'_zero, List.forIn_cons, List.forIn_nil]
  go_simp
  by_cases h1 : a = a' <;> by_cases h2 : b = b' <;> by_cases h3 : c = c' <;> simp [h1, h2, h3]

theorem codeT_five : codeT 5 = .tuple #[.int .i64 3, .int .i64 2, .int .i64 1] := by
  have h : Nat.log2 5 = 2 := by decide
  unfold codeT codeC codeX codeN; rw [h]; rfl
theorem known_walk (w : World) : Calls Try.prog 18 #[] w fun e w' => e = .returned (.bool true) ∧ Touch (fun _ => False) w w' := by
  go_enter Try.func18, Try.ntmps18
  go_wp2_with fail
  refine (code_walk 5 (by decide) _).mono ?_
  rintro e w1 ⟨rfl, n, rfl⟩
  rw [codeT_five]
  go_wp2_with fail
  refine (value_pos 2 1 (by decide) (by decide) _).mono ?_
  rintro e w2 ⟨rfl, rfl⟩
  go_wp2_with fail
  refine (begin_walk _).mono ?_
  rintro e w3 ⟨rfl, ht3⟩
  have h31 := fun w => eq31 1 4 8 1 4 8 w
  unfold arr3
  go_wp2_with fail
  go_ret
  exact ⟨rfl, ht3.of_drewN⟩
theorem Touch.owned {w w' : World} (h : Touch (fun _ => False) w w') : Below w.heap.size w w' := h.none.below (Nat.le_refl _)

theorem codeX_lt (v : Nat) : codeX v < 2 ^ codeN v := by
  by_cases h : v = 0
  · subst h; exact Nat.two_pow_pos _
  · exact (code_parts h).1

theorem SeqsCodes_in (w : World) (v : Nat) (hv : v < 1048576) : Calls Try.prog 3 #[.int .i64 v] w fun e w' => e = .returned (.bool true) ∧ Below w.heap.size w w' := by
  have hv40 : v < 2 ^ 40 := by omega
  have hx := codeX_lt v
  have hn : codeN v < 20 := log2_lt (show v < 2 ^ 20 by omega) (by omega)
  have hc : codeT v = .tuple #[.int .i64 (codeC v), .int .i64 (codeN v), .int .i64 (codeX v)] := rfl
  have Hv := Lib.hid (value_code v hv40)
  obtain ⟨c, hcc⟩ : ∃ c, codeC v = c := ⟨_, rfl⟩
  obtain ⟨n, hnn⟩ : ∃ n, codeN v = n := ⟨_, rfl⟩
  obtain ⟨x, hxx⟩ : ∃ x, codeX v = x := ⟨_, rfl⟩
  rw [hcc, hxx] at Hv
  rw [hcc, hnn, hxx] at hc
  rw [hxx, hnn] at hx
  rw [hnn] at hn
  have hsh : (x : Int) < wrap64 ((2 : Int) ^ n) := by rw [wrap_pow n (by omega)]; exact_mod_cast hx
  have Hc := Lib.hid hc
  clear hc hcc hnn hxx hx
  go_enter Try.func3, Try.ntmps3
  go_wp2_with fail
  refine (code_walk v hv40 _).mono ?_
  rintro e w1 ⟨rfl, m, rfl⟩
  rw [Hc.out]
  go_wp2_with fail
  refine (ref_code v hv40 _).mono ?_
  rintro e w2 ⟨rfl, rfl⟩
  rw [Hc.out]
  go_wp2_with fail
  refine (Hv.out _).mono ?_
  rintro e w2 ⟨rfl, rfl⟩
  go_wp2_with fail
  refine (known_walk _).mono ?_
  rintro e w3 ⟨rfl, ht3⟩
  go_wp2_with fail
  go_ret
  exact ⟨rfl, ht3.of_drewN.owned⟩

theorem SeqsCodes_law (w : World) (a0 : Int) (w0 : (Lit.int .i64 a0).wf = true) :
    Calls Try.prog 3 #[.int .i64 a0] w fun e w' => e = .returned (.bool true) ∧ Below w.heap.size w w' := by
  clear w0
  by_cases h0 : a0 < 0
  · go_enter Try.func3, Try.ntmps3
    go_wp2_with fail
    go_ret
    exact ⟨rfl, Below.refl _ _⟩
  by_cases h1 : 1048576 ≤ a0
  · go_enter Try.func3, Try.ntmps3
    go_wp2_with fail
    go_ret
    exact ⟨rfl, Below.refl _ _⟩
  obtain ⟨v, rfl⟩ := Int.eq_ofNat_of_zero_le (show 0 ≤ a0 by omega)
  exact SeqsCodes_in w v (by omega)
end Go.Proofs.Ythnhacbagmhfoaa
