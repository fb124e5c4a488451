/- seqs: codes, offsets, rows of numbers, the document's Pack: contracts that the claim's later texts use. No condition. -/
import Derived.Test.YthnhacbagmhfoaaM1
import Derived.Laws.BitsLemmas
import Derived.Lib.ItoaNum
import Derived.Lib.QuoteBits
import Derived.Laws.Small
import Derived.Laws.StructEq
import Derived.Laws.Cover2
import Derived.KernelRfl
import Derived.Test.YthnhacbagmhfoaaM2
/- seqs: a number's code and extra. -/
namespace Go.Proofs.Ythnhacbagmhfoaa
open Go.RowKit
set_option linter.unusedVariables false

theorem wrap_pow40 (n : Nat) (hn : n ≤ 40) : wrap64 ((2 : Int) ^ n) = ((2 ^ n : Nat) : Int) := by
  have h : (2 : Nat) ^ n ≤ 2 ^ 40 := Nat.pow_le_pow_right (by omega) hn
  have e : ((2 : Int) ^ n) = ((2 ^ n : Nat) : Int) := by simp
  rw [e]
  generalize 2 ^ n = p at *
  unfold wrap64; omega

theorem andNot_pow (r k : Nat) (hr : r < 2 ^ k) (hk : k < 62) : bits BinOp.andNot IntKind.i64 ((2 ^ k + r : Nat) : Int) ((2 ^ k : Nat) : Int) = (r : Int) := by
  have hp : 2 ^ k < 2 ^ 62 := Nat.pow_lt_pow_right (by omega) hk
  have key : ((2 ^ k + r) &&& (2 ^ 64 - (2 ^ k + 1))) = r := by
    apply Nat.eq_of_testBit_eq
    intro i
    have h2 := Nat.two_pow_add_eq_or_of_lt hr 1
    rw [Nat.mul_one] at h2
    rw [Nat.testBit_and, Nat.testBit_two_pow_sub_succ (by omega), h2, Nat.testBit_or, Nat.testBit_two_pow]
    by_cases e : k = i
    · subst e; simp [Nat.testBit_lt_two_pow hr]
    · by_cases hi : i < 64
      · simp [e, hi]
      · have : r.testBit i = false := Nat.testBit_lt_two_pow (Nat.lt_of_lt_of_le (Nat.lt_trans hr hp) (Nat.pow_le_pow_right (by omega) (by omega)))
        simp [e, hi, this]
  have e1 : (2 ^ k + r) % 2 ^ 64 = 2 ^ k + r := Nat.mod_eq_of_lt (by omega)
  have e2 : 2 ^ k % 2 ^ 64 = 2 ^ k := Nat.mod_eq_of_lt (by omega)
  show IntKind.i64.wrap ((BitVec.ofInt 64 ((2 ^ k + r : Nat) : Int) &&& ~~~(BitVec.ofInt 64 ((2 ^ k : Nat) : Int))).toNat : Nat) = _
  rw [BitVec.ofInt_natCast, BitVec.ofInt_natCast, BitVec.toNat_and, BitVec.toNat_not, BitVec.toNat_ofNat, BitVec.toNat_ofNat, e1, e2, show 2 ^ 64 - 1 - 2 ^ k = 2 ^ 64 - (2 ^ k + 1) by omega, key, IntKind.wrap_i64]
  omega

/-- A number's code; how many digits its extra has; its extra. -/
def codeC (v : Nat) : Nat := if v = 0 then 0 else Nat.log2 v + 1
def codeN (v : Nat) : Nat := Nat.log2 v
def codeX (v : Nat) : Nat := if v = 0 then 0 else v - 2 ^ Nat.log2 v
def codeT (v : Nat) : Value := .tuple #[.int .i64 (codeC v), .int .i64 (codeN v), .int .i64 (codeX v)]

theorem log2_lt {v k : Nat} (h : v < 2 ^ k) (hk : 0 < k) : Nat.log2 v < k := by
  by_cases e : v = 0
  · subst e; simpa using hk
  · exact (Nat.log2_lt e).2 h
theorem code_parts {v : Nat} (h : v ≠ 0) : codeX v < 2 ^ Nat.log2 v ∧ 2 ^ Nat.log2 v + codeX v = v := by
  have h1 : 2 ^ Nat.log2 v ≤ v := Nat.log2_self_le h
  have h2 : v < 2 ^ (Nat.log2 v + 1) := Nat.lt_log2_self
  rw [Nat.pow_succ] at h2
  unfold codeX; rw [if_neg h]
  omega

theorem len_walk (v : Nat) (hv : v < 2 ^ 40) (w : World) : Calls Try.prog 33 #[.int .u64 v] w fun e w' => e = .returned (.int .i64 (codeC v : Nat)) ∧ w = w' :=
  (Try.bits_Len (v : Int) w (by omega) (by omega)).mono fun e w' ⟨h1, h2⟩ => ⟨by
    rw [h1, Int.toNat_natCast]
    by_cases h : v = 0
    · subst h; rfl
    · rw [bitLen_is v h (by omega)]; unfold codeC; rw [if_neg h], h2.symm⟩

theorem len_zero (w : World) : Calls Try.prog 33 #[.int .u64 0] w fun e w' => e = .returned (.int .i64 0) ∧ w = w' := len_walk 0 (by decide) w
theorem len_pos (v k : Nat) (hv : v < 2 ^ 40) (h : v ≠ 0) (hk : Nat.log2 v = k) (w : World) : Calls Try.prog 33 #[.int .u64 v] w fun e w' => e = .returned (.int .i64 ((k : Int) + 1)) ∧ w = w' := by
  have := len_walk v hv w
  unfold codeC at this
  rw [if_neg h, hk] at this
  exact this

theorem codeT_zero : codeT 0 = .tuple #[.int .i64 0, .int .i64 0, .int .i64 0] := by
  have h : Nat.log2 0 = 0 := by decide
  unfold codeT codeC codeX codeN; rw [h]; rfl

theorem code_walk (v : Nat) (hv : v < 2 ^ 40) (w : World) : Calls Try.prog 15 #[.int .i64 v] w fun e w' => e = .returned (codeT v) ∧ ∃ n, w' = w.drewN n := by
  by_cases h : v = 0
  · subst h
    have hmax : max (-1 : Int) 0 = 0 := by decide
    have hb : bits BinOp.andNot IntKind.i64 0 1 = 0 := by decide
    go_enter Try.func15, Try.ntmps15
    go_wp2_with (go_at_call 33; refine (len_zero _).mono ?_; rintro e w' ⟨rfl, rfl⟩)
    go_region
    all_goals
      go_wp2
      go_ret3
      exact ⟨by rw [codeT_zero]; rfl, 1, rfl⟩
  · obtain ⟨k, hk⟩ : ∃ k, Nat.log2 v = k := ⟨_, rfl⟩
    have hk40 : k < 40 := by rw [← hk]; exact log2_lt hv (by omega)
    obtain ⟨h1, h2⟩ := code_parts h
    have hc : codeT v = .tuple #[.int .i64 ((k : Int) + 1), .int .i64 k, .int .i64 (codeX v)] := by
      unfold codeT codeC codeN; rw [if_neg h, hk]; rfl
    rw [hk] at h1 h2
    obtain ⟨r, hr⟩ : ∃ r, codeX v = r := ⟨_, rfl⟩
    rw [hr] at h1 h2 hc
    have hb : bits BinOp.andNot IntKind.i64 (v : Int) (wrap64 (2 ^ k)) = (r : Int) := by rw [wrap_pow40 k (by omega), ← h2]; exact andNot_pow r k h1 (by omega)
    have hmax : max (k : Int) 0 = k := by omega
    have hv64 : (v : Int) < 2 ^ 40 := by exact_mod_cast hv
    have Hc := Lib.hid hc
    have Hlen := Lib.hid (len_pos v k hv h hk)
    clear hc h1 h2 hr h hk
    go_enter Try.func15, Try.ntmps15
    go_wp2_with (go_at_call 33; refine (Hlen.out _).mono ?_; rintro e w' ⟨rfl, rfl⟩)
    go_region
    all_goals
      go_wp2
      go_ret3
      exact ⟨by rw [Hc.out]; rfl, 1, rfl⟩

theorem ref_code (v : Nat) (hv : v < 2 ^ 40) (w : World) : Calls Try.prog 16 #[.int .i64 v] w fun e w' => e = .returned (codeT v) ∧ w = w' := by
  by_cases h : v = 0
  · subst h
    go_enter Try.func16, Try.ntmps16
    go_wp2
    go_loop [5] (fun i => i = .int .i64 0) (fun _ => 0)
    case atStart => rfl
    case round =>
      subst hrel
      go_wp2
      go_ret3
      exact ⟨by rw [codeT_zero]; rfl, rfl⟩
  · obtain ⟨k, hk⟩ : ∃ k, Nat.log2 v = k := ⟨_, rfl⟩
    have hk40 : k < 40 := by rw [← hk]; exact log2_lt hv (by omega)
    obtain ⟨h1, h2⟩ := code_parts h
    have hc : codeT v = .tuple #[.int .i64 ((k : Int) + 1), .int .i64 k, .int .i64 (codeX v)] := by
      unfold codeT codeC codeN; rw [if_neg h, hk]; rfl
    rw [hk] at h1 h2
    obtain ⟨r, hr⟩ : ∃ r, codeX v = r := ⟨_, rfl⟩
    rw [hr] at h1 h2 hc
    have hlog : ∀ x : Nat, x ≤ k → 0 < v / 2 ^ x := fun x hx => Nat.div_pos (Nat.le_trans (Nat.pow_le_pow_right (by omega) hx) (by omega)) (Nat.two_pow_pos x)
    have htop : v / 2 ^ (k + 1) = 0 := Nat.div_eq_of_lt (by rw [Nat.pow_succ]; omega)
    have Hlog := Lib.hid hlog
    have hv64 : (v : Int) < 2 ^ 40 := by exact_mod_cast hv
    have Hc := Lib.hid hc
    have hw := wrap_pow40 k (by omega)
    have Hsub : Hid ((v : Int) - wrap64 (2 ^ k) = r) := Lib.hid (by rw [hw]; omega)
    have Hwp : Hid (0 ≤ wrap64 (2 ^ k) ∧ wrap64 (2 ^ k) ≤ v) := Lib.hid (by rw [hw]; omega)
    clear hc h1 h2 hr h hk hlog hw
    go_enter Try.func16, Try.ntmps16
    go_wp2
    go_loop [5] (fun i => ∃ x : Nat, x ≤ k + 1 ∧ i = .int .i64 x) (fun i => k + 1 - (intOf i).toNat)
    case atStart => exact ⟨0, by omega, rfl⟩
    case round =>
      obtain ⟨x, hx, rfl⟩ := hrel
      by_cases hlt : x ≤ k
      · have hpos : (0 : Int) < (v : Int) / 2 ^ x := by
          have := Hlog.out x hlt
          have e : ((v : Int) / 2 ^ x) = ((v / 2 ^ x : Nat) : Int) := by simp
          rw [e]; omega
        go_wp2
        go_round
        case rel => exact ⟨x + 1, by omega, by go_num⟩
        case measure => simp [intOf]; omega
      · obtain rfl : x = k + 1 := by omega
        have hz : (v : Int) / 2 ^ (k + 1) = 0 := by
          have e : ((v : Int) / 2 ^ (k + 1)) = ((v / 2 ^ (k + 1) : Nat) : Int) := by simp
          rw [e, htop]; rfl
        have hne : (((k : Int) + 1) == 0) = false := by simp; omega
        obtain ⟨hs1, hs2⟩ := Hwp.out
        go_wp2
        go_ret3
        refine ⟨?_, rfl⟩
        rw [Hc.out, ← Hsub.out]
        rfl

theorem value_zero (x : Int) (w : World) : Calls Try.prog 17 #[.int .i64 0, .int .i64 x] w fun e w' => e = .returned (.int .i64 0) ∧ w = w' := by
  go_enter Try.func17, Try.ntmps17
  go_wp2
  go_ret
  exact ⟨rfl, rfl⟩
theorem value_pos (k x : Nat) (hk : k ≤ 40) (hx : x ≤ 2 ^ 41) (w : World) : Calls Try.prog 17 #[.int .i64 ((k : Int) + 1), .int .i64 x] w fun e w' => e = .returned (.int .i64 ((2 ^ k + x : Nat) : Int)) ∧ w = w' := by
  have hne : (((k : Int) + 1) == 0) = false := by simp; omega
  have hw := Lib.hid (wrap_pow40 k hk)
  have hp : (2 : Nat) ^ k ≤ 2 ^ 40 := Nat.pow_le_pow_right (by omega) hk
  obtain ⟨q, hq⟩ : ∃ q : Nat, 2 ^ k = q := ⟨_, rfl⟩
  have hwq : wrap64 ((2 : Int) ^ k) = q := by rw [hw.out, hq]
  rw [hq] at hp ⊢
  clear hq
  go_enter Try.func17, Try.ntmps17
  go_wp2
  go_ret
  exact ⟨by simp, rfl⟩
/-- A number out of its code and extra. -/
theorem value_code (v : Nat) (hv : v < 2 ^ 40) (w : World) : Calls Try.prog 17 #[.int .i64 (codeC v : Nat), .int .i64 (codeX v : Nat)] w fun e w' => e = .returned (.int .i64 v) ∧ w = w' := by
  by_cases h : v = 0
  · subst h; exact value_zero _ w
  · obtain ⟨h1, h2⟩ := code_parts h
    have hk : Nat.log2 v < 40 := log2_lt hv (by omega)
    have hx : codeX v ≤ v := by omega
    have := value_pos (Nat.log2 v) (codeX v) (by omega) (by omega) w
    rw [h2] at this
    unfold codeC; rw [if_neg h]
    exact this
end Go.Proofs.Ythnhacbagmhfoaa

/- seqs: Begin, known; the law SeqsCodes. -/
namespace Go.Proofs.Ythnhacbagmhfoaa
open Go.RowKit Go.WideShapes
set_option linter.unusedVariables false
set_option maxRecDepth 100000

theorem Try.size31 : (Try.prog.info? 31).map (·.size) = some 3 := by kernel_rfl
/-- Three whole numbers in a row, as one value. -/
def arr3 (a b c : Int) : Value := .agg #[.int .i64 a, .int .i64 b, .int .i64 c]
theorem load31 {w : World} {g : Nat} {a b c : Int} {t : TypeId} {fr : Nat × Nat} (h : w.heap[g]? = some (.cells #[.int .i64 a, .int .i64 b, .int .i64 c] t fr)) : (loadVar 31 ⟨g, 0, none⟩).run Try.prog w = .ok (arr3 a b c) w :=
  run_loadVar_row w g t 31 _ fr _ h Try.underlying31 rfl Try.size31

theorem begin_walk (w : World) : Calls Try.prog 21 #[] w fun e w' => e = .returned (arr3 1 4 8) ∧ Touch (fun _ => False) w w' := by
  go_enter Try.func21, Try.ntmps21
  go_wp2
  refine bodyPost_ret (results_cell rfl _ _ _ _ _ rfl (load31 (heap_alloc_new _ _))) rfl ?_
  exact ⟨rfl, (Touch.refl _ _).alloc _⟩
theorem ref_begin (w : World) : Calls Try.prog 32 #[] w fun e w' => e = .returned (arr3 1 4 8) ∧ Touch (fun _ => False) w w' := by
  go_enter Try.func32, Try.ntmps32
  go_wp2
  refine bodyPost_ret (results_cell rfl _ _ _ _ _ rfl (load31 (heap_alloc_new _ _))) rfl ?_
  exact ⟨rfl, (Touch.refl _ _).alloc _⟩
theorem eq31 (a b c a' b' c' : Int) (w : World) : (Op.equalIn 10000 31 (.agg #[.int .i64 a, .int .i64 b, .int .i64 c]) (.agg #[.int .i64 a', .int .i64 b', .int .i64 c'])).run Try.prog w = .ok (a == a' && (b == b' && c == c')) w := by
  have u3 := Try.underlying3
  have a3 := Try.isAgg3
  have z3 := Try.sizeOf3
  rw [show (10000 : Nat) = 9999 + 1 from rfl, Op.equalIn]
  simp only [Sem.run_bind, run_underlying Try.underlying31, Result.andThen_ok]
  simp only [Std.Legacy.Range.forIn_eq_forIn_range', Std.Legacy.Range.size, Nat.sub_zero, Nat.add_sub_cancel, Nat.div_one, List.range'_succ, List.range'_zero, List.forIn_cons, List.forIn_nil]
  go_simp
  by_cases h1 : a = a' <;> by_cases h2 : b = b' <;> by_cases h3 : c = c' <;> simp [h1, h2, h3]

theorem codeT_five : codeT 5 = .tuple #[.int .i64 3, .int .i64 2, .int .i64 1] := by
  have h : Nat.log2 5 = 2 := by decide
  unfold codeT codeC codeX codeN; rw [h]; rfl
theorem known_walk (w : World) : Calls Try.prog 18 #[] w fun e w' => e = .returned (.bool true) ∧ Touch (fun _ => False) w w' := by
  go_enter Try.func18, Try.ntmps18
  go_wp2_with fail
  refine (code_walk 5 (by decide) _).mono ?_
  rintro e w1 ⟨rfl, n, rfl⟩
  rw [codeT_five]
  go_wp2_with fail
  refine (value_pos 2 1 (by decide) (by decide) _).mono ?_
  rintro e w2 ⟨rfl, rfl⟩
  go_wp2_with fail
  refine (begin_walk _).mono ?_
  rintro e w3 ⟨rfl, ht3⟩
  have h31 := fun w => eq31 1 4 8 1 4 8 w
  unfold arr3
  go_wp2_with fail
  go_ret
  exact ⟨rfl, ht3.of_drewN⟩
theorem codeX_lt (v : Nat) : codeX v < 2 ^ codeN v := by
  by_cases h : v = 0
  · subst h; exact Nat.two_pow_pos _
  · exact (code_parts h).1

theorem SeqsCodes_in (w : World) (v : Nat) (hv : v < 1048576) : Calls Try.prog 3 #[.int .i64 v] w fun e w' => e = .returned (.bool true) ∧ Below w.heap.size w w' := by
  have hv40 : v < 2 ^ 40 := by omega
  have hx := codeX_lt v
  have hn : codeN v < 20 := log2_lt (show v < 2 ^ 20 by omega) (by omega)
  have hc : codeT v = .tuple #[.int .i64 (codeC v), .int .i64 (codeN v), .int .i64 (codeX v)] := rfl
  have Hv := Lib.hid (value_code v hv40)
  obtain ⟨c, hcc⟩ : ∃ c, codeC v = c := ⟨_, rfl⟩
  obtain ⟨n, hnn⟩ : ∃ n, codeN v = n := ⟨_, rfl⟩
  obtain ⟨x, hxx⟩ : ∃ x, codeX v = x := ⟨_, rfl⟩
  rw [hcc, hxx] at Hv
  rw [hcc, hnn, hxx] at hc
  rw [hxx, hnn] at hx
  rw [hnn] at hn
  have hsh : (x : Int) < wrap64 ((2 : Int) ^ n) := by rw [wrap_pow40 n (by omega)]; exact_mod_cast hx
  have Hc := Lib.hid hc
  clear hc hcc hnn hxx hx
  go_enter Try.func3, Try.ntmps3
  go_wp2_with fail
  refine (code_walk v hv40 _).mono ?_
  rintro e w1 ⟨rfl, m, rfl⟩
  rw [Hc.out]
  go_wp2_with fail
  refine (ref_code v hv40 _).mono ?_
  rintro e w2 ⟨rfl, rfl⟩
  rw [Hc.out]
  go_wp2_with fail
  refine (Hv.out _).mono ?_
  rintro e w2 ⟨rfl, rfl⟩
  go_wp2_with fail
  refine (known_walk _).mono ?_
  rintro e w3 ⟨rfl, ht3⟩
  go_wp2_with fail
  go_ret
  exact ⟨rfl, ht3.of_drewN.owned⟩

theorem SeqsCodes_law (w : World) (a0 : Int) (w0 : (Lit.int .i64 a0).wf = true) :
    Calls Try.prog 3 #[.int .i64 a0] w fun e w' => e = .returned (.bool true) ∧ Below w.heap.size w w' := by
  clear w0
  by_cases h0 : a0 < 0
  · go_enter Try.func3, Try.ntmps3
    go_wp2_with fail
    go_ret
    exact ⟨rfl, Below.refl _ _⟩
  by_cases h1 : 1048576 ≤ a0
  · go_enter Try.func3, Try.ntmps3
    go_wp2_with fail
    go_ret
    exact ⟨rfl, Below.refl _ _⟩
  obtain ⟨v, rfl⟩ := Int.eq_ofNat_of_zero_le (show 0 ≤ a0 by omega)
  exact SeqsCodes_in w v (by omega)
end Go.Proofs.Ythnhacbagmhfoaa

/- seqs: the last three offsets. -/
namespace Go.Proofs.Ythnhacbagmhfoaa
open Go.RowKit Go.WideShapes
set_option linter.unusedVariables false
set_option maxRecDepth 100000

/-- The last three offsets. -/
structure H3 where
  a : Int
  b : Int
  c : Int
def H3.val (h : H3) : Value := arr3 h.a h.b h.c
def frontH (h : H3) (v off : Int) : H3 := if v = 0 then h else if v = 1 then ⟨off, h.a, h.c⟩ else ⟨off, h.a, h.b⟩

theorem moved_walk (h : H3) (v off : Int) (w : World) : Calls Try.prog 58 #[h.val, .int .i64 v, .int .i64 off] w fun e w' => e = .returned (frontH h v off).val ∧ Touch (fun _ => False) w w' := by
  obtain ⟨a, b, c⟩ := h
  unfold H3.val arr3
  by_cases h0 : v = 0
  · subst h0
    go_enter Try.func58, Try.ntmps58
    go_wp2
    refine bodyPost_ret (results_cell rfl _ _ _ _ _ rfl (load31 (heap_alloc_2 _ _ _))) rfl ?_
    exact ⟨rfl, ((Touch.refl _ _).alloc _).alloc _⟩
  have hv0 : (v == 0) = false := by simpa using h0
  by_cases h1 : v = 1
  · subst h1
    go_enter Try.func58, Try.ntmps58
    go_wp2
    refine bodyPost_ret (results_cell rfl _ _ _ _ _ rfl (load31 (heap_alloc_2 _ _ _))) rfl ?_
    exact ⟨rfl, ((Touch.refl _ _).alloc _).alloc _⟩
  have hv1 : (v == 1) = false := by simpa using h1
  have hf : frontH ⟨a, b, c⟩ v off = ⟨off, a, b⟩ := by unfold frontH; rw [if_neg h0, if_neg h1]
  rw [hf]
  clear hf
  go_enter Try.func58, Try.ntmps58
  go_wp2
  refine bodyPost_ret (results_cell rfl _ _ _ _ _ rfl (load31 (heap_alloc_2 _ _ _))) rfl ?_
  exact ⟨rfl, ((Touch.refl _ _).alloc _).alloc _⟩
theorem front_walk (h : H3) (v off : Int) (w : World) : Calls Try.prog 59 #[h.val, .int .i64 v, .int .i64 off] w fun e w' => e = .returned (frontH h v off).val ∧ Touch (fun _ => False) w w' := by
  obtain ⟨a, b, c⟩ := h
  unfold H3.val arr3
  by_cases h0 : v = 0
  · subst h0
    go_enter Try.func59, Try.ntmps59
    go_wp2
    refine bodyPost_ret (results_cell rfl _ _ _ _ _ rfl (load31 (heap_alloc_2 _ _ _))) rfl ?_
    exact ⟨rfl, ((Touch.refl _ _).alloc _).alloc _⟩
  have hv0 : (v == 0) = false := by simpa using h0
  by_cases h1 : v = 1
  · subst h1
    go_enter Try.func59, Try.ntmps59
    go_wp2
    refine bodyPost_ret (results_cell rfl _ _ _ _ _ rfl (load31 (heap_alloc_2 _ _ _))) rfl ?_
    exact ⟨rfl, ((Touch.refl _ _).alloc _).alloc _⟩
  have hv1 : (v == 1) = false := by simpa using h1
  have hf : frontH ⟨a, b, c⟩ v off = ⟨off, a, b⟩ := by unfold frontH; rw [if_neg h0, if_neg h1]
  rw [hf]
  clear hf
  go_enter Try.func59, Try.ntmps59
  go_wp2
  refine bodyPost_ret (results_cell rfl _ _ _ _ _ rfl (load31 (heap_alloc_2 _ _ _))) rfl ?_
  exact ⟨rfl, ((Touch.refl _ _).alloc _).alloc _⟩

/-- The first of three that is x. -/
def idxH (h : H3) (x : Int) : Int := if h.a = x then 0 else if h.b = x then 1 else if h.c = x then 2 else -1
theorem index_walk (h : H3) (g : Nat) (x : Int) (w : World) (h0 : w.cell? ⟨g, 0, none⟩ = some (.int .i64 h.a)) (h1 : w.cell? ⟨g, 1, none⟩ = some (.int .i64 h.b)) (h2 : w.cell? ⟨g, 2, none⟩ = some (.int .i64 h.c)) :
    Calls Try.prog 57 #[.slice (some ⟨g, 0, none⟩) 3 3, .int .i64 x] w fun e w' => e = .returned (.int .i64 (idxH h x)) ∧ w = w' := by
  obtain ⟨a, b, c⟩ := h
  unfold idxH
  simp only at h0 h1 h2 ⊢
  go_enter Try.func57, Try.ntmps57
  go_wp2
  go_loop [5, 8] (fun _ i => ∃ k : Nat, k ≤ 3 ∧ i = .int .i64 k ∧ (0 < k → a ≠ x) ∧ (1 < k → b ≠ x) ∧ (2 < k → c ≠ x)) (fun _ i => 3 - (intOf i).toNat)
  case atStart => exact ⟨0, by omega, rfl, fun h => by omega, fun h => by omega, fun h => by omega⟩
  case round =>
    obtain ⟨k, hk, rfl, ha, hb, hc⟩ := hrel
    have hkc : k = 0 ∨ k = 1 ∨ k = 2 ∨ k = 3 := by omega
    rcases hkc with rfl | rfl | rfl | rfl
    · by_cases e : a = x
      · have e' : (x == a) = true := by simp [e]
        go_wp2
        go_ret
        exact ⟨rfl, rfl⟩
      · have e' : (x == a) = false := beq_eq_false_iff_ne.2 (fun h => e h.symm)
        go_wp2
        go_round
        case rel => exact ⟨1, by omega, rfl, fun _ => e, fun h => by omega, fun h => by omega⟩
        case measure => simp [intOf]
    · have na := ha (by omega)
      by_cases e : b = x
      · have e' : (x == b) = true := by simp [e]
        go_wp2
        go_ret
        exact ⟨rfl, rfl⟩
      · have e' : (x == b) = false := beq_eq_false_iff_ne.2 (fun h => e h.symm)
        go_wp2
        go_round
        case rel => exact ⟨2, by omega, rfl, fun _ => na, fun _ => e, fun h => by omega⟩
        case measure => simp [intOf]
    · have na := ha (by omega)
      have nb := hb (by omega)
      by_cases e : c = x
      · have e' : (x == c) = true := by simp [e]
        go_wp2
        go_ret
        exact ⟨rfl, rfl⟩
      · have e' : (x == c) = false := beq_eq_false_iff_ne.2 (fun h => e h.symm)
        go_wp2
        go_round
        case rel => exact ⟨3, by omega, rfl, fun _ => na, fun _ => nb, fun _ => e⟩
        case measure => simp [intOf]
    · have na := ha (by omega)
      have nb := hb (by omega)
      have nc := hc (by omega)
      go_wp2
      go_ret
      exact ⟨rfl, rfl⟩
end Go.Proofs.Ythnhacbagmhfoaa

/- seqs: offsets as values. -/
namespace Go.Proofs.Ythnhacbagmhfoaa
open Go.RowKit Go.WideShapes
set_option linter.unusedVariables false
set_option maxRecDepth 100000

/-- Three whole numbers that lie in a block of their own. -/
def Arr (w : World) (b : Nat) (h : H3) : Prop := w.heap[b]? = some (.cells #[.int .i64 h.a, .int .i64 h.b, .int .i64 h.c] 31 (0, 0))
theorem Arr.cells {w : World} {b : Nat} {h : H3} (k : Arr w b h) : w.cell? ⟨b, 0, none⟩ = some (.int .i64 h.a) ∧ w.cell? ⟨b, 1, none⟩ = some (.int .i64 h.b) ∧ w.cell? ⟨b, 2, none⟩ = some (.int .i64 h.c) := by
  unfold Arr at k
  simp [World.cell?, k]
theorem Arr.free {w : World} {b : Nat} {h : H3} (k : Arr w b h) (i : Nat) : w.frozen? ⟨b, i, none⟩ = false := by
  unfold Arr at k
  simp [World.frozen?, k]
theorem Arr.touch {w w' : World} {b : Nat} {h : H3} {S : Nat → Prop} (k : Arr w b h) (ht : Touch S w w') (hs : ¬ S b) : Arr w' b h := ht.heap k hs
/-- Three whole numbers stored. -/
def put3 (w : World) (b : Nat) (h : H3) : World := ((w.setCell ⟨b, 0, none⟩ (.int .i64 h.a)).setCell ⟨b, 1, none⟩ (.int .i64 h.b)).setCell ⟨b, 2, none⟩ (.int .i64 h.c)
theorem Arr.put {w : World} {b : Nat} {h : H3} (k : Arr w b h) (h' : H3) : Arr (put3 w b h') b h' := by
  have h1 := heap_setCell_same (o := 0) k (.int .i64 h'.a)
  have h2 := heap_setCell_same (o := 1) h1 (.int .i64 h'.b)
  have h3 := heap_setCell_same (o := 2) h2 (.int .i64 h'.c)
  exact h3
theorem touch_put3 (w : World) (b : Nat) (h : H3) : Touch (· = b) w (put3 w b h) :=
  (((Touch.refl (· = b) w).setCell (p := ⟨b, 0, none⟩) (fun _ => rfl) _).setCell (p := ⟨b, 1, none⟩) (fun _ => rfl) _).setCell (p := ⟨b, 2, none⟩) (fun _ => rfl) _
theorem size_put3 (w : World) (b : Nat) (h : H3) : (put3 w b h).heap.size = w.heap.size := by simp [put3, World.setCell]
theorem put3_new (w : World) (b : Nat) (h : H3) (o : Obj) : ((put3 w b h).alloc o).heap[w.heap.size]? = some o := by
  have := heap_alloc_new (put3 w b h) o
  rwa [size_put3] at this
theorem Arr.load {w : World} {b : Nat} {h : H3} (k : Arr w b h) : (loadVar 31 ⟨b, 0, none⟩).run Try.prog w = .ok h.val w := load31 k
theorem results_cell2 {fn : Func} {s a : Tmp} {t : TypeId} (h : fn.results = #[.tmp s, .cell a t]) (tmps : Array Value) (P : Program) (w : World) (p : Addr) (v : Value) (hp : tmps.getD a undef = .pointer (some p)) (hl : (loadVar t p).run P w = .ok v w) :
    (results fn tmps).run P w = .ok (.tuple #[tmps.getD s undef, v]) w := by
  have hp' : tmps[a]?.getD undef = .pointer (some p) := by simpa using hp
  simp [results, h, hp', asAddr, hl]

/-- An offset's value; the last three behind the first k. -/
def valH (h : H3) (off : Int) : Int := if idxH h off < 0 then off + 2 else idxH h off
def histO (z : Nat → Int) (h : H3) : Nat → H3
  | 0 => h
  | k + 1 => frontH (histO z h k) (valH (histO z h k) (z k)) (z k)
def valO (z : Nat → Int) (h : H3) (k : Nat) : Int := valH (histO z h k) (z k)

theorem rec3 {w : World} {a : Option Addr} {b o l c : Nat} {z : Nat → Nat → Int} (h : RecsIn 3 w a b o l c z) {w' : World} (ht : Touch (fun _ => False) w w') {i : Nat} (hi : i < l) :
    w'.cell? ⟨b, o + i * 3, none⟩ = some (.int .i64 (z i 0)) ∧ w'.cell? ⟨b, o + i * 3 + 1, none⟩ = some (.int .i64 (z i 1)) ∧ w'.cell? ⟨b, o + i * 3 + 2, none⟩ = some (.int .i64 (z i 2)) :=
  ⟨ht.cell (h.cell i hi 0 (by omega)) id, ht.cell (h.cell i hi 1 (by omega)) id, ht.cell (h.cell i hi 2 (by omega)) id⟩

/-- What Offsets and Back give. -/
structure OutO (w w' : World) (v : Value) (n : Nat) (z : Nat → Int) : Prop where
  row : w'.ownsRow 0 3 1 v n (cellsZ .i64 z n)
  own : OwnB w.heap.size v
  touch : Touch (fun _ => False) w w'

set_option maxHeartbeats 2000000 in
theorem offsets_walk (w : World) (a0 : Option Addr) (b0 o0 l0 c0 : Nat) (z0 : Nat → Nat → Int) (w0 : RecsIn 3 w a0 b0 o0 l0 c0 z0) (h : H3) (hl : l0 ≤ 100000) (hz : ∀ i, i < l0 → 0 ≤ z0 i 1 ∧ z0 i 1 ≤ 1073741824) :
    Calls Try.prog 27 #[.slice a0 l0 c0, h.val] w fun e w' => ∃ v, e = .returned (.tuple #[v, (histO (fun i => z0 i 1) h l0).val]) ∧ OutO w w' v l0 (valO (fun i => z0 i 1) h) := by
  obtain ⟨i0, hi, hz0, hz1, hz2⟩ := info_parts Try.info3
  have Hz := Lib.hid hz
  have W0 := Lib.hid w0
  clear hz w0
  unfold H3.val arr3
  go_enter Try.func27, Try.ntmps27
  go_wp2_with fail
  go_loopw [6, 8, 9, 12] (fun q _ _ i wr => ∃ k : Nat, k ≤ l0 ∧ i = .int .i64 k ∧ Arr wr w.heap.size (histO (fun i => z0 i 1) h k) ∧ Arr wr (w.heap.size + 1) ⟨0, 0, 0⟩ ∧ wr.ownsRow 0 3 1 q k (cellsZ .i64 (valO (fun i => z0 i 1) h) k) ∧ OwnB (w.heap.size + 2) q ∧ Touch (fun _ => False) w wr) (fun _ _ _ i _ => l0 - (intOf i).toNat)
  case atStart => exact ⟨0, by omega, rfl, Arr.touch (h := h) (heap_alloc_new w _) ((Touch.refl (fun _ => False) _).alloc _) id, heap_alloc_2 _ _ _, World.ownsRow_nil _ _ _ _, OwnB.nil _, ((Touch.refl _ _).alloc _).alloc _⟩
  case round =>
    obtain ⟨k, hk, rfl, hA, hB, hrow, hown, ht⟩ := hrel
    have HA := Lib.hid hA
    have HB := Lib.hid hB
    have Hrow := Lib.hid hrow
    clear hA hB hrow
    by_cases hlt : k < l0
    · obtain rfl := W0.out.at_ (by omega)
      obtain ⟨e0, e1, e2⟩ := rec3 W0.out ht hlt
      obtain ⟨x0, x1⟩ := Hz.out k hlt
      obtain ⟨hk3, hhk⟩ : ∃ hk3, histO (fun i => z0 i 1) h k = hk3 := ⟨_, rfl⟩
      rw [hhk] at HA
      obtain ⟨off, hoff⟩ : ∃ off, z0 k 1 = off := ⟨_, rfl⟩
      rw [hoff] at e1 x0 x1
      have dd : ∀ o n, Arr ((wr.alloc o).drewN n) w.heap.size hk3 := fun o n => HA.out.touch (((Touch.refl (fun _ => False) wr).alloc o).drewN n) id
      obtain ⟨x, hx⟩ : ∃ x, idxH hk3 off = x := ⟨_, rfl⟩
      have hix : ∀ o n, Calls Try.prog 57 #[.slice (some ⟨w.heap.size, 0, none⟩) 3 3, .int .i64 off] ((wr.alloc o).drewN n) fun e w' => e = .returned (.int .i64 x) ∧ (wr.alloc o).drewN n = w' := fun o n => by
        have := index_walk hk3 w.heap.size off _ (dd o n).cells.1 (dd o n).cells.2.1 (dd o n).cells.2.2
        rwa [hx] at this
      have Hix := Lib.hid hix
      have d0 := fun o n => (dd o n).cells.1
      have d1 := fun o n => (dd o n).cells.2.1
      have d2 := fun o n => (dd o n).cells.2.2
      have Dd := Lib.hid dd
      obtain ⟨vv, hvv⟩ : ∃ vv, valH hk3 off = vv := ⟨_, rfl⟩
      have hvx : vv = if x < 0 then off + 2 else x := by rw [← hvv, ← hx]; rfl
      have hval : valO (fun i => z0 i 1) h k = vv := by unfold valO; rw [hhk]; show valH hk3 (z0 k 1) = vv; rw [hoff, hvv]
      have hst : histO (fun i => z0 i 1) h (k + 1) = frontH hk3 vv off := by simp only [histO]; rw [hhk, hoff, hvv]
      obtain ⟨fh, hfh⟩ : ∃ fh, frontH hk3 vv off = fh := ⟨_, rfl⟩
      have Hmv := Lib.hid (show ∀ w, Calls Try.prog 58 #[hk3.val, .int .i64 vv, .int .i64 off] w fun e w' => e = .returned fh.val ∧ Touch (fun _ => False) w w' from fun w => by rw [← hfh]; exact moved_walk hk3 vv off w)
      rw [hfh] at hst
      have Hval := Lib.hid hval
      have Hst := Lib.hid hst
      have hsz := lt_of_block HB.out
      have hcase : (x < 0 ∧ off + 2 = vv) ∨ (¬ x < 0 ∧ x = vv) := by
        by_cases hneg : x < 0
        · rw [if_pos hneg] at hvx; exact .inl ⟨hneg, hvx.symm⟩
        · rw [if_neg hneg] at hvx; exact .inr ⟨hneg, hvx.symm⟩
      clear hix dd hx hvv hval hst hhk hoff hfh hvx
      rcases hcase with ⟨hneg, hvx⟩ | ⟨hneg, rfl⟩
      all_goals
        go_wp2_with fail
        go_quiet ((go_at_call 57; exact quiet_same (Hix.out _ _)))
        go_wp2_with fail
        refine (Hmv.out _).mono ?_
        rintro e w5 ⟨rfl, ht5⟩
        have t5 := (((Touch.refl (fun _ => False) wr).alloc _).drewN _).trans ht5
        have hA5 := HA.out.touch t5 id
        have HA8 := Lib.hid (hA5.put fh)
        have t8 := (t5.mono (S' := (· = w.heap.size)) (fun _ _ h => h.elim)).trans (touch_put3 w5 w.heap.size fh)
        have HB8 := Lib.hid (HB.out.touch t8 (by omega))
        have Hrow8 := Lib.hid (t8.row Hrow.out (fun i hi e => by have := hown i hi; omega))
        have T8 := Lib.hid (ht.then t8 (fun i hi e => by omega))
        obtain ⟨f0, f1, f2⟩ := hA5.cells
        have g0 := hA5.free 0
        have g1 := hA5.free 1
        have g2 := hA5.free 2
        clear t8 t5 ht5 hA5 d0 d1 d2
        unfold H3.val arr3
        go_wp2_with (refine wpList_append_mine rfl (.tmp 30) (.tmp 32) 43 43 rfl 3 i0 (.int .i64 0) 1 8 Try.underlying43 hi hz0 hz1 hz2 rfl u6 _ _ rfl (row_heap Hrow8.out rfl) _ 1 [_] rfl (src_at w5.heap.size Try.underlying43 _ rfl _ (put3_new w5 w.heap.size fh _)) (by unfold maxLen; omega) (by omega) ?_; intro a4 c4 w9 hown9 ht9 hf9 _)
        have t9 : Touch (fun k => u6.ownBlock = some k) (put3 w5 w.heap.size fh) w9 := ((Touch.refl _ (put3 w5 w.heap.size fh)).alloc _).trans ht9
        have HA9 := HA8.out.touch t9 (fun e => by have := hown _ e; omega)
        have HB9 := HB8.out.touch t9 (fun e => by have := hown _ e; omega)
        have T9 := own_app T8.out (hown.mono (by omega)) t9
        have own9 := hown.fresh hf9 (Nat.le_trans (lt_of_block HB8.out) ((Touch.refl (fun _ => False) _).alloc _).size)
        go_wp2_with fail
        go_roundw
        case rel => exact ⟨k + 1, by omega, by go_num, by rw [Hst.out]; exact HA9, HB9, by rw [cellsZ_succ, Hval.out]; exact hown9, own9, T9⟩
        case measure => simp [intOf]; omega
    · obtain rfl : k = l0 := by omega
      obtain ⟨hk3, hhk⟩ : ∃ hk3, histO (fun i => z0 i 1) h k = hk3 := ⟨_, rfl⟩
      rw [hhk] at HA
      have Hhk := Lib.hid hhk
      clear hhk
      obtain ⟨c0', c1', c2'⟩ := HA.out.cells
      obtain ⟨f0, f1, f2⟩ := HB.out.cells
      have g0 := HB.out.free 0
      have g1 := HB.out.free 1
      have g2 := HB.out.free 2
      go_wp2_with fail
      go_region
      all_goals
        go_wp2_with fail
        have ha := HB.out.put hk3
        have hr := (touch_put3 wr (w.heap.size + 1) hk3).row Hrow.out (fun i hi e => by have := hown i hi; omega)
        have ht' := ht.then (touch_put3 wr (w.heap.size + 1) hk3) (fun i hi e => by omega)
        refine bodyPost_ret (results_cell2 rfl _ _ _ _ _ rfl (Arr.load (h := hk3) (b := w.heap.size + 1) ha)) rfl ?_
        exact ⟨u6, by rw [Hhk.out]; rfl, hr, hown.mono (by omega), ht'.drew⟩
end Go.Proofs.Ythnhacbagmhfoaa

/- seqs: the document's offsets as values. -/
namespace Go.Proofs.Ythnhacbagmhfoaa
open Go.RowKit Go.WideShapes
set_option linter.unusedVariables false
set_option maxRecDepth 100000

/-- What is found from the last on. -/
def valR (h : H3) (off : Int) : Nat → Int
  | 0 => if h.a = off then 0 else if h.b = off then 1 else if h.c = off then 2 else off + 2
  | 1 => if h.b = off then 1 else if h.c = off then 2 else off + 2
  | 2 => if h.c = off then 2 else off + 2
  | _ => off + 2
theorem valR_is (h : H3) (off : Int) : valR h off 0 = valH h off := by
  unfold valR valH idxH
  by_cases h1 : h.a = off
  · simp [h1]
  · by_cases h2 : h.b = off
    · simp [h1, h2]
    · by_cases h3 : h.c = off <;> simp [h1, h2, h3]
set_option maxHeartbeats 4000000 in
theorem ref_offsets (w : World) (a0 : Option Addr) (b0 o0 l0 c0 : Nat) (z0 : Nat → Nat → Int) (w0 : RecsIn 3 w a0 b0 o0 l0 c0 z0) (h : H3) (hl : l0 ≤ 100000) (hz : ∀ i, i < l0 → 0 ≤ z0 i 1 ∧ z0 i 1 ≤ 1073741824) :
    Calls Try.prog 29 #[.slice a0 l0 c0, h.val] w fun e w' => ∃ v, e = .returned (.tuple #[v, (histO (fun i => z0 i 1) h l0).val]) ∧ OutO w w' v l0 (valO (fun i => z0 i 1) h) := by
  obtain ⟨i0, hi, hz0, hz1, hz2⟩ := info_parts Try.info3
  have Hz := Lib.hid hz
  have W0 := Lib.hid w0
  clear hz w0
  unfold H3.val arr3
  go_enter Try.func29, Try.ntmps29
  go_wp2_with fail
  go_loopw [6, 7, 8, 9] (fun q i _ _ wr => ∃ k : Nat, k ≤ l0 ∧ i = .int .i64 k ∧ Arr wr w.heap.size (histO (fun i => z0 i 1) h k) ∧ Arr wr (w.heap.size + 1) ⟨0, 0, 0⟩ ∧ wr.ownsRow 0 3 1 q k (cellsZ .i64 (valO (fun i => z0 i 1) h) k) ∧ OwnB (w.heap.size + 2) q ∧ Touch (fun _ => False) w wr) (fun _ i _ _ _ => l0 - (intOf i).toNat)
  case atStart => exact ⟨0, by omega, rfl, Arr.touch (h := h) (heap_alloc_new w _) ((Touch.refl (fun _ => False) _).alloc _) id, heap_alloc_2 _ _ _, World.ownsRow_nil _ _ _ _, OwnB.nil _, ((Touch.refl _ _).alloc _).alloc _⟩
  case round =>
    obtain ⟨k, hk, rfl, hA, hB, hrow, hown, ht⟩ := hrel
    have HA := Lib.hid hA
    have HB := Lib.hid hB
    have Hrow := Lib.hid hrow
    clear hA hB hrow
    by_cases hlt : k < l0
    · obtain rfl := W0.out.at_ (by omega)
      obtain ⟨e0, e1, e2⟩ := rec3 W0.out ht hlt
      obtain ⟨x0, x1⟩ := Hz.out k hlt
      obtain ⟨hk3, hhk⟩ : ∃ hk3, histO (fun i => z0 i 1) h k = hk3 := ⟨_, rfl⟩
      rw [hhk] at HA
      obtain ⟨off, hoff⟩ : ∃ off, z0 k 1 = off := ⟨_, rfl⟩
      have Hoff := Lib.hid hoff
      rw [hoff] at e1 x0 x1
      obtain ⟨vv, hvv⟩ : ∃ vv, valH hk3 off = vv := ⟨_, rfl⟩
      have hval : valO (fun i => z0 i 1) h k = vv := by unfold valO; rw [hhk]; show valH hk3 (z0 k 1) = vv; rw [hoff, hvv]
      have hst : histO (fun i => z0 i 1) h (k + 1) = frontH hk3 vv off := by simp only [histO]; rw [hhk, hoff, hvv]
      obtain ⟨fh, hfh⟩ : ∃ fh, frontH hk3 vv off = fh := ⟨_, rfl⟩
      have Hmv := Lib.hid (show ∀ w, Calls Try.prog 59 #[hk3.val, .int .i64 vv, .int .i64 off] w fun e w' => e = .returned fh.val ∧ Touch (fun _ => False) w w' from fun w => by rw [← hfh]; exact front_walk hk3 vv off w)
      rw [hfh] at hst
      have Hval := Lib.hid hval
      have Hst := Lib.hid hst
      have hr0 : valR hk3 off 0 = vv := by rw [valR_is, hvv]
      have Hr0 := Lib.hid hr0
      have hsz := lt_of_block HB.out
      clear hval hst hhk hoff hfh hvv hr0
      have e1d : ∀ n, (wr.drewN n).cell? ⟨b0, o0 + k * 3 + 1, none⟩ = some (.int .i64 off) := fun n => (Touch.eq_drewN (S := fun _ => False) wr n).cell e1 id
      have d0 : ∀ n, (wr.drewN n).cell? ⟨w.heap.size, 0, none⟩ = some (.int .i64 hk3.a) := fun n => (Touch.eq_drewN (S := fun _ => False) wr n).cell HA.out.cells.1 id
      have d1 : ∀ n, (wr.drewN n).cell? ⟨w.heap.size, 1, none⟩ = some (.int .i64 hk3.b) := fun n => (Touch.eq_drewN (S := fun _ => False) wr n).cell HA.out.cells.2.1 id
      have d2 : ∀ n, (wr.drewN n).cell? ⟨w.heap.size, 2, none⟩ = some (.int .i64 hk3.c) := fun n => (Touch.eq_drewN (S := fun _ => False) wr n).cell HA.out.cells.2.2 id
      go_wp2_with fail
      go_loopw [8, 9] (fun v j wx => ∃ n m : Nat, ∃ jj : Int, n ≤ 3 ∧ jj = (n : Int) - 1 ∧ j = .int .i64 jj ∧ v = .int .i64 (valR hk3 off n) ∧ wx = wr.drewN m) (fun _ j _ => (intOf j + 1).toNat)
      case atStart => exact ⟨3, 0, 2, by omega, rfl, rfl, rfl, rfl⟩
      case round =>
        obtain ⟨n, m, jj, hn, hjj, rfl, rfl, rfl⟩ := hrel
        have hnc : n = 0 ∨ n = 1 ∨ n = 2 ∨ n = 3 := by omega
        rcases hnc with rfl | rfl | rfl | rfl
        · have hj : jj = -1 := by omega
          clear hjj
          subst hj
          rw [Hr0.out]
          have hrow0 := (Touch.eq_drewN (S := fun _ => False) wr m).row Hrow.out (fun _ _ => id)
          have hA0 := HA.out.touch (Touch.eq_drewN (S := fun _ => False) wr m) id
          have hB0 := HB.out.touch (Touch.eq_drewN (S := fun _ => False) wr m) id
          have ht0 := ht.drewN m
          have Hrow0 := Lib.hid hrow0
          have HA0 := Lib.hid hA0
          have HB0 := Lib.hid hB0
          clear hrow0 hA0 hB0 d0 d1 d2 e0 e1 e2 e1d
          go_wp2_with (refine wpList_append_mine rfl (.tmp 36) (.tmp 38) 43 43 rfl 3 i0 (.int .i64 0) 1 8 Try.underlying43 hi hz0 hz1 hz2 rfl u6 _ _ rfl (row_heap Hrow0.out rfl) _ 1 [_] rfl (src_at wr.heap.size Try.underlying43 _ rfl _ (heap_alloc_new (wr.drewN m) _)) (by unfold maxLen; omega) (by omega) ?_; intro a4 c4 w6 hown6 ht6 hf6 _)
          have t6 : Touch (fun k => u6.ownBlock = some k) (wr.drewN m) w6 := ((Touch.refl _ (wr.drewN m)).alloc _).trans ht6
          have hA6 := (HA0.out.touch t6 (fun e => by have := hown _ e; omega)).touch ((Touch.refl (fun _ => False) w6).drew) id
          have HB6 := HB0.out.touch t6 (fun e => by have := hown _ e; omega)
          have T6 := own_app ht0 (hown.mono (by omega)) t6
          have own6 := hown.fresh hf6 (Nat.le_trans (lt_of_block HB0.out) ((Touch.refl (fun _ => False) _).alloc _).size)
          have Hown6 := Lib.hid hown6
          have e1' := (rec3 W0.out T6.drew hlt).2.1
          rw [Hoff.out] at e1'
          obtain ⟨c0', c1', c2'⟩ := hA6.cells
          have HA6 := Lib.hid hA6
          clear ht6 hf6 hown6 hA6
          go_wp2_with fail
          go_region_law (go_simp; go_at_call 59; refine (Hmv.out _).mono ?_; rintro e w7 ⟨rfl, ht7⟩; have hA7 := HA6.out.touch ht7 id; obtain ⟨f0, f1, f2⟩ := hA7.cells; have g0 := hA7.free 0; have g1 := hA7.free 1; have g2 := hA7.free 2; unfold H3.val arr3)
          all_goals
            have t8 := (((Touch.refl (· = w.heap.size) w6).drew).trans (ht7.mono (fun _ _ h => h.elim))).trans (touch_put3 w7 w.heap.size fh)
            have HA8 := Lib.hid (hA7.put fh)
            have HB8 := Lib.hid (HB6.touch t8 (by omega))
            have Hrow8 := Lib.hid (t8.row Hown6.out (fun i hi e => by have := own6 i hi; omega))
            have T8 := Lib.hid (T6.then t8 (fun i hi e => by omega))
            clear hA7 f0 f1 f2 g0 g1 g2 t8 ht7
            go_wp2_with fail
            go_roundw
            case rel => exact ⟨k + 1, by omega, by go_num, by rw [Hst.out]; exact HA8.out, HB8.out, by rw [cellsZ_succ, Hval.out]; exact Hrow8.out, own6, T8.out⟩
            case measure => simp [intOf]; omega
        · have hj : jj = 0 := by omega
          clear hjj
          subst hj
          by_cases he : hk3.a = off
          · have hb : (hk3.a == off) = true := by simpa using he
            go_wp2_with fail
            go_quiet (fail)
            go_wp2_with fail
            go_roundw
            case rel => exact ⟨0, _, _, by omega, rfl, rfl, by simp only [valR]; rw [if_pos he], rfl⟩
            case measure => simp [intOf]
          · have hb : (hk3.a == off) = false := by simpa using he
            go_wp2_with fail
            go_quiet (fail)
            go_wp2_with fail
            go_roundw
            case rel => exact ⟨0, _, _, by omega, rfl, rfl, by simp only [valR]; rw [if_neg he], rfl⟩
            case measure => simp [intOf]
        · have hj : jj = 1 := by omega
          clear hjj
          subst hj
          by_cases he : hk3.b = off
          · have hb : (hk3.b == off) = true := by simpa using he
            go_wp2_with fail
            go_quiet (fail)
            go_wp2_with fail
            go_roundw
            case rel => exact ⟨1, _, _, by omega, rfl, rfl, by simp only [valR]; rw [if_pos he], rfl⟩
            case measure => simp [intOf]
          · have hb : (hk3.b == off) = false := by simpa using he
            go_wp2_with fail
            go_quiet (fail)
            go_wp2_with fail
            go_roundw
            case rel => exact ⟨1, _, _, by omega, rfl, rfl, by simp only [valR]; rw [if_neg he], rfl⟩
            case measure => simp [intOf]
        · have hj : jj = 2 := by omega
          clear hjj
          subst hj
          by_cases he : hk3.c = off
          · have hb : (hk3.c == off) = true := by simpa using he
            go_wp2_with fail
            go_quiet (fail)
            go_wp2_with fail
            go_roundw
            case rel => exact ⟨2, _, _, by omega, rfl, rfl, by simp only [valR]; rw [if_pos he], rfl⟩
            case measure => simp [intOf]
          · have hb : (hk3.c == off) = false := by simpa using he
            go_wp2_with fail
            go_quiet (fail)
            go_wp2_with fail
            go_roundw
            case rel => exact ⟨2, _, _, by omega, rfl, rfl, by simp only [valR]; rw [if_neg he], rfl⟩
            case measure => simp [intOf]
    · obtain rfl : k = l0 := by omega
      obtain ⟨hk3, hhk⟩ : ∃ hk3, histO (fun i => z0 i 1) h k = hk3 := ⟨_, rfl⟩
      rw [hhk] at HA
      have Hhk := Lib.hid hhk
      clear hhk
      obtain ⟨c0', c1', c2'⟩ := HA.out.cells
      obtain ⟨f0, f1, f2⟩ := HB.out.cells
      have g0 := HB.out.free 0
      have g1 := HB.out.free 1
      have g2 := HB.out.free 2
      go_wp2_with fail
      go_region
      all_goals
        go_wp2_with fail
        have ha := HB.out.put hk3
        have hr := (touch_put3 wr (w.heap.size + 1) hk3).row Hrow.out (fun i hi e => by have := hown i hi; omega)
        have ht' := ht.then (touch_put3 wr (w.heap.size + 1) hk3) (fun i hi e => by omega)
        refine bodyPost_ret (results_cell2 rfl _ _ _ _ _ rfl (Arr.load (h := hk3) (b := w.heap.size + 1) ha)) rfl ?_
        exact ⟨u6, by rw [Hhk.out]; rfl, hr, hown.mono (by omega), ht'.drew⟩
end Go.Proofs.Ythnhacbagmhfoaa

/- seqs: values as offsets. -/
namespace Go.Proofs.Ythnhacbagmhfoaa
open Go.RowKit Go.WideShapes
set_option linter.unusedVariables false
set_option maxRecDepth 100000

/-- A value's offset. -/
def offB (h : H3) (v : Int) : Int := if v = 0 then h.a else if v = 1 then h.b else if v = 2 then h.c else v - 2
def histB (z : Nat → Int) (h : H3) : Nat → H3
  | 0 => h
  | k + 1 => frontH (histB z h k) (max (z k) 0) (offB (histB z h k) (max (z k) 0))
def valB (z : Nat → Int) (h : H3) (k : Nat) : Int := offB (histB z h k) (max (z k) 0)
theorem off_cases (h : H3) (v : Int) (hv : 0 ≤ v) : (v = 0 ∧ h.a = offB h v) ∨ (v = 1 ∧ h.b = offB h v) ∨ (v = 2 ∧ h.c = offB h v) ∨ (3 ≤ v ∧ v - 2 = offB h v) := by
  unfold offB
  by_cases h0 : v = 0
  · exact .inl ⟨h0, by rw [if_pos h0]⟩
  by_cases h1 : v = 1
  · exact .inr (.inl ⟨h1, by rw [if_neg h0, if_pos h1]⟩)
  by_cases h2 : v = 2
  · exact .inr (.inr (.inl ⟨h2, by rw [if_neg h0, if_neg h1, if_pos h2]⟩))
  · exact .inr (.inr (.inr ⟨by omega, by rw [if_neg h0, if_neg h1, if_neg h2]⟩))

set_option maxHeartbeats 4000000 in
theorem back_walk (w : World) (a0 : Option Addr) (b0 o0 l0 c0 : Nat) (z0 : Nat → Int) (w0 : Ints .i64 w a0 b0 o0 l0 z0) (h : H3) (hl : l0 ≤ 100000) (hz : ∀ i, i < l0 → z0 i ≤ 1073741824) :
    Calls Try.prog 30 #[.slice a0 l0 c0, h.val] w fun e w' => ∃ v, e = .returned (.tuple #[v, (histB z0 h l0).val]) ∧ OutO w w' v l0 (valB z0 h) := by
  obtain ⟨i0, hi, hz0, hz1, hz2⟩ := info_parts Try.info3
  have Hz := Lib.hid hz
  have W0 := Lib.hid w0
  clear hz w0
  unfold H3.val arr3
  go_enter Try.func30, Try.ntmps30
  go_wp2_with fail
  go_loopw [6, 8, 9, 12] (fun q _ _ i wr => ∃ k : Nat, k ≤ l0 ∧ i = .int .i64 k ∧ Arr wr w.heap.size (histB z0 h k) ∧ Arr wr (w.heap.size + 1) ⟨0, 0, 0⟩ ∧ wr.ownsRow 0 3 1 q k (cellsZ .i64 (valB z0 h) k) ∧ OwnB (w.heap.size + 2) q ∧ Touch (fun _ => False) w wr) (fun _ _ _ i _ => l0 - (intOf i).toNat)
  case atStart => exact ⟨0, by omega, rfl, Arr.touch (h := h) (heap_alloc_new w _) ((Touch.refl (fun _ => False) _).alloc _) id, heap_alloc_2 _ _ _, World.ownsRow_nil _ _ _ _, OwnB.nil _, ((Touch.refl _ _).alloc _).alloc _⟩
  case round =>
    obtain ⟨k, hk, rfl, hA, hB, hrow, hown, ht⟩ := hrel
    have HA := Lib.hid hA
    have HB := Lib.hid hB
    have Hrow := Lib.hid hrow
    clear hA hB hrow
    by_cases hlt : k < l0
    · obtain rfl := W0.out.at_ (by omega)
      have e0 := ht.cell (W0.out.cell k hlt) id
      have x1 := Hz.out k hlt
      obtain ⟨hk3, hhk⟩ : ∃ hk3, histB z0 h k = hk3 := ⟨_, rfl⟩
      rw [hhk] at HA
      obtain ⟨vm, hvm⟩ : ∃ vm, max (z0 k) 0 = vm := ⟨_, rfl⟩
      have hm0 : 0 ≤ vm := by omega
      have hm1 : vm ≤ 1073741824 := by omega
      have hcase := off_cases hk3 vm hm0
      obtain ⟨off, hoff⟩ : ∃ off, offB hk3 vm = off := ⟨_, rfl⟩
      have hval : valB z0 h k = off := by unfold valB; rw [hhk, hvm, hoff]
      have hst : histB z0 h (k + 1) = frontH hk3 vm off := by simp only [histB]; rw [hhk, hvm, hoff]
      have Hmv := Lib.hid (show ∀ w, Calls Try.prog 58 #[hk3.val, .int .i64 vm, .int .i64 off] w fun e w' => e = .returned (frontH hk3 vm off).val ∧ Touch (fun _ => False) w w' from fun w => moved_walk hk3 vm off w)
      obtain ⟨fh, hfh⟩ : ∃ fh, frontH hk3 vm off = fh := ⟨_, rfl⟩
      rw [hfh] at hst Hmv
      rw [hoff] at hcase
      have Hval := Lib.hid hval
      have Hst := Lib.hid hst
      have hsz := lt_of_block HB.out
      have hmx : max (z0 k) 0 = vm := by omega
      obtain ⟨c0', c1', c2'⟩ := HA.out.cells
      clear hval hst hhk hoff hfh hvm
      rcases hcase with ⟨rfl, rfl⟩ | ⟨rfl, rfl⟩ | ⟨rfl, rfl⟩ | ⟨hm3, hoff⟩
      all_goals
        go_wp2_with fail
        refine (Hmv.out _).mono ?_
        rintro e w5 ⟨rfl, ht5⟩
        have hA5 := HA.out.touch ht5 id
        have HA8 := Lib.hid (hA5.put fh)
        have t8 := (ht5.mono (S' := (· = w.heap.size)) (fun _ _ h => h.elim)).trans (touch_put3 w5 w.heap.size fh)
        have HB8 := Lib.hid (HB.out.touch t8 (by omega))
        have Hrow8 := Lib.hid (t8.row Hrow.out (fun i hi e => by have := hown i hi; omega))
        have T8 := Lib.hid (ht.then t8 (fun i hi e => by omega))
        obtain ⟨f0, f1, f2⟩ := hA5.cells
        have g0 := hA5.free 0
        have g1 := hA5.free 1
        have g2 := hA5.free 2
        clear t8 ht5 hA5 c0' c1' c2' e0
        unfold H3.val arr3
        go_wp2_with (refine wpList_append_mine rfl (.tmp 29) (.tmp 31) 43 43 rfl 3 i0 (.int .i64 0) 1 8 Try.underlying43 hi hz0 hz1 hz2 rfl u6 _ _ rfl (row_heap Hrow8.out rfl) _ 1 [_] rfl (src_at w5.heap.size Try.underlying43 _ rfl _ (put3_new w5 w.heap.size fh _)) (by unfold maxLen; omega) (by omega) ?_; intro a4 c4 w9 hown9 ht9 hf9 _)
        have t9 : Touch (fun k => u6.ownBlock = some k) (put3 w5 w.heap.size fh) w9 := ((Touch.refl _ (put3 w5 w.heap.size fh)).alloc _).trans ht9
        have HA9 := HA8.out.touch t9 (fun e => by have := hown _ e; omega)
        have HB9 := HB8.out.touch t9 (fun e => by have := hown _ e; omega)
        have T9 := own_app T8.out (hown.mono (by omega)) t9
        have own9 := hown.fresh hf9 (Nat.le_trans (lt_of_block HB8.out) ((Touch.refl (fun _ => False) _).alloc _).size)
        go_wp2_with fail
        go_roundw
        case rel => exact ⟨k + 1, by omega, by go_num, by rw [Hst.out]; exact HA9, HB9, by rw [cellsZ_succ, Hval.out]; exact hown9, own9, T9⟩
        case measure => simp [intOf]; omega
    · obtain rfl : k = l0 := by omega
      obtain ⟨hk3, hhk⟩ : ∃ hk3, histB z0 h k = hk3 := ⟨_, rfl⟩
      rw [hhk] at HA
      have Hhk := Lib.hid hhk
      clear hhk
      obtain ⟨c0', c1', c2'⟩ := HA.out.cells
      obtain ⟨f0, f1, f2⟩ := HB.out.cells
      have g0 := HB.out.free 0
      have g1 := HB.out.free 1
      have g2 := HB.out.free 2
      go_wp2_with fail
      go_region
      all_goals
        go_wp2_with fail
        have ha := HB.out.put hk3
        have hr := (touch_put3 wr (w.heap.size + 1) hk3).row Hrow.out (fun i hi e => by have := hown i hi; omega)
        have ht' := ht.then (touch_put3 wr (w.heap.size + 1) hk3) (fun i hi e => by omega)
        refine bodyPost_ret (results_cell2 rfl _ _ _ _ _ rfl (Arr.load (h := hk3) (b := w.heap.size + 1) ha)) rfl ?_
        exact ⟨u6, by rw [Hhk.out]; rfl, hr, hown.mono (by omega), ht'.drew⟩

set_option maxHeartbeats 4000000 in
theorem ref_back (w : World) (a0 : Option Addr) (b0 o0 l0 c0 : Nat) (z0 : Nat → Int) (w0 : Ints .i64 w a0 b0 o0 l0 z0) (h : H3) (hl : l0 ≤ 100000) (hz : ∀ i, i < l0 → z0 i ≤ 1073741824) :
    Calls Try.prog 31 #[.slice a0 l0 c0, h.val] w fun e w' => ∃ v, e = .returned (.tuple #[v, (histB z0 h l0).val]) ∧ OutO w w' v l0 (valB z0 h) := by
  obtain ⟨i0, hi, hz0, hz1, hz2⟩ := info_parts Try.info3
  have Hz := Lib.hid hz
  have W0 := Lib.hid w0
  clear hz w0
  unfold H3.val arr3
  go_enter Try.func31, Try.ntmps31
  go_wp2_with fail
  go_loopw [6, 7, 8, 9] (fun q i _ _ wr => ∃ k : Nat, k ≤ l0 ∧ i = .int .i64 k ∧ Arr wr w.heap.size (histB z0 h k) ∧ Arr wr (w.heap.size + 1) ⟨0, 0, 0⟩ ∧ wr.ownsRow 0 3 1 q k (cellsZ .i64 (valB z0 h) k) ∧ OwnB (w.heap.size + 2) q ∧ Touch (fun _ => False) w wr) (fun _ i _ _ _ => l0 - (intOf i).toNat)
  case atStart => exact ⟨0, by omega, rfl, Arr.touch (h := h) (heap_alloc_new w _) ((Touch.refl (fun _ => False) _).alloc _) id, heap_alloc_2 _ _ _, World.ownsRow_nil _ _ _ _, OwnB.nil _, ((Touch.refl _ _).alloc _).alloc _⟩
  case round =>
    obtain ⟨k, hk, rfl, hA, hB, hrow, hown, ht⟩ := hrel
    have HA := Lib.hid hA
    have HB := Lib.hid hB
    have Hrow := Lib.hid hrow
    clear hA hB hrow
    by_cases hlt : k < l0
    · obtain rfl := W0.out.at_ (by omega)
      have e0 := ht.cell (W0.out.cell k hlt) id
      have x1 := Hz.out k hlt
      obtain ⟨hk3, hhk⟩ : ∃ hk3, histB z0 h k = hk3 := ⟨_, rfl⟩
      rw [hhk] at HA
      obtain ⟨vm, hvm⟩ : ∃ vm, max (z0 k) 0 = vm := ⟨_, rfl⟩
      have hm0 : 0 ≤ vm := by omega
      have hm1 : vm ≤ 1073741824 := by omega
      have hcase := off_cases hk3 vm hm0
      obtain ⟨off, hoff⟩ : ∃ off, offB hk3 vm = off := ⟨_, rfl⟩
      have hval : valB z0 h k = off := by unfold valB; rw [hhk, hvm, hoff]
      have hst : histB z0 h (k + 1) = frontH hk3 vm off := by simp only [histB]; rw [hhk, hvm, hoff]
      have Hmv := Lib.hid (show ∀ w, Calls Try.prog 59 #[hk3.val, .int .i64 vm, .int .i64 off] w fun e w' => e = .returned (frontH hk3 vm off).val ∧ Touch (fun _ => False) w w' from fun w => front_walk hk3 vm off w)
      obtain ⟨fh, hfh⟩ : ∃ fh, frontH hk3 vm off = fh := ⟨_, rfl⟩
      rw [hfh] at hst Hmv
      rw [hoff] at hcase
      have Hval := Lib.hid hval
      have Hst := Lib.hid hst
      have hsz := lt_of_block HB.out
      have hmx : max 0 (z0 k) = vm := by omega
      obtain ⟨c0', c1', c2'⟩ := HA.out.cells
      clear hval hst hhk hoff hfh hvm
      rcases hcase with ⟨rfl, rfl⟩ | ⟨rfl, rfl⟩ | ⟨rfl, rfl⟩ | ⟨hm3, hoff⟩
      all_goals
        go_wp2_with (refine wpList_append_mine rfl (.tmp 28) (.tmp 30) 43 43 rfl 3 i0 (.int .i64 0) 1 8 Try.underlying43 hi hz0 hz1 hz2 rfl u6 _ _ rfl (row_heap Hrow.out rfl) _ 1 [_] rfl (src_at wr.heap.size Try.underlying43 _ rfl _ (heap_alloc_new wr _)) (by unfold maxLen; omega) (by omega) ?_; intro a4 c4 w6 hown6 ht6 hf6 _; obtain ⟨c0'', c1'', c2''⟩ := (HA.out.touch (((Touch.refl (fun k => u6.ownBlock = some k) wr).alloc _).trans ht6) (fun e => by have := hown _ e; omega)).cells)
        have t6 : Touch (fun k => u6.ownBlock = some k) wr w6 := ((Touch.refl _ wr).alloc _).trans ht6
        have HA6 := HA.out.touch t6 (fun e => by have := hown _ e; omega)
        have HB6 := HB.out.touch t6 (fun e => by have := hown _ e; omega)
        have T6 := own_app ht (hown.mono (by omega)) t6
        have own6 := hown.fresh hf6 (Nat.le_trans (lt_of_block HB.out) ((Touch.refl (fun _ => False) _).alloc _).size)
        have Hown6 := Lib.hid hown6
        clear ht6 hf6 hown6
        refine (Hmv.out _).mono ?_
        rintro e w7 ⟨rfl, ht7⟩
        have hA7 := HA6.touch ht7 id
        have t8 := (ht7.mono (S' := (· = w.heap.size)) (fun _ _ h => h.elim)).trans (touch_put3 w7 w.heap.size fh)
        have HA8 := Lib.hid (hA7.put fh)
        have HB8 := Lib.hid (HB6.touch t8 (by omega))
        have Hrow8 := Lib.hid (t8.row Hown6.out (fun i hi e => by have := own6 i hi; omega))
        have T8 := Lib.hid (T6.then t8 (fun i hi e => by omega))
        obtain ⟨f0, f1, f2⟩ := hA7.cells
        have g0 := hA7.free 0
        have g1 := hA7.free 1
        have g2 := hA7.free 2
        clear t8 ht7 hA7 c0' c1' c2' c0'' c1'' c2'' e0 t6
        unfold H3.val arr3
        go_wp2_with fail
        go_roundw
        case rel => exact ⟨k + 1, by omega, by go_num, by rw [Hst.out]; exact HA8.out, HB8.out, by rw [cellsZ_succ, Hval.out]; exact Hrow8.out, own6, T8.out⟩
        case measure => simp [intOf]; omega
    · obtain rfl : k = l0 := by omega
      obtain ⟨hk3, hhk⟩ : ∃ hk3, histB z0 h k = hk3 := ⟨_, rfl⟩
      rw [hhk] at HA
      have Hhk := Lib.hid hhk
      clear hhk
      obtain ⟨c0', c1', c2'⟩ := HA.out.cells
      obtain ⟨f0, f1, f2⟩ := HB.out.cells
      have g0 := HB.out.free 0
      have g1 := HB.out.free 1
      have g2 := HB.out.free 2
      go_wp2_with fail
      go_region
      all_goals
        go_wp2_with fail
        have ha := HB.out.put hk3
        have hr := (touch_put3 wr (w.heap.size + 1) hk3).row Hrow.out (fun i hi e => by have := hown i hi; omega)
        have ht' := ht.then (touch_put3 wr (w.heap.size + 1) hk3) (fun i hi e => by omega)
        refine bodyPost_ret (results_cell2 rfl _ _ _ _ _ rfl (Arr.load (h := hk3) (b := w.heap.size + 1) ha)) rfl ?_
        exact ⟨u6, by rw [Hhk.out]; rfl, hr, hown.mono (by omega), ht'.drew⟩
end Go.Proofs.Ythnhacbagmhfoaa

/- seqs: bytes with their size ahead. -/
namespace Go.Proofs.Ythnhacbagmhfoaa
open Go.RowKit Go.WideShapes Fs
set_option linter.unusedVariables false
set_option linter.unusedSimpArgs false
set_option maxRecDepth 100000

/-- Bytes of a list, as cells; a row of one's own that holds them; a slice that holds them. -/
def u8L (l : List Nat) : List Value := l.map fun (x : Nat) => Value.int .u8 (x : Int)
theorem u8L_len (l : List Nat) : (u8L l).length = l.length := by simp [u8L]
theorem u8L_app (l m : List Nat) : u8L (l ++ m) = u8L l ++ u8L m := by simp [u8L]
def RowU (w : World) (v : Value) (l : List Nat) : Prop := w.ownsRow 0 5 1 v l.length (u8L l)
def BytesAt (w : World) (a : Option Addr) (b off : Nat) (l : List Nat) : Prop := Ints .u8 w a b off l.length (fun i => ((l.getD i 0 : Nat) : Int))
theorem u8L_cells (l : List Nat) : cellsZ .u8 (fun i => ((l.getD i 0 : Nat) : Int)) l.length = u8L l := by
  apply List.ext_getElem?
  intro i
  by_cases h : i < l.length
  · rw [cellsZ_get h]; simp [u8L, h]
  · rw [List.getElem?_eq_none (by rw [cellsZ_length]; omega), List.getElem?_eq_none (by simp [u8L]; omega)]
theorem RowU.touch {w w' : World} {v : Value} {l : List Nat} (h : RowU w v l) (ht : Touch (fun _ => False) w w') : RowU w' v l := ht.row h (fun _ _ => id)
theorem RowU.bytes {w : World} {v : Value} {l : List Nat} (h : RowU w v l) : ∃ a b c, v = .slice a l.length c ∧ BytesAt w a b 0 l := by
  unfold RowU at h
  rw [← u8L_cells] at h
  exact ints_row h
theorem BytesAt.src {w : World} {a : Option Addr} {b off : Nat} {l : List Nat} (h : BytesAt w a b off l) (c : Nat) : Src Try.prog 1 28 (.slice a l.length c) l.length (u8L l) w := by
  have := src_ints (P := Try.prog) c Try.underlying28 h
  rwa [u8L_cells] at this
theorem row_two (w : World) (x y : Value) : (w.alloc (.cells #[x, y] 5)).ownsRow 0 5 1 (.slice (some ⟨w.heap.size, 0, none⟩) 2 2) 2 [x, y] :=
  row_of_tab (m := 2) (F := fun i => if i = 0 then x else y) (heap_alloc_new w _) (by unfold maxLen; omega)
theorem OwnB.here' (w : World) (n c : Nat) : OwnB w.heap.size (.slice (some ⟨w.heap.size, 0, none⟩) n c) := fun k hk => by simp [Value.ownBlock] at hk; omega
theorem Try.info5c : (Try.prog.info? 5).map (fun i => (i.zero, i.size, i.bytes)) = some (some (.int .u8 0), 1, 1) := by kernel_rfl
/-- A number in two bytes. -/
def two2 (n : Nat) : List Nat := [n % 256, n / 256 % 256]
theorem u8_wrap (n : Nat) : IntKind.u8.wrap (n : Int) = ((n % 256 : Nat) : Int) := by rw [IntKind.wrap_u8]; omega
theorem max_len {n : Nat} (h : n ≤ 1000000) : n ≤ maxLen ∧ n * 1 ≤ 140737488355328 := by unfold maxLen; omega

theorem sized_walk (a : Option Addr) (b off c : Nat) (l : List Nat) (w : World) (h : BytesAt w a b off l) (hl : l.length ≤ 60000) :
    Calls Try.prog 44 #[.slice a l.length c] w fun e w' => ∃ v, e = .returned v ∧ RowU w' v (two2 l.length ++ l) ∧ OwnB w.heap.size v ∧ Touch (fun _ => False) w w' := by
  obtain ⟨n, hn⟩ : ∃ n, l.length = n := ⟨_, rfl⟩
  have hs := fun w (h : BytesAt w a b off l) => h.src c
  rw [hn] at hl hs ⊢
  have HS := Lib.hid hs
  have H := Lib.hid h
  have HN := Lib.hid hn
  obtain ⟨i0, hi, hz0, hz1, hz2⟩ := info_parts Try.info5c
  have f1 : IntKind.u8.wrap (n : Int) = ((n % 256 : Nat) : Int) := u8_wrap n
  have f2 : IntKind.u8.wrap ((n : Int) / 256) = ((n / 256 % 256 : Nat) : Int) := by rw [← u8_wrap]; congr 1
  obtain ⟨x, hx⟩ : ∃ x, n % 256 = x := ⟨_, rfl⟩
  obtain ⟨y, hy⟩ : ∃ x, n / 256 % 256 = x := ⟨_, rfl⟩
  rw [hx] at f1
  rw [hy] at f2
  have HX := Lib.hid hx
  have HY := Lib.hid hy
  have HM := Lib.hid (max_len (n := 2 + n) (by omega))
  clear h hn hs hx hy hl
  go_enter Try.func44, Try.ntmps44
  go_wp2_with (refine wpList_append_mine rfl (.tmp 10) (.tmp 11) 28 28 rfl 5 i0 (.int .u8 0) 1 1 Try.underlying28 hi hz0 hz1 hz2 rfl (.slice (some ⟨w.heap.size, 0, none⟩) 2 2) 2 [.int .u8 x, .int .u8 y] rfl (row_two w _ _) (.slice a n c) n (u8L l) rfl (HS.out _ (H.out.touch (Touch.new w _))) HM.out.1 HM.out.2 ?_; intro a5 c5 w2 hown ht hf _)
  go_ret
  refine ⟨_, rfl, ?_, (OwnB.here' w 2 2).fresh hf (Nat.le_of_lt (by simp)), own_app (Touch.new w _) (OwnB.here' w 2 2) ht⟩
  have hl2 : (two2 n ++ l).length = 2 + n := by simp [two2, HN.out]; omega
  have hu : u8L (two2 n ++ l) = [Value.int .u8 (x : Int), .int .u8 (y : Int)] ++ u8L l := by rw [u8L_app, ← HX.out, ← HY.out]; rfl
  unfold RowU
  rw [hl2, hu]
  exact hown

theorem two_walk (n : Nat) (hn : n ≤ 60000) (w : World) : Calls Try.prog 49 #[.int .i64 n] w fun e w' => e = .returned (.slice (some ⟨w.heap.size, 0, none⟩) 2 2) ∧ RowU w' (.slice (some ⟨w.heap.size, 0, none⟩) 2 2) (two2 n) ∧ Touch (fun _ => False) w w' := by
  have f1 : IntKind.u8.wrap (n : Int) = ((n % 256 : Nat) : Int) := u8_wrap n
  have f2 : IntKind.u8.wrap ((n : Int) / 256) = ((n / 256 % 256 : Nat) : Int) := by rw [← u8_wrap]; congr 1
  obtain ⟨x, hx⟩ : ∃ x, n % 256 = x := ⟨_, rfl⟩
  obtain ⟨y, hy⟩ : ∃ x, n / 256 % 256 = x := ⟨_, rfl⟩
  rw [hx] at f1
  rw [hy] at f2
  have HX := Lib.hid hx
  have HY := Lib.hid hy
  clear hx hy
  go_enter Try.func49, Try.ntmps49
  go_wp2_with fail
  go_ret
  refine ⟨rfl, ?_, Touch.new w _⟩
  have h := row_two w (.int .u8 (x : Int)) (.int .u8 (y : Int))
  unfold RowU two2
  rw [HX.out, HY.out]
  exact h
end Go.Proofs.Ythnhacbagmhfoaa

/- seqs: a row of numbers' codes. -/
namespace Go.Proofs.Ythnhacbagmhfoaa
open Go.RowKit Go.WideShapes Fs
set_option linter.unusedVariables false
set_option linter.unusedSimpArgs false
set_option maxRecDepth 100000

/-- Numbers' codes; what measures them; their states' digits. -/
def codeI (v : Nat → Nat) (i : Nat) : Int := (codeC (v i) : Nat)
def rowZ (v : Nat → Nat) (n : Nat) : Nat → Int := normZ (cntZ (codeI v) n) 16 6
def rowE (v : Nat → Nat) (n : Nat) : Option (Nat × List Bool) := encF (2 ^ 6) (symU (natM (rowZ v n)) 16 6) (fun u => bitsU 6 (xU (natM (rowZ v n)) (symU (natM (rowZ v n)) 16 6) u)) (fun u => baseU 6 (xU (natM (rowZ v n)) (symU (natM (rowZ v n)) 16 6) u)) (backL (codeI v) n n)
def rowD (v : Nat → Nat) (n : Nat) : List Bool := match rowE v n with | some (t, l) => putL (t : Int) ((6 : Nat) : Int) l | none => []
/-- The bytes of digits. -/
def bytesL (l : List Bool) : List Nat := (List.range (l.length / 8 + 1)).map (byteAt (l ++ [true]))
theorem bytesL_len (l : List Bool) : (bytesL l).length = l.length / 8 + 1 := by simp [bytesL]
def rowN (v : Nat → Nat) (n : Nat) : List Nat := (List.range 16).map fun i => (rowZ v n i).toNat
def rowB (v : Nat → Nat) (n : Nat) : List Nat := rowN v n ++ (two2 (bytesL (rowD v n)).length ++ bytesL (rowD v n))
theorem codeC_lt {v : Nat} (h : v < 32768) : codeC v < 16 := by
  unfold codeC
  split
  · omega
  · have := log2_lt (v := v) (k := 15) h (by omega); omega
theorem row_ok {v : Nat → Nat} {n : Nat} (hn : 0 < n) (hn5 : n ≤ 500) (hv : ∀ i, i < n → v i < 32768) : normOk (cntZ (codeI v) n) 16 ((6 : Nat) : Int) = true :=
  cnt_ok (by omega) (by omega) hn hn5 (by omega) (fun i hi => by have := codeC_lt (hv i hi); unfold codeI; omega)
theorem row_enc {v : Nat → Nat} {n : Nat} (hn : 0 < n) (hn5 : n ≤ 500) (hv : ∀ i, i < n → v i < 32768) : ∃ t l, rowE v n = some (t, l) ∧ t < 2 ^ 6 ∧ l.length ≤ 9 * n ∧
    decF (symU (natM (rowZ v n)) 16 6) (fun u => bitsU 6 (xU (natM (rowZ v n)) (symU (natM (rowZ v n)) 16 6) u)) (fun u => baseU 6 (xU (natM (rowZ v n)) (symU (natM (rowZ v n)) 16 6) u)) 6 n (putL (t : Int) ((6 : Nat) : Int) l) = some ((backL (codeI v) n n).reverse.map Int.toNat) :=
  back_all (row_ok hn hn5 hv) (fun i hi => ⟨codeC (v i), rfl, codeC_lt (hv i hi), cntZ_pos _ _ n i hi rfl⟩)
theorem row_bd {v : Nat → Nat} {n : Nat} (hn : 0 < n) (hn5 : n ≤ 500) (hv : ∀ i, i < n → v i < 32768) (i : Nat) (hi : i < 16) : 0 ≤ rowZ v n i ∧ rowZ v n i ≤ 64 := by
  have hiso := (norm_spec _ _ _ (row_ok hn hn5 hv)).2.2.2
  obtain ⟨_, _, _, _, hzm, _⟩ := isOk_nat hiso
  have := hzm i hi
  unfold rowZ
  omega
theorem rowD_len {v : Nat → Nat} {n : Nat} (hn : 0 < n) (hn5 : n ≤ 500) (hv : ∀ i, i < n → v i < 32768) : (rowD v n).length ≤ 4600 := by
  obtain ⟨t, l, he, ht, hl, _⟩ := row_enc hn hn5 hv
  unfold rowD
  rw [he]
  show (putL (t : Int) ((6 : Nat) : Int) l).length ≤ 4600
  rw [bytes_len (L := 6) ht (by omega)]; omega
theorem make16 (w : World) : (Instr.makeSlice 43 (.int .i64 16) (.int .i64 16)).run Try.prog w = .ok (.slice (some ⟨w.heap.size, 0, none⟩) 16 16) (w.alloc (.cells (tabI 16 (fun _ => 0)) 3)) := by
  have := make_ints 16 (by omega) w
  simpa using this
theorem app_500 {k nn : Nat} (hk : k < nn) (hnn : nn ≤ 500) : k + 1 ≤ maxLen ∧ (k + 1) * 8 ≤ 140737488355328 := by unfold maxLen; omega
theorem k_500 {k nn : Nat} (hk : k < nn) (hnn : nn ≤ 500) : k ≤ 100000 := by omega
theorem cnt_500 {y : Nat → Int} {k s nn : Nat} (hk : k < nn) (hnn : nn ≤ 500) : (cntZ y k s).toNat ≤ 100000 := by
  have := cntZ_bd y s k; omega
/-- Encode's bytes. -/
theorem enc_bytes {w : World} {g : Nat} {l : List Bool} (h : w.heap[g]? = some (.cells (tab (l.length / 8 + 1) (bytesF l)) 5 (0, 0))) : BytesAt w (some ⟨g, 0, none⟩) g 0 (bytesL l) := by
  refine ⟨fun _ => rfl, fun i hi => ?_⟩
  rw [bytesL_len] at hi
  rw [Nat.zero_add, tab_cell h hi]
  simp [bytesL, bytesF, hi]
/-- One more appended, and counted. -/
theorem count_after {w w1 w6 : World} {G k q : Nat} {y : Nat → Int} {vo : Value} {F : Nat → Value} {m : Nat} {a6 : Option Addr} {c6 : Nat} (hG : w.heap.size ≤ G) (hG1 : G < w1.heap.size) (hrow : w1.ownsRow 0 3 1 vo k (cellsZ .i64 y k)) (hown : OwnB (G + 1) vo) (hc : RowAt w1 G 3 m F) (t1 : Touch (fun _ => False) w w1) (hq : y k = q)
    (hown6 : w6.ownsRow 0 3 1 (.slice a6 (k + 1) c6) (k + 1) (cellsZ .i64 y k ++ [.int .i64 q])) (ht6 : Touch (fun k => vo.ownBlock = some k) (w1.alloc (.cells #[.int .i64 q] 3)) w6) (hf6 : Fresh (w1.alloc (.cells #[.int .i64 q] 3)).heap.size vo (.slice a6 (k + 1) c6)) :
    RowAt w6 G 3 m F ∧ w6.ownsRow 0 3 1 (.slice a6 (k + 1) c6) (k + 1) (cellsZ .i64 y (k + 1)) ∧ OwnB (G + 1) (.slice a6 (k + 1) c6) ∧ Touch (fun _ => False) w w6 ∧ G < w6.heap.size := by
  have tn := Touch.new w1 (.cells #[.int .i64 q] 3)
  have o6 := hown.fresh hf6 (Nat.le_trans hG1 tn.size)
  have r6 : RowAt w6 G 3 m F := RowAt.touch (RowAt.touch hc tn id) ht6 (fun e => by have := hown G e; omega)
  refine ⟨r6, ?_, o6, own_app (t1.trans tn) (hown.mono (by omega)) ht6, RowAt.lt r6⟩
  rw [cellsZ_succ, hq]; exact hown6
/-- A number more in the counts leaves a row of one's own. -/
theorem row_keep {w : World} {G k s : Nat} {y : Nat → Int} {vo : Value} {u : Value} (hrow : w.ownsRow 0 3 1 vo k (cellsZ .i64 y k)) (hown : OwnB (G + 1) vo) : (w.setCell ⟨G, s, none⟩ u).ownsRow 0 3 1 vo k (cellsZ .i64 y k) :=
  ((Touch.refl (· = G) w).setCell (p := ⟨G, s, none⟩) (fun _ => rfl) u).row hrow (fun k hk e => by subst e; have := hown k hk; omega)
end Go.Proofs.Ythnhacbagmhfoaa

/- seqs: row. -/
namespace Go.Proofs.Ythnhacbagmhfoaa
open Go.RowKit Go.WideShapes Fs
set_option linter.unusedVariables false
set_option linter.unusedSimpArgs false
set_option maxRecDepth 100000

theorem rowN_cells (v : Nat → Nat) (n : Nat) (h : ∀ i, i < 16 → 0 ≤ rowZ v n i) : cellsZ .u8 (rowZ v n) 16 = u8L (rowN v n) := by
  simp only [cellsZ, u8L, rowN, List.map_map]
  refine List.map_congr_left fun i hi => ?_
  have := h i (List.mem_range.1 hi)
  simp only [Function.comp]
  rw [Int.toNat_of_nonneg this]
theorem ints_lt {k : IntKind} {w : World} {a : Option Addr} {b off n : Nat} {z : Nat → Int} (h : Ints k w a b off n z) (hn : 0 < n) : b < w.heap.size := by
  have := h.cell 0 hn
  exact World.block_lt_of_cell? w _ this
theorem app_16 {j : Nat} (h : j < 16) : j + 1 ≤ maxLen ∧ (j + 1) * 1 ≤ 140737488355328 := by unfold maxLen; omega
theorem row_len {v : Nat → Nat} {n : Nat} : (rowN v n).length = 16 := by simp [rowN]

set_option maxHeartbeats 4000000 in
theorem row_walk (a : Option Addr) (b off n c : Nat) (v : Nat → Nat) (w : World) (h : Ints .i64 w a b off n (fun i => (v i : Int))) (hn : 0 < n) (hn5 : n ≤ 500) (hv : ∀ i, i < n → v i < 32768) :
    Calls Try.prog 39 #[.slice a n c] w fun e w' => ∃ r, e = .returned r ∧ RowU w' r (rowB v n) ∧ OwnB w.heap.size r ∧ Touch (fun _ => False) w w' := by
  have hat := h.at_ hn
  subst hat
  have hok := row_ok hn hn5 hv
  have hiso := (norm_spec _ _ _ hok).2.2.2
  obtain ⟨t, l, he, ht2, hl9, _⟩ := row_enc hn hn5 hv
  have hD : rowD v n = putL (t : Int) ((6 : Nat) : Int) l := by unfold rowD; rw [he]
  have hDl := rowD_len hn hn5 hv
  have hbd := row_bd hn hn5 hv
  have hnc := rowN_cells v n (fun i hi => (hbd i hi).1)
  have henc := fun w b a2 b2 c2 h h2 h3 => enc_yes (some ⟨b, 0, none⟩) a2 b 0 16 16 6 b2 0 n c2 (normZ (cntZ (codeI v) n) 16 6) (codeI v) w h h2 h3 (by omega) hiso
  have hnorm := fun w b h => norm_yes (some ⟨b, 0, none⟩) b 0 16 16 6 (cntZ (codeI v) n) w h hok
  obtain ⟨zn, hzn⟩ : ∃ zn, normZ (cntZ (codeI v) n) 16 6 = zn := ⟨_, rfl⟩
  have hzr : rowZ v n = zn := hzn
  have he3 : encF (2 ^ 6) (symU (natM zn) 16 6) (fun u => bitsU 6 (xU (natM zn) (symU (natM zn) 16 6) u)) (fun u => baseU 6 (xU (natM zn) (symU (natM zn) 16 6) u)) (backL (codeI v) n n) = some (t, l) := by rw [← hzr]; exact he
  rw [hzn] at henc hnorm
  rw [he3] at henc
  rw [hzr] at hbd hnc
  have hB : rowB v n = rowN v n ++ (two2 (bytesL (putL (t : Int) ((6 : Nat) : Int) l)).length ++ bytesL (putL (t : Int) ((6 : Nat) : Int) l)) := by unfold rowB; rw [hD]
  obtain ⟨l3, hl3⟩ : ∃ l3, putL (t : Int) ((6 : Nat) : Int) l = l3 := ⟨_, rfl⟩
  rw [hl3] at hB hD
  rw [hD] at hDl
  have hbl : (bytesL l3).length ≤ 60000 := by rw [bytesL_len]; omega
  obtain ⟨RB, hRB⟩ : ∃ x, rowB v n = x := ⟨_, rfl⟩
  rw [hRB] at hB ⊢
  have HB := Lib.hid hB
  have HBL := Lib.hid hbl
  have HENC := Lib.hid henc
  have HNORM := Lib.hid hnorm
  have HL3 := Lib.hid hl3
  have HBD := Lib.hid hbd
  have HNC := Lib.hid hnc
  have H := Lib.hid h
  have HV := Lib.hid hv
  have HN5 := Lib.hid hn5
  have HN0 := Lib.hid hn
  obtain ⟨i0, hi, hz0, hz1, hz2⟩ := info_parts Try.info3
  obtain ⟨j0, hj, hj0, hj1, hj2⟩ := info_parts Try.info5c
  have hmk := fun w => make16 w
  have TT := Lib.hid (Touch.new w (.cells (tabI 16 (fun _ => 0)) 3))
  have HR0 := Lib.hid (tab_rowAt (heap_alloc_new w (.cells (tabI 16 (fun _ => 0)) 3)))
  have hGs : w.heap.size < (w.alloc (.cells (tabI 16 (fun _ => 0)) 3)).heap.size := by simp
  clear hok hiso he ht2 hl9 hD hDl hbd hnc henc hnorm hzn hzr he3 hB hl3 hbl hRB h hv hn5 hn
  go_enter Try.func39, Try.ntmps39
  go_wp2_with fail
  obtain ⟨wa, hwa⟩ : ∃ wa, w.alloc (.cells (tabI 16 (fun _ => 0)) 3) = wa := ⟨_, rfl⟩
  rw [hwa] at HR0 TT hGs ⊢
  obtain ⟨G, hG⟩ : ∃ G, w.heap.size = G := ⟨_, rfl⟩
  rw [hG] at HR0 hGs ⊢
  have hGw : w.heap.size ≤ G := by omega
  have HGW := Lib.hid hGw
  have HGS := Lib.hid hGs
  clear hG hwa hmk hGw hGs
  go_loopw [4, 20] (fun out_ i wr => ∃ (k : Nat) (vo : Value), k ≤ n ∧ i = .int .i64 k ∧ out_ = vo ∧ wr.ownsRow 0 3 1 vo k (cellsZ .i64 (codeI v) k) ∧ OwnB (G + 1) vo ∧ RowAt wr G 3 16 (fun j => .int .i64 (cntZ (codeI v) k j)) ∧ G < wr.heap.size ∧ Touch (fun _ => False) w wr) (fun _ i _ => n - (intOf i).toNat)
  case atStart => exact ⟨0, _, by omega, rfl, rfl, World.ownsRow_nil _ _ _ _, OwnB.nil _, HR0.out, HGS.out, TT.out⟩
  case round =>
    obtain ⟨k, vo, hk, rfl, rfl, hrow, hown, hcnt, hGr, ht⟩ := hrel
    have HRow := Lib.hid hrow
    have HCnt := Lib.hid hcnt
    have HGR := Lib.hid hGr
    have HTo := Lib.hid ht
    clear hrow hcnt HR0 TT hGr ht
    by_cases hlt : k < n
    · have e1 := HTo.out.cell (H.out.cell k hlt) id
      have hv15 := HV.out k hlt
      obtain ⟨x, hx⟩ : ∃ x, v k = x := ⟨_, rfl⟩
      simp only [hx] at e1
      rw [hx] at hv15
      obtain ⟨q, hq⟩ : ∃ q, codeC x = q := ⟨_, rfl⟩
      have hq16 : q < 16 := by rw [← hq]; exact codeC_lt hv15
      have hyk : codeI v k = (q : Nat) := by unfold codeI; rw [hx, hq]
      have hcode := fun w => code_walk x (Nat.lt_of_lt_of_le hv15 (by decide)) w
      unfold codeT at hcode
      rw [hq] at hcode
      have c1 := fun m => RowAt.get (RowAt.drewNI HCnt.out m) hq16
      have fr1 := fun m => RowAt.free (RowAt.drewNI HCnt.out m) q
      have hcs := cnt_500 (y := codeI v) (s := q) hlt HN5.out
      have hcb := (cntZ_bd (codeI v) q k).1
      obtain ⟨cc, hcc⟩ : ∃ c : Nat, cntZ (codeI v) k q = c := ⟨(cntZ (codeI v) k q).toNat, by omega⟩
      rw [hcc] at hcs
      simp only [hcc] at c1
      have fc := wrap_suc cc hcs
      have HS2 := Lib.hid (show ∀ i, i < 16 → (if i = q then Value.int .i64 ((cc : Int) + 1) else .int .i64 (cntZ (codeI v) k i)) = .int .i64 (cntZ (codeI v) (k + 1) i) from fun i hi => by
        simp only [cntZ]
        rw [hyk]
        by_cases e : i = q
        · subst e; rw [if_pos rfl, if_pos rfl, hcc]
        · rw [if_neg e, if_neg (by omega)])
      have HAP := Lib.hid (app_500 hlt HN5.out)
      have HYK := Lib.hid hyk
      have HM := Lib.hid (meas_u hlt)
      have HCODE := Lib.hid hcode
      have HLT := Lib.hid hlt
      have fu1 := wrap_suc k (k_500 hlt HN5.out)
      have hq0 : (0 : Int) ≤ q := Int.natCast_nonneg _
      clear hx hq hyk hcode hcb hcc hcs hv15
      go_wp2_with fail
      refine (HCODE.out _).mono ?_
      rintro e w2 ⟨rfl, m, rfl⟩
      have HW2 := Lib.hid (row_keep (s := q) (u := .int .i64 ((cc : Int) + 1)) ((Touch.eq_drewN (S := fun _ => False) wr m).row HRow.out (fun _ _ => id)) hown)
      have HC2 := Lib.hid ((RowAt.set (RowAt.drewNI HCnt.out m) q (.int .i64 ((cc : Int) + 1))).congr (G := fun j => .int .i64 (cntZ (codeI v) (k + 1) j)) HS2.out)
      have HT2 := Lib.hid ((HTo.out.drewN m).setCell (p := ⟨G, q, none⟩) (fun h => absurd h (Nat.not_lt.2 HGW.out)) (.int .i64 ((cc : Int) + 1)))
      have cm := c1 m
      have fm := fr1 m
      have HHN := Lib.hid (show (((wr.drewN m).setCell ⟨G, q, none⟩ (.int .i64 ((cc : Int) + 1))).alloc (.cells #[.int .i64 q] 3)).heap[wr.heap.size]? = some (.cells #[.int .i64 q] 3 (0, 0)) from by
        have h := heap_alloc_new ((wr.drewN m).setCell ⟨G, q, none⟩ (.int .i64 ((cc : Int) + 1))) (.cells #[.int .i64 q] 3)
        have e : ((wr.drewN m).setCell ⟨G, q, none⟩ (.int .i64 ((cc : Int) + 1))).heap.size = wr.heap.size := by simp [World.setCell, World.drewN]
        rwa [e] at h)
      clear c1 fr1
      go_wp2_with (refine wpList_append_mine rfl (.tmp 36) (.tmp 38) 43 43 rfl 3 i0 (.int .i64 0) 1 8 Try.underlying43 hi hz0 hz1 hz2 rfl u4 _ _ rfl ((Touch.new _ (.cells #[.int .i64 q] 3)).row HW2.out (fun _ _ => id)) (.slice (some ⟨wr.heap.size, 0, none⟩) 1 1) 1 [.int .i64 q] rfl (src_at wr.heap.size Try.underlying43 _ rfl _ HHN.out) HAP.out.1 HAP.out.2 ?_; intro a6 c6 w6 hown6 ht6 hf6 _)
      have HA := Lib.hid (count_after HGW.out (RowAt.lt HC2.out) HW2.out hown HC2.out HT2.out HYK.out hown6 ht6 hf6)
      clear hown6 ht6 hf6
      go_roundw
      case rel =>
        obtain ⟨r1, r2, r3, r4, r5⟩ := HA.out
        exact ⟨k + 1, _, HLT.out, by first | rfl | (rw [fu1]; go_num) | go_num, rfl, r2, r3, r1, r5, r4⟩
      case measure => first | exact HM.out | (rw [fu1]; exact HM.out)
    · obtain rfl : k = n := Nat.le_antisymm hk (Nat.not_lt.1 hlt)
      clear hlt hk
      go_wp2_with fail
      refine (HNORM.out _ _ (RowAt.ints HCnt.out)).mono ?_
      rintro e w3 ⟨rfl, hh3, t3⟩
      have T3 := Lib.hid (HTo.out.trans t3)
      have HH3 := Lib.hid hh3
      have HRow3 := Lib.hid (t3.row HRow.out (fun _ _ => id))
      have HOw3 := Lib.hid hown
      obtain ⟨G3, hG3⟩ : ∃ g, wr.heap.size = g := ⟨_, rfl⟩
      rw [hG3] at HH3 ⊢
      clear t3 hh3 hG3 hown
      go_wp2_with fail
      go_loopw [12, 48] (fun out_ i w4 => ∃ (j : Nat) (vo : Value), j ≤ 16 ∧ i = .int .i64 j ∧ out_ = vo ∧ w4.ownsRow 0 5 1 vo j (cellsZ .u8 zn j) ∧ OwnB w.heap.size vo ∧ w4.heap[G3]? = some (.cells (tabI 16 zn) 3 (0, 0)) ∧ w4.ownsRow 0 3 1 u4 k (cellsZ .i64 (codeI v) k) ∧ Touch (fun _ => False) w w4) (fun _ i _ => 16 - (intOf i).toNat)
      case atStart => exact ⟨0, _, by omega, rfl, rfl, World.ownsRow_nil _ _ _ _, OwnB.nil _, HH3.out, HRow3.out, T3.out⟩
      case round =>
        obtain ⟨j, vo, hj16, rfl, rfl, hrow2, hown2, hh4, hrow4, ht4⟩ := hrel
        have HR2 := Lib.hid hrow2
        have HH4 := Lib.hid hh4
        have HRow4 := Lib.hid hrow4
        have HT4 := Lib.hid ht4
        clear hrow2 hh4 hrow4 ht4
        by_cases hlt : j < 16
        · have e1 := tab_cell HH4.out hlt
          obtain ⟨b0, b1⟩ := HBD.out j hlt
          obtain ⟨z, hz⟩ : ∃ z : Nat, zn j = z := ⟨(zn j).toNat, by omega⟩
          rw [hz] at e1 b0 b1
          have fz : IntKind.u8.wrap (z : Int) = (z : Int) := by rw [IntKind.wrap_u8]; omega
          have HZ := Lib.hid hz
          have HAP := Lib.hid (app_16 hlt)
          have HM := Lib.hid (meas_u hlt)
          have HLT := Lib.hid hlt
          have fu1 := wrap_suc j (Nat.le_trans (Nat.le_of_lt hlt) (by decide))
          clear hz b0 b1 hj16
          go_wp2_with (refine wpList_append_mine rfl (.tmp 52) (.tmp 55) 28 28 rfl 5 j0 (.int .u8 0) 1 1 Try.underlying28 hj hj0 hj1 hj2 rfl u12 _ _ rfl ((Touch.new wr (.cells #[.int .u8 z] 5)).row HR2.out (fun _ _ => id)) (.slice (some ⟨wr.heap.size, 0, none⟩) 1 1) 1 [.int .u8 z] rfl (src_one wr Try.underlying28 _ rfl _ rfl) HAP.out.1 HAP.out.2 ?_; intro a6 c6 w6 hown6 ht6 hf6 _)
          have tn := Touch.new wr (.cells #[.int .u8 z] 5)
          have hrn := tn.row HR2.out (fun _ _ => id)
          have hgn := tn.heap HH4.out id
          have hsn := tn.row HRow4.out (fun _ _ => id)
          have HA := Lib.hid (show w6.ownsRow 0 5 1 (.slice a6 (j + 1) c6) (j + 1) (cellsZ .u8 zn (j + 1)) ∧ OwnB w.heap.size (.slice a6 (j + 1) c6) ∧ w6.heap[G3]? = some (.cells (tabI 16 zn) 3 (0, 0)) ∧ w6.ownsRow 0 3 1 u4 k (cellsZ .i64 (codeI v) k) ∧ Touch (fun _ => False) w w6 from
            ⟨by rw [cellsZ_succ, HZ.out]; exact hown6, hown2.fresh hf6 (Nat.le_trans HT4.out.size tn.size), ht6.heap hgn (fun e => own_ne hrn hgn (by decide) e), ht6.row hsn (fun k hk e => by obtain ⟨cur, hc⟩ := own_at hsn hk; exact own_ne hrn hc (by decide) e), own_app (HT4.out.trans tn) hown2 ht6⟩)
          clear hown6 ht6 hf6 tn hrn hgn hsn
          go_roundw
          case rel =>
            obtain ⟨r1, r2, r3, r4, r5⟩ := HA.out
            exact ⟨j + 1, _, HLT.out, by first | rfl | (rw [fu1]; go_num) | go_num, rfl, r1, r2, r3, r4, r5⟩
          case measure => first | exact HM.out | (rw [fu1]; exact HM.out)
        · obtain rfl : j = 16 := by omega
          clear hlt hj16
          obtain ⟨xa, xb, xc, hxv, hx⟩ := ints_row HRow4.out
          have HX := Lib.hid hx
          have HXL := Lib.hid (fun (h : 0 < k) => ints_lt hx h)
          subst hxv
          have HI4 := Lib.hid (tab_ints HH4.out)
          clear hx
          go_wp2_with fail
          refine (HENC.out _ _ xa xb xc HI4.out HX.out HXL.out).mono ?_
          rintro e w5 ⟨⟨g5, rfl, hg5, hh5⟩, t5⟩
          rw [HL3.out] at hh5 ⊢
          have T5 := Lib.hid (HT4.out.trans t5)
          have HR5 := Lib.hid (t5.row HR2.out (fun _ _ => id))
          have HE5 := Lib.hid (enc_bytes hh5)
          have hsz := fun w h => sized_walk (some ⟨g5, 0, none⟩) g5 0 (l3.length / 8 + 1) (bytesL l3) w h HBL.out
          rw [bytesL_len] at hsz
          have HSZ := Lib.hid hsz
          clear t5 hh5 hsz
          go_wp2_with fail
          refine (HSZ.out _ HE5.out).mono ?_
          rintro e w6 ⟨r6, rfl, hr6, o6, t6⟩
          have T6 := Lib.hid (T5.out.trans t6)
          have HR6 := Lib.hid (t6.row HR5.out (fun _ _ => id))
          obtain ⟨a6, b6, c6, hv6, hb6⟩ := hr6.bytes
          have HB6 := Lib.hid hb6
          have hl6 : (two2 (l3.length / 8 + 1) ++ bytesL l3).length = 2 + (l3.length / 8 + 1) := by simp [two2, bytesL_len]; omega
          obtain ⟨X, hX⟩ : ∃ X, two2 (l3.length / 8 + 1) ++ bytesL l3 = X := ⟨_, rfl⟩
          rw [hX] at hv6 HB6 hl6
          obtain ⟨n6, hn6⟩ : ∃ n6, X.length = n6 := ⟨_, rfl⟩
          rw [hn6] at hv6 hl6
          have hs6 := HB6.out.src c6
          rw [hn6] at hs6
          have HS6 := Lib.hid hs6
          have hm6 := max_len (n := 16 + n6) (by have := HBL.out; rw [bytesL_len] at this; omega)
          have HM6 := Lib.hid hm6
          have HXX := Lib.hid hX
          have HNN := Lib.hid hn6
          have HO2 := Lib.hid hown2
          subst hv6
          clear hr6 o6 t6 hb6 hl6 hX hn6 hs6 hm6 hown2
          go_wp2_with (refine wpList_append_mine rfl (.tmp 64) (.tmp 66) 28 28 rfl 5 j0 (.int .u8 0) 1 1 Try.underlying28 hj hj0 hj1 hj2 rfl u12 _ _ rfl HR6.out (.slice a6 n6 c6) n6 (u8L X) rfl HS6.out HM6.out.1 HM6.out.2 ?_; intro a7 c7 w7 hown7 ht7 hf7 _)
          go_ret
          have hlr : RB.length = 16 + n6 := by
            rw [HB.out, List.length_append, row_len, ← HNN.out, ← HXX.out, bytesL_len]
          refine ⟨_, rfl, ?_, HO2.out.fresh hf7 T6.out.size, own_app T6.out HO2.out ht7⟩
          unfold RowU
          rw [hlr, HB.out, u8L_app, bytesL_len, HXX.out, ← HNC.out]
          exact hown7
end Go.Proofs.Ythnhacbagmhfoaa

/- seqs: the document's row. -/
namespace Go.Proofs.Ythnhacbagmhfoaa
open Go.RowKit Go.WideShapes Fs
set_option linter.unusedVariables false
set_option linter.unusedSimpArgs false
set_option maxRecDepth 100000

theorem rcode_walk (v : Nat) (hv : v < 2 ^ 40) (w : World) : Calls Try.prog 16 #[.int .i64 v] w fun e w' => e = .returned (codeT v) ∧ ∃ n, w' = w.drewN n :=
  (ref_code v hv w).mono fun e w' ⟨h1, h2⟩ => ⟨h1, 0, by rw [← h2]; rfl⟩
theorem own_below {w : World} {B : Nat} {e : TypeId} {size n k : Nat} {v : Value} {xs : List Value} (h : w.ownsRow B e size v n xs) (hk : v.ownBlock = some k) : k < w.heap.size := by
  obtain ⟨cur, hc⟩ := own_at h hk
  exact lt_of_block hc

set_option maxHeartbeats 4000000 in
theorem rrow_walk (a : Option Addr) (b off n c : Nat) (v : Nat → Nat) (w : World) (h : Ints .i64 w a b off n (fun i => (v i : Int))) (hn : 0 < n) (hn5 : n ≤ 500) (hv : ∀ i, i < n → v i < 32768) :
    Calls Try.prog 50 #[.slice a n c] w fun e w' => ∃ r, e = .returned r ∧ RowU w' r (rowB v n) ∧ OwnB w.heap.size r ∧ Touch (fun _ => False) w w' := by
  have hat := h.at_ hn
  subst hat
  have hok := row_ok hn hn5 hv
  have hiso := (norm_spec _ _ _ hok).2.2.2
  obtain ⟨t, l, he, ht2, hl9, _⟩ := row_enc hn hn5 hv
  have hD : rowD v n = putL (t : Int) ((6 : Nat) : Int) l := by unfold rowD; rw [he]
  have hDl := rowD_len hn hn5 hv
  have hbd := row_bd hn hn5 hv
  have hnc := rowN_cells v n (fun i hi => (hbd i hi).1)
  have henc := fun w b a2 b2 c2 h h2 => renc_yes (some ⟨b, 0, none⟩) a2 b 0 16 16 6 b2 0 n c2 (normZ (cntZ (codeI v) n) 16 6) (codeI v) w h h2 (by omega) hiso
  have hnorm := fun w b h => rnorm_yes (some ⟨b, 0, none⟩) b 0 16 16 6 (cntZ (codeI v) n) w h hok
  obtain ⟨zn, hzn⟩ : ∃ zn, normZ (cntZ (codeI v) n) 16 6 = zn := ⟨_, rfl⟩
  have hzr : rowZ v n = zn := hzn
  have he3 : encF (2 ^ 6) (symU (natM zn) 16 6) (fun u => bitsU 6 (xU (natM zn) (symU (natM zn) 16 6) u)) (fun u => baseU 6 (xU (natM zn) (symU (natM zn) 16 6) u)) (backL (codeI v) n n) = some (t, l) := by rw [← hzr]; exact he
  rw [hzn] at henc hnorm
  rw [he3] at henc
  rw [hzr] at hbd hnc
  have hB : rowB v n = rowN v n ++ (two2 (bytesL (putL (t : Int) ((6 : Nat) : Int) l)).length ++ bytesL (putL (t : Int) ((6 : Nat) : Int) l)) := by unfold rowB; rw [hD]
  obtain ⟨l3, hl3⟩ : ∃ l3, putL (t : Int) ((6 : Nat) : Int) l = l3 := ⟨_, rfl⟩
  rw [hl3] at hB hD
  rw [hD] at hDl
  have hbl : (bytesL l3).length ≤ 60000 := by rw [bytesL_len]; omega
  obtain ⟨RB, hRB⟩ : ∃ x, rowB v n = x := ⟨_, rfl⟩
  rw [hRB] at hB ⊢
  have HB := Lib.hid hB
  have HBL := Lib.hid hbl
  have HENC := Lib.hid henc
  have HNORM := Lib.hid hnorm
  have HL3 := Lib.hid hl3
  have HBD := Lib.hid hbd
  have HNC := Lib.hid hnc
  have H := Lib.hid h
  have HV := Lib.hid hv
  have HN5 := Lib.hid hn5
  have HN0 := Lib.hid hn
  obtain ⟨i0, hi, hz0, hz1, hz2⟩ := info_parts Try.info3
  obtain ⟨j0, hj, hj0, hj1, hj2⟩ := info_parts Try.info5c
  have hmk := fun w => make16 w
  have TT := Lib.hid (Touch.new w (.cells (tabI 16 (fun _ => 0)) 3))
  have HR0 := Lib.hid (tab_rowAt (heap_alloc_new w (.cells (tabI 16 (fun _ => 0)) 3)))
  have hGs : w.heap.size < (w.alloc (.cells (tabI 16 (fun _ => 0)) 3)).heap.size := by simp
  clear hok hiso he ht2 hl9 hD hDl hbd hnc henc hnorm hzn hzr he3 hB hl3 hbl hRB h hv hn5 hn
  go_enter Try.func50, Try.ntmps50
  go_wp2_with fail
  obtain ⟨wa, hwa⟩ : ∃ wa, w.alloc (.cells (tabI 16 (fun _ => 0)) 3) = wa := ⟨_, rfl⟩
  rw [hwa] at HR0 TT hGs ⊢
  obtain ⟨G, hG⟩ : ∃ G, w.heap.size = G := ⟨_, rfl⟩
  rw [hG] at HR0 hGs ⊢
  have hGw : w.heap.size ≤ G := by omega
  have HGW := Lib.hid hGw
  have HGS := Lib.hid hGs
  clear hG hwa hmk hGw hGs
  go_loopw [4, 5] (fun out_ i wr => ∃ (k : Nat) (vo : Value), k ≤ n ∧ i = .int .i64 k ∧ out_ = vo ∧ wr.ownsRow 0 3 1 vo k (cellsZ .i64 (codeI v) k) ∧ OwnB (G + 1) vo ∧ RowAt wr G 3 16 (fun j => .int .i64 (cntZ (codeI v) k j)) ∧ G < wr.heap.size ∧ Touch (fun _ => False) w wr) (fun _ i _ => n - (intOf i).toNat)
  case atStart => exact ⟨0, _, by omega, rfl, rfl, World.ownsRow_nil _ _ _ _, OwnB.nil _, HR0.out, HGS.out, TT.out⟩
  case round =>
    obtain ⟨k, vo, hk, rfl, rfl, hrow, hown, hcnt, hGr, ht⟩ := hrel
    have HRow := Lib.hid hrow
    have HCnt := Lib.hid hcnt
    have HGR := Lib.hid hGr
    have HTo := Lib.hid ht
    clear hrow hcnt HR0 TT hGr ht
    by_cases hlt : k < n
    · have e1 := HTo.out.cell (H.out.cell k hlt) id
      have hv15 := HV.out k hlt
      obtain ⟨x, hx⟩ : ∃ x, v k = x := ⟨_, rfl⟩
      simp only [hx] at e1
      rw [hx] at hv15
      obtain ⟨q, hq⟩ : ∃ q, codeC x = q := ⟨_, rfl⟩
      have hq16 : q < 16 := by rw [← hq]; exact codeC_lt hv15
      have hyk : codeI v k = (q : Nat) := by unfold codeI; rw [hx, hq]
      have hcode := fun w => rcode_walk x (Nat.lt_of_lt_of_le hv15 (by decide)) w
      unfold codeT at hcode
      rw [hq] at hcode
      have c1 := fun m => RowAt.get (RowAt.drewNI HCnt.out m) hq16
      have fr1 := fun m => RowAt.free (RowAt.drewNI HCnt.out m) q
      have hcs := cnt_500 (y := codeI v) (s := q) hlt HN5.out
      have hcb := (cntZ_bd (codeI v) q k).1
      obtain ⟨cc, hcc⟩ : ∃ c : Nat, cntZ (codeI v) k q = c := ⟨(cntZ (codeI v) k q).toNat, by omega⟩
      rw [hcc] at hcs
      simp only [hcc] at c1
      have fc := wrap_suc cc hcs
      have HS2 := Lib.hid (show ∀ i, i < 16 → (if i = q then Value.int .i64 ((cc : Int) + 1) else .int .i64 (cntZ (codeI v) k i)) = .int .i64 (cntZ (codeI v) (k + 1) i) from fun i hi => by
        simp only [cntZ]
        rw [hyk]
        by_cases e : i = q
        · subst e; rw [if_pos rfl, if_pos rfl, hcc]
        · rw [if_neg e, if_neg (by omega)])
      have HAP := Lib.hid (app_500 hlt HN5.out)
      have HYK := Lib.hid hyk
      have HM := Lib.hid (meas_u hlt)
      have HCODE := Lib.hid hcode
      have HLT := Lib.hid hlt
      have fu1 := wrap_suc k (k_500 hlt HN5.out)
      have hq0 : (0 : Int) ≤ q := Int.natCast_nonneg _
      clear hx hq hyk hcode hcb hcc hcs hv15
      go_wp2_with fail
      refine (HCODE.out _).mono ?_
      rintro e w2 ⟨rfl, m, rfl⟩
      have HW2 := Lib.hid (row_keep (s := q) (u := .int .i64 ((cc : Int) + 1)) ((Touch.eq_drewN (S := fun _ => False) wr m).row HRow.out (fun _ _ => id)) hown)
      have HC2 := Lib.hid ((RowAt.set (RowAt.drewNI HCnt.out m) q (.int .i64 ((cc : Int) + 1))).congr (G := fun j => .int .i64 (cntZ (codeI v) (k + 1) j)) HS2.out)
      have HT2 := Lib.hid ((HTo.out.drewN m).setCell (p := ⟨G, q, none⟩) (fun h => absurd h (Nat.not_lt.2 HGW.out)) (.int .i64 ((cc : Int) + 1)))
      have cm := c1 m
      have fm := fr1 m
      have HHN := Lib.hid (show (((wr.drewN m).setCell ⟨G, q, none⟩ (.int .i64 ((cc : Int) + 1))).alloc (.cells #[.int .i64 q] 3)).heap[wr.heap.size]? = some (.cells #[.int .i64 q] 3 (0, 0)) from by
        have h := heap_alloc_new ((wr.drewN m).setCell ⟨G, q, none⟩ (.int .i64 ((cc : Int) + 1))) (.cells #[.int .i64 q] 3)
        have e : ((wr.drewN m).setCell ⟨G, q, none⟩ (.int .i64 ((cc : Int) + 1))).heap.size = wr.heap.size := by simp [World.setCell, World.drewN]
        rwa [e] at h)
      clear c1 fr1
      go_wp2_with (refine wpList_append_mine rfl (.tmp 37) (.tmp 39) 43 43 rfl 3 i0 (.int .i64 0) 1 8 Try.underlying43 hi hz0 hz1 hz2 rfl u4 _ _ rfl ((Touch.new _ (.cells #[.int .i64 q] 3)).row HW2.out (fun _ _ => id)) (.slice (some ⟨wr.heap.size, 0, none⟩) 1 1) 1 [.int .i64 q] rfl (src_at wr.heap.size Try.underlying43 _ rfl _ HHN.out) HAP.out.1 HAP.out.2 ?_; intro a6 c6 w6 hown6 ht6 hf6 _)
      have HA := Lib.hid (count_after HGW.out (RowAt.lt HC2.out) HW2.out hown HC2.out HT2.out HYK.out hown6 ht6 hf6)
      clear hown6 ht6 hf6
      go_roundw
      case rel =>
        obtain ⟨r1, r2, r3, r4, r5⟩ := HA.out
        exact ⟨k + 1, _, HLT.out, by first | rfl | (rw [fu1]; go_num) | go_num, rfl, r2, r3, r1, r5, r4⟩
      case measure => first | exact HM.out | (rw [fu1]; exact HM.out)
    · obtain rfl : k = n := Nat.le_antisymm hk (Nat.not_lt.1 hlt)
      clear hlt hk
      go_wp2_with fail
      refine (HNORM.out _ _ (RowAt.ints HCnt.out)).mono ?_
      rintro e w3 ⟨rfl, hh3, t3⟩
      have T3 := Lib.hid (HTo.out.trans t3)
      have HH3 := Lib.hid hh3
      have HRow3 := Lib.hid (t3.row HRow.out (fun _ _ => id))
      have HOw3 := Lib.hid hown
      obtain ⟨G3, hG3⟩ : ∃ g, wr.heap.size = g := ⟨_, rfl⟩
      rw [hG3] at HH3 ⊢
      clear t3 hh3 hG3 hown
      go_wp2_with fail
      go_loopw [11, 12] (fun out_ i w4 => ∃ (j : Nat) (vo : Value), j ≤ 16 ∧ i = .int .i64 j ∧ out_ = vo ∧ w4.ownsRow 0 5 1 vo j (cellsZ .u8 zn j) ∧ OwnB w.heap.size vo ∧ w4.heap[G3]? = some (.cells (tabI 16 zn) 3 (0, 0)) ∧ w4.ownsRow 0 3 1 u4 k (cellsZ .i64 (codeI v) k) ∧ Touch (fun _ => False) w w4) (fun _ i _ => 16 - (intOf i).toNat)
      case atStart => exact ⟨0, _, by omega, rfl, rfl, World.ownsRow_nil _ _ _ _, OwnB.nil _, HH3.out, HRow3.out, T3.out⟩
      case round =>
        obtain ⟨j, vo, hj16, rfl, rfl, hrow2, hown2, hh4, hrow4, ht4⟩ := hrel
        have HR2 := Lib.hid hrow2
        have HH4 := Lib.hid hh4
        have HRow4 := Lib.hid hrow4
        have HT4 := Lib.hid ht4
        clear hrow2 hh4 hrow4 ht4
        by_cases hlt : j < 16
        · have e1 := tab_cell HH4.out hlt
          obtain ⟨b0, b1⟩ := HBD.out j hlt
          obtain ⟨z, hz⟩ : ∃ z : Nat, zn j = z := ⟨(zn j).toNat, by omega⟩
          rw [hz] at e1 b0 b1
          have fz : IntKind.u8.wrap (z : Int) = (z : Int) := by rw [IntKind.wrap_u8]; omega
          have HZ := Lib.hid hz
          have HAP := Lib.hid (app_16 hlt)
          have HM := Lib.hid (meas_u hlt)
          have HLT := Lib.hid hlt
          have fu1 := wrap_suc j (Nat.le_trans (Nat.le_of_lt hlt) (by decide))
          clear hz b0 b1 hj16
          go_wp2_with (refine wpList_append_mine rfl (.tmp 50) (.tmp 56) 28 28 rfl 5 j0 (.int .u8 0) 1 1 Try.underlying28 hj hj0 hj1 hj2 rfl u11 _ _ rfl ((Touch.new wr (.cells #[.int .u8 z] 5)).row HR2.out (fun _ _ => id)) (.slice (some ⟨wr.heap.size, 0, none⟩) 1 1) 1 [.int .u8 z] rfl (src_one wr Try.underlying28 _ rfl _ rfl) HAP.out.1 HAP.out.2 ?_; intro a6 c6 w6 hown6 ht6 hf6 _)
          have tn := Touch.new wr (.cells #[.int .u8 z] 5)
          have hrn := tn.row HR2.out (fun _ _ => id)
          have hgn := tn.heap HH4.out id
          have hsn := tn.row HRow4.out (fun _ _ => id)
          have HA := Lib.hid (show w6.ownsRow 0 5 1 (.slice a6 (j + 1) c6) (j + 1) (cellsZ .u8 zn (j + 1)) ∧ OwnB w.heap.size (.slice a6 (j + 1) c6) ∧ w6.heap[G3]? = some (.cells (tabI 16 zn) 3 (0, 0)) ∧ w6.ownsRow 0 3 1 u4 k (cellsZ .i64 (codeI v) k) ∧ Touch (fun _ => False) w w6 from
            ⟨by rw [cellsZ_succ, HZ.out]; exact hown6, hown2.fresh hf6 (Nat.le_trans HT4.out.size tn.size), ht6.heap hgn (fun e => own_ne hrn hgn (by decide) e), ht6.row hsn (fun k hk e => by obtain ⟨cur, hc⟩ := own_at hsn hk; exact own_ne hrn hc (by decide) e), own_app (HT4.out.trans tn) hown2 ht6⟩)
          clear hown6 ht6 hf6 tn hrn hgn hsn
          go_roundw
          case rel =>
            obtain ⟨r1, r2, r3, r4, r5⟩ := HA.out
            exact ⟨j + 1, _, HLT.out, by first | rfl | (rw [fu1]; go_num) | go_num, rfl, r1, r2, r3, r4, r5⟩
          case measure => first | exact HM.out | (rw [fu1]; exact HM.out)
        · obtain rfl : j = 16 := by omega
          clear hlt hj16
          obtain ⟨xa, xb, xc, hxv, hx⟩ := ints_row HRow4.out
          have HX := Lib.hid hx
          have HXL := Lib.hid (fun (h : 0 < k) => ints_lt hx h)
          subst hxv
          have HI4 := Lib.hid (tab_ints HH4.out)
          clear hx
          go_wp2_with fail
          refine (HENC.out _ _ xa xb xc HI4.out HX.out).mono ?_
          rintro e w5 ⟨⟨g5, rfl, hg5, hh5⟩, t5⟩
          rw [HL3.out] at hh5 ⊢
          have T5 := Lib.hid (HT4.out.trans t5)
          have HR5 := Lib.hid (t5.row HR2.out (fun _ _ => id))
          have HE5 := Lib.hid (enc_bytes hh5)
          have hb2 := HBL.out
          rw [bytesL_len] at hb2
          have hlow : ¬ (fun k => u11.ownBlock = some k) g5 := fun e => by have := own_below HR2.out e; omega
          have HLOW := Lib.hid hlow
          obtain ⟨K, hK⟩ : ∃ K, l3.length / 8 + 1 = K := ⟨_, rfl⟩
          have hKl : (bytesL l3).length = K := by rw [bytesL_len, hK]
          rw [hK] at hb2 ⊢
          have HTW := Lib.hid (fun w => two_walk K hb2 w)
          have HM1 := Lib.hid (max_len (n := 16 + 2) (by omega))
          have HM2 := Lib.hid (max_len (n := 16 + 2 + K) (by omega))
          have HKL := Lib.hid hKl
          have HO2 := Lib.hid hown2
          clear t5 hh5 hb2 hlow hK hKl hown2 hg5
          go_wp2_with fail
          refine (HTW.out _).mono ?_
          rintro e w6 ⟨rfl, r6, t6⟩
          have T6 := Lib.hid (T5.out.trans t6)
          have HR6 := Lib.hid (t6.row HR5.out (fun _ _ => id))
          have HE6 := Lib.hid (Ints.touch HE5.out t6)
          have HS6 := Lib.hid (show Src Try.prog 1 28 (.slice (some ⟨w5.heap.size, 0, none⟩) 2 2) 2 (u8L (two2 K)) w6 from by
            obtain ⟨ra, rb, rc, hv, hb⟩ := r6.bytes
            have h2 := hb.src rc
            rw [← hv] at h2
            exact h2)
          clear t6 r6
          go_wp2_with (first
            | (refine wpList_append_mine rfl (.tmp 64) (.tmp 67) 28 28 rfl 5 j0 (.int .u8 0) 1 1 Try.underlying28 hj hj0 hj1 hj2 rfl u11 _ _ rfl HR6.out (.slice (some ⟨w5.heap.size, 0, none⟩) 2 2) 2 (u8L (two2 K)) rfl HS6.out HM1.out.1 HM1.out.2 ?_; intro a7 c7 w7 hown7 ht7 hf7 _; have HE7 := Lib.hid (Ints.touchS HE6.out ht7 (fun _ => HLOW.out)); have hs7 := BytesAt.src HE7.out K; rw [HKL.out] at hs7; have HS7 := Lib.hid hs7; have HO7 := Lib.hid hown7; have HT7 := Lib.hid ht7; have HF7 := Lib.hid hf7; clear hs7 hown7 ht7 hf7)
            | (refine wpList_append_mine rfl (.tmp 68) (.tmp 69) 28 28 rfl 5 j0 (.int .u8 0) 1 1 Try.underlying28 hj hj0 hj1 hj2 rfl (.slice a7 (16 + 2) c7) _ _ rfl HO7.out (.slice (some ⟨g5, 0, none⟩) K K) K (u8L (bytesL l3)) rfl HS7.out HM2.out.1 HM2.out.2 ?_; intro a8 c8 w8 hown8 ht8 hf8 _))
          go_ret
          have hlr : RB.length = 16 + 2 + K := by
            rw [HB.out, List.length_append, row_len, List.length_append, HKL.out]; simp [two2]; omega
          have T7 := own_app T6.out HO2.out HT7.out
          have O7 := HO2.out.fresh HF7.out T6.out.size
          refine ⟨_, rfl, ?_, O7.fresh hf8 T7.size, own_app T7 O7 ht8⟩
          unfold RowU
          rw [hlr, HB.out, u8L_app, u8L_app, HKL.out, ← HNC.out, ← List.append_assoc]
          exact hown8
end Go.Proofs.Ythnhacbagmhfoaa

/- seqs: the document's extras. -/
namespace Go.Proofs.Ythnhacbagmhfoaa
open Go.RowKit Go.WideShapes Fs
set_option linter.unusedVariables false
set_option linter.unusedSimpArgs false
set_option maxRecDepth 100000

/-- A number's extra, put; the extras of three numbers; those of three rows, the last ones first. -/
def putC (v : Nat) (l : List Bool) : List Bool := putL (codeX v : Nat) (codeN v : Nat) l
def partE (xs : Nat → Nat) (l : List Bool) : Nat → List Bool
  | 0 => l
  | k + 1 => putC (xs k) (partE xs l k)
def three (a b c : Nat) (j : Nat) : Nat := if j = 0 then a else if j = 1 then b else c
def extL (vl vo vm : Nat → Nat) (n : Nat) : Nat → List Bool
  | 0 => []
  | k + 1 => partE (three (vm (n - 1 - k)) (vo (n - 1 - k)) (vl (n - 1 - k))) (extL vl vo vm n k) 3
theorem putC_len (v : Nat) (l : List Bool) : (putC v l).length ≤ l.length + 24 := putL_len _ _ _
theorem partE_len (xs : Nat → Nat) (l : List Bool) : ∀ k, (partE xs l k).length ≤ l.length + 24 * k
  | 0 => Nat.le_refl _
  | k + 1 => by
    have := partE_len xs l k
    have h2 := putC_len (xs k) (partE xs l k)
    rw [partE]; omega
theorem extL_len (vl vo vm : Nat → Nat) (n : Nat) : ∀ k, (extL vl vo vm n k).length ≤ 72 * k
  | 0 => Nat.le_refl _
  | k + 1 => by
    have := extL_len vl vo vm n k
    have h2 := partE_len (three (vm (n - 1 - k)) (vo (n - 1 - k)) (vl (n - 1 - k))) (extL vl vo vm n k) 3
    rw [extL]; omega
def extB (vl vo vm : Nat → Nat) (n : Nat) : List Nat := two2 (bytesL (extL vl vo vm n n)).length ++ bytesL (extL vl vo vm n n)
theorem small_code {v : Nat} (h : v < 32768) : v < 2 ^ 40 := Nat.lt_of_lt_of_le h (by decide)
theorem le_900 {l : List Bool} {xs : Nat → Nat} {n k m : Nat} (h : l.length ≤ 72 * m) (hm : m ≤ 500) (hk : k < 3) : (partE xs l k).length ≤ 900000 := by
  have := partE_len xs l k; omega
theorem i64_wrap (x : Nat) (h : x ≤ 1000000) : IntKind.i64.wrap (x : Int) = x := IntWalk.i64_in _ (by omega)
theorem three_cell {w : World} {g : Nat} {a b c : Nat} (h : w.heap[g]? = some (.cells #[.int .i64 a, .int .i64 b, .int .i64 c] 3 (0, 0))) {k : Nat} (hk : k < 3) : w.cell? ⟨g, k, none⟩ = some (.int .i64 (three a b c k)) := by
  rw [cell_of_row _ _ _ _ _ _ h]
  have : k = 0 ∨ k = 1 ∨ k = 2 := by omega
  rcases this with rfl | rfl | rfl <;> rfl
theorem three_lt {a b c k M : Nat} (ha : a < M) (hb : b < M) (hc : c < M) : three a b c k < M := by
  unfold three
  split
  · exact ha
  · split
    · exact hb
    · exact hc

set_option maxHeartbeats 4000000 in
theorem extras_walk (al ao am : Option Addr) (bl bo bm cl co cm n : Nat) (vl vo vm : Nat → Nat) (w : World) (hl : Ints .i64 w al bl 0 n (fun i => (vl i : Int))) (ho : Ints .i64 w ao bo 0 n (fun i => (vo i : Int))) (hm : Ints .i64 w am bm 0 n (fun i => (vm i : Int)))
    (hn : n ≤ 500) (kl : ∀ i, i < n → vl i < 32768) (ko : ∀ i, i < n → vo i < 32768) (km : ∀ i, i < n → vm i < 32768) :
    Calls Try.prog 51 #[.slice al n cl, .slice ao n co, .slice am n cm] w fun e w' => ∃ r, e = .returned r ∧ RowU w' r (extB vl vo vm n) ∧ OwnB w.heap.size r ∧ Touch (fun _ => False) w w' := by
  obtain ⟨RB, hRB⟩ : ∃ x, extB vl vo vm n = x := ⟨_, rfl⟩
  rw [hRB]
  have HRB := Lib.hid hRB
  have HL := Lib.hid hl
  have HO := Lib.hid ho
  have HM := Lib.hid hm
  have KL := Lib.hid kl
  have KO := Lib.hid ko
  have KM := Lib.hid km
  have HN5 := Lib.hid hn
  obtain ⟨j0, hj, hj0, hj1, hj2⟩ := info_parts Try.info5c
  have hpre := wrap_pred (j := n) (by omega)
  have hwr : Wr (w.alloc (.cells #[.slice none 0 0] 114)) 114 w.heap.size (.slice none 0 0) [] := ⟨heap_alloc_new _ _, World.ownsRow_nil _ _ _ _, by simp [Value.ownBlock]⟩
  have TT := Lib.hid (Touch.new w (.cells #[.slice none 0 0] 114))
  have HW0 := Lib.hid hwr
  clear hRB hl ho hm kl ko km hn hwr
  go_enter Try.func51, Try.ntmps51
  go_wp2_with fail
  obtain ⟨B, hB⟩ : ∃ B, w.heap.size = B := ⟨_, rfl⟩
  rw [hB] at HW0 ⊢
  have hBw : w.heap.size ≤ B := by omega
  have HBW := Lib.hid hBw
  clear hB hBw
  go_loopw [8, 9, 10] (fun i _ _ wr => ∃ (j : Nat) (v : Value) (ii : Int), j ≤ n ∧ ii = (j : Int) - 1 ∧ i = .int .i64 ii ∧ Wr wr 114 B v (extL vl vo vm n (n - j)) ∧ OwnB w.heap.size v ∧ Touch (fun _ => False) w wr) (fun i _ _ _ => (intOf i + 1).toNat)
  case atStart => exact ⟨n, _, _, Nat.le_refl _, rfl, by first | rfl | go_num, by rw [Nat.sub_self]; exact HW0.out, OwnB.nil _, TT.out⟩
  case round =>
    obtain ⟨j, v, ii, hj', hii, rfl, hw, hown, ht⟩ := hrel
    have HW := Lib.hid hw
    have HT := Lib.hid ht
    clear hw HW0 TT hpre ht
    cases j with
    | zero =>
      have hneg : ii < 0 := by rw [hii]; decide
      have hnd : decide ((0 : Int) ≤ ii) = false := by simpa using hneg
      rw [Nat.sub_zero] at HW
      have hl72 := extL_len vl vo vm n n
      have hlb : (extL vl vo vm n n).length ≤ 1000000 := by have := HN5.out; omega
      have hK6 : (extL vl vo vm n n).length / 8 + 1 ≤ 60000 := by have := HN5.out; omega
      obtain ⟨E, hE⟩ : ∃ E, extL vl vo vm n n = E := ⟨_, rfl⟩
      rw [hE] at HW hlb hK6
      obtain ⟨K, hK⟩ : ∃ K, E.length / 8 + 1 = K := ⟨_, rfl⟩
      have hKl : (bytesL E).length = K := by rw [bytesL_len, hK]
      rw [hK] at hK6
      have hrb := HRB.out
      unfold extB at hrb
      rw [hE, hKl] at hrb
      have hby := fun w hw => rbytes_walk B v E w hw hlb
      rw [hK] at hby
      have HBY := Lib.hid hby
      have HTW := Lib.hid (fun w => two_walk K hK6 w)
      have HMX := Lib.hid (max_len (n := 2 + K) (by omega))
      have HKK := Lib.hid hK
      have HKL := Lib.hid hKl
      have HRB2 := Lib.hid hrb
      clear hii hl72 hlb hE hK hK6 hKl hrb hby hown
      go_wp2_with fail
      refine (HBY.out _ HW.out).mono ?_
      rintro e w3 ⟨rfl, hh3, t3⟩
      rw [← HKK.out] at hh3
      have HE3 := Lib.hid (enc_bytes hh3)
      have T3 := Lib.hid (HT.out.trans t3)
      clear hh3 t3
      go_wp2_with fail
      refine (HTW.out _).mono ?_
      rintro e w4 ⟨rfl, r4, t4⟩
      have T4 := Lib.hid (T3.out.trans t4)
      have hs4 := BytesAt.src (Ints.touch HE3.out t4) K
      rw [HKL.out] at hs4
      have HS4 := Lib.hid hs4
      have HR4 := Lib.hid (show w4.ownsRow 0 5 1 (.slice (some ⟨w3.heap.size, 0, none⟩) 2 2) 2 (u8L (two2 K)) from r4)
      have hO4 : OwnB w.heap.size (.slice (some ⟨w3.heap.size, 0, none⟩) 2 2) := (OwnB.here' w3 2 2).mono T3.out.size
      clear t4 r4 hs4
      go_wp2_with (refine wpList_append_mine rfl (.tmp 58) (.tmp 59) 28 28 rfl 5 j0 (.int .u8 0) 1 1 Try.underlying28 hj hj0 hj1 hj2 rfl (.slice (some ⟨w3.heap.size, 0, none⟩) 2 2) 2 (u8L (two2 K)) rfl HR4.out (.slice (some ⟨wr.heap.size, 0, none⟩) K K) K (u8L (bytesL E)) rfl HS4.out HMX.out.1 HMX.out.2 ?_; intro a5 c5 w5 hown5 ht5 hf5 _)
      go_ret
      have hlr : RB.length = 2 + K := by rw [← HRB2.out, List.length_append, HKL.out]; rfl
      refine ⟨_, rfl, ?_, hO4.fresh hf5 T4.out.size, own_app T4.out hO4 ht5⟩
      unfold RowU
      rw [hlr, ← HRB2.out, u8L_app]
      exact hown5
    | succ j =>
      obtain rfl : ii = (j : Int) := by rw [hii]; push_cast; omega
      have hjn : j < n := hj'
      have hn0 : 0 < n := Nat.lt_of_le_of_lt (Nat.zero_le _) hjn
      obtain rfl := HL.out.at_ hn0
      obtain rfl := HO.out.at_ hn0
      obtain rfl := HM.out.at_ hn0
      have e0 := HT.out.drew.cell (HL.out.cell j hjn) id
      have e1 := HT.out.drew.cell (HO.out.cell j hjn) id
      have e2 := HT.out.drew.cell (HM.out.cell j hjn) id
      rw [Nat.zero_add] at e0 e1 e2
      have hxs : ∀ k, three (vm j) (vo j) (vl j) k < 32768 := fun k => three_lt (KM.out j hjn) (KO.out j hjn) (KL.out j hjn)
      have hst : extL vl vo vm n (n - j) = partE (three (vm j) (vo j) (vl j)) (extL vl vo vm n (n - (j + 1))) 3 := by
        rw [show n - j = (n - (j + 1)) + 1 by omega, extL, show n - 1 - (n - (j + 1)) = j by omega]
      obtain ⟨x0, hx0⟩ : ∃ x, vm j = x := ⟨_, rfl⟩
      obtain ⟨x1, hx1⟩ : ∃ x, vo j = x := ⟨_, rfl⟩
      obtain ⟨x2, hx2⟩ : ∃ x, vl j = x := ⟨_, rfl⟩
      rw [hx0] at e2
      rw [hx1] at e1
      rw [hx2] at e0
      rw [hx0, hx1, hx2] at hxs hst
      have hl72 := extL_len vl vo vm n (n - (j + 1))
      obtain ⟨E, hE⟩ : ∃ E, extL vl vo vm n (n - (j + 1)) = E := ⟨_, rfl⟩
      rw [hE] at hst hl72 HW
      have hpre := wrap_pred (j := j) (by have := HN5.out; omega)
      have hm' : ((intOf (Value.int .i64 ((j : Int) - 1))) + 1).toNat < ((intOf (Value.int .i64 (j : Int))) + 1).toNat := by simp [intOf]
      have HMM := Lib.hid hm'
      have HXS := Lib.hid hxs
      have HST := Lib.hid hst
      have HJN := Lib.hid hjn
      have H900 := Lib.hid (fun (xs : Nat → Nat) k (hk : k < 3) => le_900 (xs := xs) (n := n) hl72 (by have := HN5.out; omega : n - (j + 1) ≤ 500) hk)
      clear hii hxs hst hx0 hx1 hx2 hl72 hE hm' hj' hn0
      go_wp2_with fail
      go_region_held3 (fun wx => wx.cell? ⟨bl, j, none⟩ = some (.int .i64 x2) ∧ wx.cell? ⟨bo, j, none⟩ = some (.int .i64 x1) ∧ wx.cell? ⟨bm, j, none⟩ = some (.int .i64 x0)) (first | exact ⟨e0, e1, e2⟩ | exact ⟨(Touch.new wr.drew _).cell e0 id, (Touch.new wr.drew _).cell e1 id, (Touch.new wr.drew _).cell e2 id⟩) (fail)
      go_wp2_with fail
      have HRow := Lib.hid (heap_alloc_new wr.drew (.cells #[.int .i64 x0, .int .i64 x1, .int .i64 x2] 3))
      have tn := Touch.new wr.drew (.cells #[.int .i64 x0, .int .i64 x1, .int .i64 x2] 3)
      have HW1 := Lib.hid (HW.out.drew.touch tn id (fun _ _ => id))
      have HT1 := Lib.hid (HT.out.drew.trans tn)
      obtain ⟨g1, hg1⟩ : ∃ g, wr.heap.size = g := ⟨_, rfl⟩
      rw [show wr.drew.heap.size = g1 from hg1] at HRow
      rw [hg1]
      clear tn hg1 e0 e1 e2
      go_loopw [10] (fun i w2 => ∃ (k : Nat) (v2 : Value), k ≤ 3 ∧ i = .int .i64 k ∧ Wr w2 114 B v2 (partE (three x0 x1 x2) E k) ∧ OwnB w.heap.size v2 ∧ w2.heap[g1]? = some (.cells #[.int .i64 x0, .int .i64 x1, .int .i64 x2] 3 (0, 0)) ∧ Touch (fun _ => False) w w2) (fun i _ => 3 - (intOf i).toNat)
      case atStart => exact ⟨0, v, by omega, rfl, HW1.out, hown, HRow.out, HT1.out⟩
      case round =>
        obtain ⟨k, v2, hk3, rfl, hw2, hown2, hrow2, ht2⟩ := hrel
        have HW2 := Lib.hid hw2
        have HRow2 := Lib.hid hrow2
        have HT2 := Lib.hid ht2
        clear hw2 hrow2 ht2 HRow HW1 HT1
        by_cases hlt : k < 3
        · have c1 := three_cell HRow2.out hlt
          have hx := HXS.out k
          obtain ⟨x, hxe⟩ : ∃ x, three x0 x1 x2 k = x := ⟨_, rfl⟩
          rw [hxe] at c1 hx
          have hpc : partE (three x0 x1 x2) E (k + 1) = putL (codeX x : Nat) (codeN x : Nat) (partE (three x0 x1 x2) E k) := by rw [partE, hxe]; rfl
          have hcode := fun w => ref_code x (small_code hx) w
          unfold codeT at hcode
          have hput := fun w hw => rput_walk B (codeX x : Nat) (codeN x : Nat) w v2 (partE (three x0 x1 x2) E k) hw (H900.out _ k hlt)
          rw [← hpc] at hput
          have HCODE := Lib.hid hcode
          have HPUT := Lib.hid hput
          have HM3 := Lib.hid (meas_u hlt)
          have HLT := Lib.hid hlt
          have fu1 := wrap_suc k (Nat.le_trans (Nat.le_of_lt hlt) (by decide))
          have hfoot := foot_not HW2.out HRow2.out (by decide) (by decide)
          have HFT := Lib.hid hfoot
          clear hx hxe hpc hcode hput hfoot hk3
          go_wp2_with fail
          refine (HCODE.out _).mono ?_
          rintro e w3 ⟨rfl, rfl⟩
          go_wp2_with fail
          refine (HPUT.out _ HW2.out).mono ?_
          rintro e w4 ⟨rfl, v4, hw4, t4, f4⟩
          have HW4 := Lib.hid hw4
          have T4 := Lib.hid (foot_owns HT2.out HBW.out hown2 t4)
          have o4 := hown2.fresh f4 HT2.out.size
          have HR4 := Lib.hid (t4.heap HRow2.out HFT.out)
          clear hw4 t4 f4
          go_wp2_with fail
          go_roundw
          case rel => exact ⟨k + 1, v4, HLT.out, by first | rfl | (rw [fu1]; go_num) | go_num, HW4.out, o4, HR4.out, T4.out⟩
          case measure => first | exact HM3.out | (rw [fu1]; exact HM3.out)
        · obtain rfl : k = 3 := Nat.le_antisymm hk3 (Nat.not_lt.1 hlt)
          have HW5 := Lib.hid (show Wr wr 114 B v2 (extL vl vo vm n (n - j)) from by rw [HST.out]; exact HW2.out)
          clear hlt hk3
          go_wp2_with fail
          go_roundw
          case rel => exact ⟨j, v2, _, Nat.le_of_lt HJN.out, rfl, by first | rfl | go_num, HW5.out, hown2, HT2.out⟩
          case measure => first | exact HMM.out | (rw [hpre]; exact HMM.out)
end Go.Proofs.Ythnhacbagmhfoaa

/- seqs: whether a step may be. -/
namespace Go.Proofs.Ythnhacbagmhfoaa
open Go.RowKit Go.WideShapes Fs
set_option linter.unusedVariables false
set_option linter.unusedSimpArgs false
set_option maxRecDepth 100000

/-- A step's three numbers. -/
def recV (z : Nat → Int) : Value := .agg #[.int .i64 (z 0), .int .i64 (z 1), .int .i64 (z 2)]
def mayB (z : Nat → Int) : Bool := decide (0 ≤ z 0 ∧ z 0 ≤ 500 ∧ 1 ≤ z 1 ∧ z 1 ≤ 2500 ∧ 4 ≤ z 2 ∧ z 2 ≤ 500)
theorem rmay_walk (z : Nat → Int) (w : World) : Calls Try.prog 48 #[recV z] w fun e w' => e = .returned (.bool (mayB z)) ∧ Touch (fun _ => False) w w' := by
  obtain ⟨B, hB⟩ : ∃ B, mayB z = B := ⟨_, rfl⟩
  rw [hB]
  unfold mayB at hB
  unfold recV
  obtain ⟨a, ha⟩ : ∃ a, z 0 = a := ⟨_, rfl⟩
  obtain ⟨b, hb⟩ : ∃ a, z 1 = a := ⟨_, rfl⟩
  obtain ⟨c, hc⟩ : ∃ a, z 2 = a := ⟨_, rfl⟩
  rw [ha, hb, hc] at hB
  rw [ha, hb, hc]
  have HB := Lib.hid hB
  clear ha hb hc hB
  have TT := Lib.hid (Touch.new w (.cells #[.int .i64 a, .int .i64 b, .int .i64 c] 42))
  go_enter Try.func48, Try.ntmps48
  go_wp2_with fail
  all_goals (go_ret; exact ⟨ret_bool (by rw [← HB.out]; first | exact decide_eq_decide.2 (by omega) | exact (decide_eq_false (by omega)).symm | exact (decide_eq_true (by omega)).symm), TT.out⟩)
theorem may_walk (z : Nat → Int) (w : World) : Calls Try.prog 37 #[recV z] w fun e w' => e = .returned (.bool (mayB z)) ∧ Touch (fun _ => False) w w' := by
  obtain ⟨B, hB⟩ : ∃ B, mayB z = B := ⟨_, rfl⟩
  rw [hB]
  unfold mayB at hB
  unfold recV
  obtain ⟨a, ha⟩ : ∃ a, z 0 = a := ⟨_, rfl⟩
  obtain ⟨b, hb⟩ : ∃ a, z 1 = a := ⟨_, rfl⟩
  obtain ⟨c, hc⟩ : ∃ a, z 2 = a := ⟨_, rfl⟩
  rw [ha, hb, hc] at hB
  rw [ha, hb, hc]
  have HB := Lib.hid hB
  clear ha hb hc hB
  have TT := Lib.hid (Touch.new w (.cells #[.int .i64 a, .int .i64 b, .int .i64 c] 42))
  go_enter Try.func37, Try.ntmps37
  go_wp2_with fail
  all_goals (go_ret; exact ⟨ret_bool (by rw [← HB.out]; first | exact decide_eq_decide.2 (by omega) | exact (decide_eq_false (by omega)).symm | exact (decide_eq_true (by omega)).symm), TT.out⟩)

/-- The steps that may not be. -/
theorem bad_walk (z : Nat → Int) (w : World) : Calls Try.prog 36 #[recV z] w fun e w' => e = .returned (.bool (!mayB z)) ∧ Touch (fun _ => False) w w' := by
  obtain ⟨B, hB⟩ : ∃ B, mayB z = B := ⟨_, rfl⟩
  have hm := fun w => may_walk z w
  rw [hB] at hm ⊢
  have HM := Lib.hid hm
  clear hm hB
  unfold recV at HM ⊢
  go_enter Try.func36, Try.ntmps36
  go_wp2_with fail
  refine (HM.out _).mono ?_
  rintro e w1 ⟨rfl, t1⟩
  go_wp2_with fail
  go_ret
  exact ⟨rfl, (Touch.new w _).trans t1⟩
/-- All of the first k may be. -/
def allM (z : Nat → Nat → Int) : Nat → Bool
  | 0 => true
  | k + 1 => allM z k && mayB (z k)
theorem allM_iff (z : Nat → Nat → Int) : ∀ n, allM z n = true ↔ ∀ i, i < n → mayB (z i) = true
  | 0 => by simp [allM]
  | n + 1 => by
    rw [allM, Bool.and_eq_true, allM_iff z n]
    constructor
    · rintro ⟨a, b⟩ i hi
      by_cases e : i = n
      · subst e; exact b
      · exact a i (by omega)
    · intro h
      exact ⟨fun i hi => h i (by omega), h n (by omega)⟩
/-- Steps in memory. -/
structure Stp (w : World) (a : Option Addr) (b off n : Nat) (z : Nat → Nat → Int) : Prop where
  at_ : 0 < n → a = some ⟨b, off, none⟩
  cell : ∀ i, i < n → ∀ j, j < 3 → w.cell? ⟨b, off + i * 3 + j, none⟩ = some (.int .i64 (z i j))
theorem Stp.touch {w w' : World} {a : Option Addr} {b off n : Nat} {z : Nat → Nat → Int} (h : Stp w a b off n z) (ht : Touch (fun _ => False) w w') : Stp w' a b off n z := ⟨h.at_, fun i hi j hj => ht.cell (h.cell i hi j hj) id⟩
theorem Stp.three {w : World} {a : Option Addr} {b off n : Nat} {z : Nat → Nat → Int} (h : Stp w a b off n z) {i : Nat} (hi : i < n) : w.cell? ⟨b, off + i * 3, none⟩ = some (.int .i64 (z i 0)) ∧ w.cell? ⟨b, off + i * 3 + 1, none⟩ = some (.int .i64 (z i 1)) ∧ w.cell? ⟨b, off + i * 3 + 2, none⟩ = some (.int .i64 (z i 2)) :=
  ⟨h.cell i hi 0 (by omega), h.cell i hi 1 (by omega), h.cell i hi 2 (by omega)⟩

theorem indexM_walk (a : Option Addr) (b off n c : Nat) (z : Nat → Nat → Int) (w : World) (h : Stp w a b off n z) (hn : n ≤ 100000) (B : Bool) (hB : allM z n = B) :
    Calls Try.prog 63 #[.slice a n c, .func (.func 36) #[] #[]] w fun e w' => ∃ r : Int, e = .returned (.int .i64 r) ∧ decide (0 ≤ r) = (!B) ∧ Touch (fun _ => False) w w' := by
  have H := Lib.hid h
  have HB := Lib.hid hB
  clear h hB
  go_enter Try.func63, Try.ntmps63
  go_wp2_with fail
  go_loopw [5, 8] (fun _ i wr => ∃ k : Nat, k ≤ n ∧ i = .int .i64 k ∧ allM z k = true ∧ Touch (fun _ => False) w wr) (fun _ i _ => n - (intOf i).toNat)
  case atStart => exact ⟨0, Nat.zero_le _, rfl, rfl, Touch.refl _ _⟩
  case round =>
    obtain ⟨k, hk, rfl, hall, ht⟩ := hrel
    have HA := Lib.hid hall
    have HT := Lib.hid ht
    clear hall ht
    by_cases hlt : k < n
    · obtain rfl := H.out.at_ (Nat.lt_of_le_of_lt (Nat.zero_le _) hlt)
      obtain ⟨k0, k1, k2⟩ := Stp.three (H.out.touch HT.out) hlt
      have hor : allM z (k + 1) = mayB (z k) := by rw [allM, HA.out]; rfl
      have hbw := fun w => bad_walk (z k) w
      obtain ⟨C, hC⟩ : ∃ C, mayB (z k) = C := ⟨_, rfl⟩
      rw [hC] at hor hbw
      unfold recV at hbw
      have HBW := Lib.hid hbw
      have HOR := Lib.hid hor
      have HM := Lib.hid (meas_u hlt)
      have HLT := Lib.hid hlt
      have hk5 : k ≤ 100000 := Nat.le_trans hk hn
      have fu1 := wrap_suc k hk5
      clear hor hbw hC hk hk5
      cases C with
      | true =>
        go_wp2_with fail
        refine (HBW.out _).mono ?_
        rintro e w1 ⟨rfl, t1⟩
        have T1 := Lib.hid (HT.out.trans t1)
        clear t1
        go_wp2_with fail
        go_roundw
        case rel => exact ⟨k + 1, HLT.out, by first | rfl | (rw [fu1]; go_num) | go_num, HOR.out, T1.out⟩
        case measure => first | exact HM.out | (rw [fu1]; exact HM.out)
      | false =>
        have hB2 : B = false := by
          rw [← HB.out]
          cases hh : allM z n with
          | false => rfl
          | true =>
            have h1 := (allM_iff z n).1 hh
            have h2 := (allM_iff z (k + 1)).2 (fun i hi => h1 i (Nat.lt_of_lt_of_le hi HLT.out))
            rw [HOR.out] at h2; cases h2
        subst hB2
        go_wp2_with fail
        refine (HBW.out _).mono ?_
        rintro e w1 ⟨rfl, t1⟩
        have T1 := Lib.hid (HT.out.trans t1)
        clear t1
        go_wp2_with fail
        go_ret
        exact ⟨_, rfl, by simp, T1.out⟩
    · obtain rfl : k = n := Nat.le_antisymm hk (Nat.not_lt.1 hlt)
      have hB2 : B = true := by rw [← HB.out, HA.out]
      subst hB2
      clear hlt hk
      go_wp2_with fail
      go_ret
      exact ⟨-1, rfl, by decide, HT.out⟩
theorem contM_walk (a : Option Addr) (b off n c : Nat) (z : Nat → Nat → Int) (w : World) (h : Stp w a b off n z) (hn : n ≤ 100000) (B : Bool) (hB : allM z n = B) :
    Calls Try.prog 35 #[.slice a n c, .func (.func 36) #[] #[]] w fun e w' => e = .returned (.bool (!B)) ∧ Touch (fun _ => False) w w' := by
  have HI := Lib.hid (fun w h => indexM_walk a b off n c z w h hn B hB)
  have H := Lib.hid h
  clear h hB
  go_enter Try.func35, Try.ntmps35
  go_wp2_with fail
  refine (HI.out _ H.out).mono ?_
  rintro e w1 ⟨r, rfl, hr, t1⟩
  go_wp2_with fail
  go_ret
  exact ⟨rfl, t1⟩
end Go.Proofs.Ythnhacbagmhfoaa

/- seqs: what Pack gives; two rows that grow side by side; the document's Pack. -/
namespace Go.Proofs.Ythnhacbagmhfoaa
open Go.RowKit Go.WideShapes Fs
set_option linter.unusedVariables false
set_option linter.unusedSimpArgs false
set_option maxRecDepth 100000

/-- The three numbers of a step as natural numbers; whether steps may be packed; their bytes. -/
def vLit (z : Nat → Nat → Int) (i : Nat) : Nat := (z i 0).toNat
def vMore (z : Nat → Nat → Int) (i : Nat) : Nat := (z i 2 - 4).toNat
def vOff (z : Nat → Nat → Int) (h : H3) (i : Nat) : Nat := (valO (fun i => z i 1) h i).toNat
def packOk (z : Nat → Nat → Int) (n : Nat) : Bool := decide (n ≤ 500) && allM z n
def packB (z : Nat → Nat → Int) (h : H3) (n : Nat) : List Nat :=
  if n = 0 then two2 0 else two2 n ++ rowB (vLit z) n ++ rowB (vOff z h) n ++ rowB (vMore z) n ++ extB (vLit z) (vOff z h) (vMore z) n
structure PackYes (z : Nat → Nat → Int) (h : H3) (n : Nat) (w w' : World) (r : Value) : Prop where
  row : RowU w' r (packB z h n)
  own : OwnB w.heap.size r
def PackPost (z : Nat → Nat → Int) (h : H3) (n : Nat) (w : World) (e : Ending) (w' : World) : Prop :=
  Touch (fun _ => False) w w' ∧ (packOk z n = false → e = .returned (.tuple #[.slice none 0 0, h.val, .bool false])) ∧
    (packOk z n = true → ∃ r, e = .returned (.tuple #[r, (histO (fun i => z i 1) h n).val, .bool true]) ∧ PackYes z h n w w' r)
theorem pack_no {z : Nat → Nat → Int} {h : H3} {n : Nat} {w w' : World} (hp : packOk z n = false) (ht : Touch (fun _ => False) w w') : PackPost z h n w (.returned (.tuple #[.slice none 0 0, h.val, .bool false])) w' :=
  ⟨ht, fun _ => rfl, fun (h' : packOk z n = true) => by rw [hp] at h'; cases h'⟩
theorem pack_yes {z : Nat → Nat → Int} {h : H3} {n : Nat} {w w' : World} {r : Value} (hp : packOk z n = true) (ht : Touch (fun _ => False) w w') (hy : PackYes z h n w w' r) : PackPost z h n w (.returned (.tuple #[r, (histO (fun i => z i 1) h n).val, .bool true])) w' :=
  ⟨ht, fun (h' : packOk z n = false) => (by rw [hp] at h'; cases h'), fun _ => ⟨_, rfl, hy⟩⟩
theorem may_iff {z : Nat → Int} : mayB z = true ↔ 0 ≤ z 0 ∧ z 0 ≤ 500 ∧ 1 ≤ z 1 ∧ z 1 ≤ 2500 ∧ 4 ≤ z 2 ∧ z 2 ≤ 500 := by unfold mayB; exact decide_eq_true_iff
theorem pack_ok {z : Nat → Nat → Int} {n : Nat} (h : packOk z n = true) : n ≤ 500 ∧ ∀ i, i < n → 0 ≤ z i 0 ∧ z i 0 ≤ 500 ∧ 1 ≤ z i 1 ∧ z i 1 ≤ 2500 ∧ 4 ≤ z i 2 ∧ z i 2 ≤ 500 := by
  unfold packOk at h
  rw [Bool.and_eq_true, decide_eq_true_iff] at h
  exact ⟨h.1, fun i hi => may_iff.1 ((allM_iff z n).1 h.2 i hi)⟩
theorem pack_many {z : Nat → Nat → Int} {n : Nat} (h : ¬ n ≤ 500) : packOk z n = false := by unfold packOk; rw [decide_eq_false h]; rfl
theorem pack_one {z : Nat → Nat → Int} {n k : Nat} (hk : k < n) (h : mayB (z k) = false) : packOk z n = false := by
  cases hh : packOk z n with
  | false => rfl
  | true =>
    unfold packOk at hh
    rw [Bool.and_eq_true] at hh
    rw [(allM_iff z n).1 hh.2 k hk] at h; cases h
theorem lit_cast {z : Nat → Nat → Int} {k : Nat} (h : mayB (z k) = true) : ((vLit z k : Nat) : Int) = z k 0 := by have := (may_iff.1 h); unfold vLit; omega
theorem more_cast {z : Nat → Nat → Int} {k : Nat} (h : mayB (z k) = true) : ((vMore z k : Nat) : Int) = z k 2 - 4 := by have := (may_iff.1 h); unfold vMore; omega
theorem more_wrapI {z : Nat → Nat → Int} {k : Nat} (h : mayB (z k) = true) : IntKind.i64.wrap (z k 2 - 4) = z k 2 - 4 := by have := (may_iff.1 h); exact IntWalk.i64_in _ (by omega)
theorem more_wrap {z : Nat → Nat → Int} {k : Nat} (h : mayB (z k) = true) : wrap64 (z k 2 - 4) = z k 2 - 4 := by have := (may_iff.1 h); unfold wrap64; omega

theorem results_cell3 {fn : Func} {s a q : Tmp} {t : TypeId} (h : fn.results = #[.tmp s, .cell a t, .tmp q]) (tmps : Array Value) (P : Program) (w : World) (p : Addr) (v : Value) (hp : tmps.getD a undef = .pointer (some p)) (hl : (loadVar t p).run P w = .ok v w) :
    (results fn tmps).run P w = .ok (.tuple #[tmps.getD s undef, v, tmps.getD q undef]) w := by
  have hp' : tmps[a]?.getD undef = .pointer (some p) := by simpa using hp
  simp [results, h, hp', asAddr, hl]

/-- Two rows of whole numbers that grow side by side. -/
structure Two (G : Nat) (w : World) (u v : Value) (k m : Nat) (zu zv : Nat → Int) : Prop where
  ru : w.ownsRow 0 3 1 u k (cellsZ .i64 zu k)
  rv : w.ownsRow 0 3 1 v m (cellsZ .i64 zv m)
  ou : OwnB G u
  ov : OwnB G v
  ap : ∀ b, u.ownBlock = some b → v.ownBlock ≠ some b
theorem Two.nil (G : Nat) (w : World) (zu zv : Nat → Int) : Two G w (.slice none 0 0) (.slice none 0 0) 0 0 zu zv := ⟨World.ownsRow_nil _ _ _ _, World.ownsRow_nil _ _ _ _, OwnB.nil _, OwnB.nil _, fun b hb => by cases hb⟩
theorem Two.touch {G : Nat} {w w' : World} {u v : Value} {k m : Nat} {zu zv : Nat → Int} (h : Two G w u v k m zu zv) (ht : Touch (fun _ => False) w w') : Two G w' u v k m zu zv :=
  ⟨ht.row h.ru (fun _ _ => id), ht.row h.rv (fun _ _ => id), h.ou, h.ov, h.ap⟩
theorem Two.left {G : Nat} {w w' : World} {u v u' : Value} {k m : Nat} {zu zv : Nat → Int} {x : Int} (h : Two G w u v k m zu zv) (hx : zu k = x) (hG : G ≤ w.heap.size)
    (hr : w'.ownsRow 0 3 1 u' (k + 1) (cellsZ .i64 zu k ++ [.int .i64 x])) (ht : Touch (fun b => u.ownBlock = some b) w w') (hf : Fresh w.heap.size u u') : Two G w' u' v (k + 1) m zu zv := by
  refine ⟨by rw [cellsZ_succ, hx]; exact hr, ht.row h.rv (fun b hb e => h.ap b e hb), h.ou.fresh hf hG, h.ov, fun b hb e => ?_⟩
  rcases hf with h1 | ⟨q, h1, h2⟩
  · rw [h1] at hb; exact h.ap b hb e
  · rw [h1] at hb; cases hb
    have := own_below h.rv e; omega
theorem Two.right {G : Nat} {w w' : World} {u v v' : Value} {k m : Nat} {zu zv : Nat → Int} {x : Int} (h : Two G w u v k m zu zv) (hx : zv m = x) (hG : G ≤ w.heap.size)
    (hr : w'.ownsRow 0 3 1 v' (m + 1) (cellsZ .i64 zv m ++ [.int .i64 x])) (ht : Touch (fun b => v.ownBlock = some b) w w') (hf : Fresh w.heap.size v v') : Two G w' u v' k (m + 1) zu zv := by
  refine ⟨ht.row h.ru (fun b hb e => h.ap b hb e), by rw [cellsZ_succ, hx]; exact hr, h.ou, h.ov.fresh hf hG, fun b hb e => ?_⟩
  rcases hf with h1 | ⟨q, h1, h2⟩
  · rw [h1] at e; exact h.ap b hb e
  · rw [h1] at e; cases e
    have := own_below h.ru hb; omega

/-- Two rows that grow, and all below them stays. -/
structure TwoC (G : Nat) (w0 w : World) (u v : Value) (k m : Nat) (zu zv : Nat → Int) : Prop where
  t : Two G w u v k m zu zv
  bl : Touch (fun b => G ≤ b) w0 w
  sz : G ≤ w.heap.size
theorem TwoC.new {G : Nat} {w0 w : World} {u v : Value} {k m : Nat} {zu zv : Nat → Int} (h : TwoC G w0 w u v k m zu zv) {q : Obj} : TwoC G w0 (w.alloc q) u v k m zu zv :=
  ⟨h.t.touch (Touch.new _ _), h.bl.trans ((Touch.refl _ w).alloc q), Nat.le_trans h.sz (Touch.new _ _).size⟩
theorem TwoC.left {G : Nat} {w0 w w' : World} {u v u' : Value} {k m : Nat} {zu zv : Nat → Int} {x : Int} (h : TwoC G w0 w u v k m zu zv) (hx : zu k = x)
    (hr : w'.ownsRow 0 3 1 u' (k + 1) (cellsZ .i64 zu k ++ [.int .i64 x])) (ht : Touch (fun b => u.ownBlock = some b) w w') (hf : Fresh w.heap.size u u') : TwoC G w0 w' u' v (k + 1) m zu zv :=
  ⟨h.t.left hx h.sz hr ht hf, h.bl.trans (ht.mono (fun b _ e => h.t.ou b e)), Nat.le_trans h.sz ht.size⟩
theorem TwoC.right {G : Nat} {w0 w w' : World} {u v v' : Value} {k m : Nat} {zu zv : Nat → Int} {x : Int} (h : TwoC G w0 w u v k m zu zv) (hx : zv m = x)
    (hr : w'.ownsRow 0 3 1 v' (m + 1) (cellsZ .i64 zv m ++ [.int .i64 x])) (ht : Touch (fun b => v.ownBlock = some b) w w') (hf : Fresh w.heap.size v v') : TwoC G w0 w' u v' k (m + 1) zu zv :=
  ⟨h.t.right hx h.sz hr ht hf, h.bl.trans (ht.mono (fun b _ e => h.t.ov b e)), Nat.le_trans h.sz ht.size⟩
theorem TwoC.cell {G : Nat} {w0 w : World} {u v : Value} {k m : Nat} {zu zv : Nat → Int} (h : TwoC G w0 w u v k m zu zv) {b o : Nat} {x : Value} (hb : b < G) (hc : w0.cell? ⟨b, o, none⟩ = some x) : w.cell? ⟨b, o, none⟩ = some x :=
  h.bl.cell hc (fun e => absurd hb (Nat.not_lt.2 e))

theorem recs_touch {w w' : World} {a : Option Addr} {b o l c : Nat} {z : Nat → Nat → Int} (h : RecsIn 3 w a b o l c z) (ht : Touch (fun _ => False) w w') : RecsIn 3 w' a b o l c z :=
  ⟨h.at_, fun k => Nat.lt_of_lt_of_le (h.lt k) ht.size, h.le, h.max, fun i hi j hj => ht.cell (h.cell i hi j hj) id, h.wf⟩
theorem val_bd {h : H3} {off : Int} (h1 : 1 ≤ off) (h2 : off ≤ 2500) : 0 ≤ valH h off ∧ valH h off ≤ 2502 := by
  unfold valH idxH
  by_cases e1 : h.a = off
  · simp [e1]
  · by_cases e2 : h.b = off
    · simp [e1, e2]
    · by_cases e3 : h.c = off
      · simp [e1, e2, e3]
      · simp [e1, e2, e3]; omega
theorem pack_lt {z : Nat → Nat → Int} {h : H3} {n : Nat} (hp : packOk z n = true) {i : Nat} (hi : i < n) : vLit z i < 32768 ∧ vOff z h i < 32768 ∧ vMore z i < 32768 := by
  obtain ⟨a, b, c, d, e, f⟩ := (pack_ok hp).2 i hi
  have := val_bd (h := histO (fun i => z i 1) h i) c d
  unfold vLit vOff vMore valO
  simp only
  omega
theorem off_cast {z : Nat → Nat → Int} {h : H3} {n : Nat} (hp : packOk z n = true) {i : Nat} (hi : i < n) : valO (fun i => z i 1) h i = ((vOff z h i : Nat) : Int) := by
  obtain ⟨a, b, c, d, e, f⟩ := (pack_ok hp).2 i hi
  have := val_bd (h := histO (fun i => z i 1) h i) c d
  unfold vOff valO
  simp only
  omega
theorem off_bd {z : Nat → Nat → Int} {n : Nat} (hp : packOk z n = true) {i : Nat} (hi : i < n) : 0 ≤ z i 1 ∧ z i 1 ≤ 1073741824 := by
  have := (pack_ok hp).2 i hi; omega

theorem rowB_len {v : Nat → Nat} {n : Nat} (hn : 0 < n) (hn5 : n ≤ 500) (hv : ∀ i, i < n → v i < 32768) : (rowB v n).length ≤ 1000 := by
  have := rowD_len hn hn5 hv
  unfold rowB
  rw [List.length_append, List.length_append, row_len, bytesL_len]; simp [two2]; omega
theorem extB_len {vl vo vm : Nat → Nat} {n : Nat} (hn5 : n ≤ 500) : (extB vl vo vm n).length ≤ 5000 := by
  have := extL_len vl vo vm n n
  unfold extB
  rw [List.length_append, bytesL_len]; simp [two2]; omega
theorem Ints.past {k : IntKind} {w w' : World} {a : Option Addr} {b off n G : Nat} {z : Nat → Int} (h : Ints k w a b off n z) (hb : b < G) (t : Touch (fun q => G ≤ q) w w') : Ints k w' a b off n z :=
  Ints.touchS h t (fun _ e => absurd hb (Nat.not_lt.2 e))
/-- Bytes that are laid behind each other in new memory. -/
structure Acc (G : Nat) (w0 w : World) (v : Value) (n : Nat) (l : List Nat) : Prop where
  row : w.ownsRow 0 5 1 v n (u8L l)
  len : l.length = n
  own : OwnB G v
  bl : Touch (fun q => G ≤ q) w0 w
  sz : G ≤ w.heap.size
theorem Acc.touch {G : Nat} {w0 w w' : World} {v : Value} {n : Nat} {l : List Nat} (h : Acc G w0 w v n l) (t : Touch (fun _ => False) w w') : Acc G w0 w' v n l :=
  ⟨t.row h.row (fun _ _ => id), h.len, h.own, h.bl.trans (t.mono (fun _ _ e => e.elim)), Nat.le_trans h.sz t.size⟩
theorem Acc.app {G : Nat} {w0 w w' : World} {v v' : Value} {n m : Nat} {l l' : List Nat} (h : Acc G w0 w v n l) (hr : w'.ownsRow 0 5 1 v' (n + m) (u8L l ++ u8L l')) (hm : l'.length = m) (t : Touch (fun k => v.ownBlock = some k) w w') (f : Fresh w.heap.size v v') : Acc G w0 w' v' (n + m) (l ++ l') :=
  ⟨by rw [u8L_app]; exact hr, by rw [List.length_append, h.len, hm], h.own.fresh f h.sz, h.bl.trans (t.mono (fun q _ e => h.own q e)), Nat.le_trans h.sz t.size⟩
theorem Acc.start {w0 w : World} {l : List Nat} {n : Nat} (hr : RowU w (.slice (some ⟨w0.heap.size, 0, none⟩) n n) l) (hn : l.length = n) (t : Touch (fun _ => False) w0 w) : Acc w0.heap.size w0 w (.slice (some ⟨w0.heap.size, 0, none⟩) n n) n l :=
  ⟨by have := hr; unfold RowU at this; rw [hn] at this; exact this, hn, OwnB.here' w0 n n, t.mono (fun _ _ e => e.elim), t.size⟩

theorem RowU.src {w : World} {v : Value} {l : List Nat} {n : Nat} (h : RowU w v l) (hn : l.length = n) : ∃ a c, v = .slice a n c ∧ Src Try.prog 1 28 (.slice a n c) n (u8L l) w := by
  subst hn
  obtain ⟨a, b, c, rfl, hb⟩ := h.bytes
  exact ⟨a, c, rfl, hb.src c⟩
theorem rrow_src (a : Option Addr) (b off n c : Nat) (v : Nat → Nat) (w : World) (h : Ints .i64 w a b off n (fun i => (v i : Int))) (hn : 0 < n) (hn5 : n ≤ 500) (hv : ∀ i, i < n → v i < 32768) {L : List Nat} {m : Nat} (hL : rowB v n = L) (hm : L.length = m) :
    Calls Try.prog 50 #[.slice a n c] w fun e w' => ∃ ra rc, e = .returned (.slice ra m rc) ∧ Src Try.prog 1 28 (.slice ra m rc) m (u8L L) w' ∧ Touch (fun _ => False) w w' := by
  refine (rrow_walk a b off n c v w h hn hn5 hv).mono ?_
  rintro e w1 ⟨r, rfl, hr, _, t⟩
  rw [hL] at hr
  obtain ⟨ra, rc, rfl, hs⟩ := hr.src hm
  exact ⟨ra, rc, rfl, hs, t⟩
theorem row_src (a : Option Addr) (b off n c : Nat) (v : Nat → Nat) (w : World) (h : Ints .i64 w a b off n (fun i => (v i : Int))) (hn : 0 < n) (hn5 : n ≤ 500) (hv : ∀ i, i < n → v i < 32768) {L : List Nat} {m : Nat} (hL : rowB v n = L) (hm : L.length = m) :
    Calls Try.prog 39 #[.slice a n c] w fun e w' => ∃ ra rc, e = .returned (.slice ra m rc) ∧ Src Try.prog 1 28 (.slice ra m rc) m (u8L L) w' ∧ Touch (fun _ => False) w w' := by
  refine (row_walk a b off n c v w h hn hn5 hv).mono ?_
  rintro e w1 ⟨r, rfl, hr, _, t⟩
  rw [hL] at hr
  obtain ⟨ra, rc, rfl, hs⟩ := hr.src hm
  exact ⟨ra, rc, rfl, hs, t⟩
theorem ext_src (al ao am : Option Addr) (bl bo bm cl co cm n : Nat) (vl vo vm : Nat → Nat) (w : World) (hl : Ints .i64 w al bl 0 n (fun i => (vl i : Int))) (ho : Ints .i64 w ao bo 0 n (fun i => (vo i : Int))) (hm : Ints .i64 w am bm 0 n (fun i => (vm i : Int)))
    (hn : n ≤ 500) (kl : ∀ i, i < n → vl i < 32768) (ko : ∀ i, i < n → vo i < 32768) (km : ∀ i, i < n → vm i < 32768) {L : List Nat} {m : Nat} (hL : extB vl vo vm n = L) (hm2 : L.length = m) :
    Calls Try.prog 51 #[.slice al n cl, .slice ao n co, .slice am n cm] w fun e w' => ∃ ra rc, e = .returned (.slice ra m rc) ∧ Src Try.prog 1 28 (.slice ra m rc) m (u8L L) w' ∧ Touch (fun _ => False) w w' := by
  refine (extras_walk al ao am bl bo bm cl co cm n vl vo vm w hl ho hm hn kl ko km).mono ?_
  rintro e w1 ⟨r, rfl, hr, _, t⟩
  rw [hL] at hr
  obtain ⟨ra, rc, rfl, hs⟩ := hr.src hm2
  exact ⟨ra, rc, rfl, hs, t⟩

set_option maxHeartbeats 4000000 in
theorem rpack_walk (w : World) (a0 : Option Addr) (b0 o0 l0 c0 : Nat) (z0 : Nat → Nat → Int) (w0 : RecsIn 3 w a0 b0 o0 l0 c0 z0) (h : H3) (hl : l0 ≤ 100000) :
    Calls Try.prog 25 #[.slice a0 l0 c0, h.val] w (PackPost z0 h l0 w) := by
  obtain ⟨i0, hi, hz0, hz1, hz2⟩ := info_parts Try.info3
  obtain ⟨j0, hj, hj0, hj1, hj2⟩ := info_parts Try.info5c
  have W0 := Lib.hid w0
  obtain ⟨Q, hQ⟩ : ∃ Q, PackPost z0 h l0 w = Q := ⟨_, rfl⟩
  rw [hQ]
  have HQ := Lib.hid hQ
  clear w0 hQ
  by_cases h5 : l0 ≤ 500
  · have hd5 : decide ((500 : Int) < l0) = false := decide_eq_false (by omega)
    unfold H3.val arr3
    go_enter Try.func25, Try.ntmps25
    go_wp2_with fail
    go_loopw [7, 8, 9] (fun u v i wr => ∃ k : Nat, k ≤ l0 ∧ i = .int .i64 k ∧ allM z0 k = true ∧ Two (w.heap.size + 2) wr u v k k (fun i => (vLit z0 i : Int)) (fun i => (vMore z0 i : Int)) ∧ Arr wr w.heap.size h ∧ Arr wr (w.heap.size + 1) ⟨0, 0, 0⟩ ∧ Touch (fun _ => False) w wr) (fun _ _ i _ => l0 - (intOf i).toNat)
    case atStart => exact ⟨0, Nat.zero_le _, rfl, rfl, Two.nil _ _ _ _, Arr.touch (h := h) (heap_alloc_new w _) ((Touch.refl (fun _ => False) _).alloc _) id, heap_alloc_2 _ _ _, ((Touch.refl _ _).alloc _).alloc _⟩
    case round =>
      obtain ⟨k, hk, rfl, hall, htwo, hA, hB, ht⟩ := hrel
      have HALL := Lib.hid hall
      have HTW := Lib.hid htwo
      have HA := Lib.hid hA
      have HB := Lib.hid hB
      have HT := Lib.hid ht
      clear hall htwo hA hB ht
      by_cases hlt : k < l0
      · obtain rfl := W0.out.at_ (Nat.lt_of_le_of_lt (Nat.zero_le _) hlt)
        obtain ⟨e0, e1, e2⟩ := rec3 W0.out HT.out hlt
        obtain ⟨x0, hx0⟩ : ∃ x, z0 k 0 = x := ⟨_, rfl⟩
        obtain ⟨x1, hx1⟩ : ∃ x, z0 k 1 = x := ⟨_, rfl⟩
        obtain ⟨x2, hx2⟩ : ∃ x, z0 k 2 = x := ⟨_, rfl⟩
        have hmw := fun w => rmay_walk (z0 k) w
        unfold recV at hmw
        rw [hx0] at e0
        rw [hx1] at e1
        rw [hx2] at e2
        rw [hx0, hx1, hx2] at hmw
        have HX0 := Lib.hid hx0
        have HX2 := Lib.hid hx2
        obtain ⟨C, hC⟩ : ∃ C, mayB (z0 k) = C := ⟨_, rfl⟩
        rw [hC] at hmw
        have HMW := Lib.hid hmw
        have HLT := Lib.hid hlt
        have HM := Lib.hid (meas_u hlt)
        have fu1 := wrap_suc k (Nat.le_trans (Nat.le_of_lt hlt) hl)
        have HC := Lib.hid hC
        clear hx0 hx1 hx2 hmw hC
        cases C with
        | false =>
          have hno := pack_one HLT.out HC.out
          go_wp2_with fail
          refine (HMW.out _).mono ?_
          rintro e w1 ⟨rfl, t1⟩
          have T1 := Lib.hid (HT.out.trans t1)
          have HA1 := Lib.hid (HA.out.touch t1 id)
          have HB1 := Lib.hid (HB.out.touch t1 id)
          clear t1
          obtain ⟨c0', c1', c2'⟩ := HA1.out.cells
          obtain ⟨f0, f1, f2⟩ := HB1.out.cells
          have g0 := HB1.out.free 0
          have g1 := HB1.out.free 1
          have g2 := HB1.out.free 2
          go_wp2_with fail
          go_region
          all_goals
            go_wp2_with fail
            have ha := HB1.out.put h
            have ht' := T1.out.then (touch_put3 w1 (w.heap.size + 1) h) (fun i hi e => by omega)
            refine bodyPost_ret (results_cell3 rfl _ _ _ _ _ rfl (Arr.load (h := h) (b := w.heap.size + 1) ha)) rfl ?_
            rw [← HQ.out]
            exact pack_no hno ht'.drew
        | true =>
          have hz4 := more_wrap HC.out
          have hvl := lit_cast HC.out
          have hvm := more_cast HC.out
          have hall2 : allM z0 (k + 1) = true := by rw [allM, HALL.out, HC.out]; rfl
          rw [HX2.out] at hz4 hvm
          rw [HX0.out] at hvl
          have HVL := Lib.hid hvl
          have HVM := Lib.hid hvm
          have HALL2 := Lib.hid hall2
          have hz5 := more_wrapI HC.out
          rw [HX2.out] at hz5
          clear hvl hvm hall2
          go_wp2_with fail
          refine (HMW.out _).mono ?_
          rintro e w1 ⟨rfl, t1⟩
          have HTW1 := Lib.hid (HTW.out.touch t1)
          have HA1 := Lib.hid (HA.out.touch t1 id)
          have HB1 := Lib.hid (HB.out.touch t1 id)
          have T1 := Lib.hid (HT.out.trans t1)
          obtain ⟨e0, e1, e2⟩ := rec3 W0.out T1.out.drew hlt
          rw [HX0.out] at e0
          rw [HX2.out] at e2
          clear t1
          go_wp2_with fail
          have HTWD := Lib.hid (⟨HTW1.out.touch (Touch.refl _ w1).drew, (Touch.refl _ w1).drew, lt_of_block HB1.out⟩ : TwoC (w.heap.size + 2) w1 w1.drew u7 u8 k k (fun i => (vLit z0 i : Int)) (fun i => (vMore z0 i : Int)))
          have HB0 := Lib.hid (Nat.lt_of_lt_of_le (W0.out.lt (Nat.lt_of_le_of_lt (Nat.zero_le _) hlt)) (Nat.le_add_right _ 2))
          have HE := Lib.hid (rec3 W0.out T1.out hlt)
          rw [HX0.out, HX2.out] at HE
          have HMX := Lib.hid (app_500 HLT.out h5)
          go_region_held3 (fun wx => wx.cell? ⟨b0, o0 + k * 3, none⟩ = some (.int .i64 x0) ∧ wx.cell? ⟨b0, o0 + k * 3 + 2, none⟩ = some (.int .i64 x2)) (first | exact ⟨e0, e2⟩ | exact ⟨(HTWD.out.new).cell HB0.out HE.out.1, (HTWD.out.new).cell HB0.out HE.out.2.2⟩ | exact ⟨(HTWD.out.new.new).cell HB0.out HE.out.1, (HTWD.out.new.new).cell HB0.out HE.out.2.2⟩ | exact ⟨(T2L).cell HB0.out HE.out.1, (T2L).cell HB0.out HE.out.2.2⟩ | exact ⟨(T2L.new).cell HB0.out HE.out.1, (T2L.new).cell HB0.out HE.out.2.2⟩ | exact ⟨(T2M).cell HB0.out HE.out.1, (T2M).cell HB0.out HE.out.2.2⟩ | exact ⟨(T2M.new).cell HB0.out HE.out.1, (T2M.new).cell HB0.out HE.out.2.2⟩) (first
            | (refine step_append_mine rfl (.tmp 30) (.tmp 36) 43 43 rfl 3 i0 (.int .i64 0) 1 8 Try.underlying43 hi hz0 hz1 hz2 rfl u7 k _ rfl (by first | exact HTWD.out.new.t.ru | exact HTWD.out.new.new.t.ru | exact T2M.new.t.ru | exact T2M.t.ru) _ 1 [.int .i64 x0] rfl (src_at _ Try.underlying43 (.int .i64 x0) rfl _ (by first | exact heap_alloc_new _ _ | exact (Touch.new _ _).heap (heap_alloc_new _ _) id | exact htM.heap (heap_alloc_new _ _) (fun e => by first | exact Nat.lt_irrefl _ (own_below HTWD.out.t.rv e) | exact Nat.lt_irrefl _ (own_below HTWD.out.new.t.rv e)) | exact heap_alloc_2 _ _ _ | exact htM.heap (heap_alloc_2 _ _ _) (fun e => absurd (own_below HTWD.out.t.rv e) (Nat.not_lt.2 (Nat.le_add_right _ 1))) | exact htM.heap ((Touch.new _ _).heap (heap_alloc_new _ _) id) (fun e => by first | exact Nat.lt_irrefl _ (own_below HTWD.out.t.rv e) | exact Nat.lt_irrefl _ (own_below HTWD.out.new.t.rv e)) | exact (Touch.new _ _).heap (htM.heap (heap_alloc_new _ _) (fun e => by first | exact Nat.lt_irrefl _ (own_below HTWD.out.t.rv e) | exact Nat.lt_irrefl _ (own_below HTWD.out.new.t.rv e))) id)) HMX.out.1 HMX.out.2 ?_; intro aL cL wL hownL htL hfL _; have T2L := TwoC.left (k := k) (zu := fun i => (vLit z0 i : Int)) (zv := fun i => (vMore z0 i : Int)) (by first | exact HTWD.out.new | exact HTWD.out.new.new | exact T2M.new | exact T2M) HVL.out hownL htL hfL)
            | (refine step_append_mine rfl (.tmp 38) (.tmp 45) 43 43 rfl 3 i0 (.int .i64 0) 1 8 Try.underlying43 hi hz0 hz1 hz2 rfl u8 k _ rfl (by first | exact HTWD.out.new.t.rv | exact HTWD.out.new.new.t.rv | exact T2L.new.t.rv | exact T2L.t.rv) _ 1 [.int .i64 (x2 - 4)] rfl (src_at _ Try.underlying43 (.int .i64 (x2 - 4)) rfl _ (by first | exact heap_alloc_new _ _ | exact (Touch.new _ _).heap (heap_alloc_new _ _) id | exact htL.heap (heap_alloc_new _ _) (fun e => by first | exact Nat.lt_irrefl _ (own_below HTWD.out.t.ru e) | exact Nat.lt_irrefl _ (own_below HTWD.out.new.t.ru e)) | exact heap_alloc_2 _ _ _ | exact htL.heap (heap_alloc_2 _ _ _) (fun e => absurd (own_below HTWD.out.t.ru e) (Nat.not_lt.2 (Nat.le_add_right _ 1))) | exact htL.heap ((Touch.new _ _).heap (heap_alloc_new _ _) id) (fun e => by first | exact Nat.lt_irrefl _ (own_below HTWD.out.t.ru e) | exact Nat.lt_irrefl _ (own_below HTWD.out.new.t.ru e)) | exact (Touch.new _ _).heap (htL.heap (heap_alloc_new _ _) (fun e => by first | exact Nat.lt_irrefl _ (own_below HTWD.out.t.ru e) | exact Nat.lt_irrefl _ (own_below HTWD.out.new.t.ru e))) id)) HMX.out.1 HMX.out.2 ?_; intro aM cM wM hownM htM hfM _; have T2M := TwoC.right (m := k) (zu := fun i => (vLit z0 i : Int)) (zv := fun i => (vMore z0 i : Int)) (by first | exact HTWD.out.new | exact HTWD.out.new.new | exact T2L.new | exact T2L) HVM.out hownM htM hfM))
          all_goals
            first | have TF := (T2M : TwoC _ _ _ _ _ (k + 1) (k + 1) _ _) | have TF := (T2L : TwoC _ _ _ _ _ (k + 1) (k + 1) _ _)
            have HTF := Lib.hid TF.t
            have HAF := Lib.hid (HA1.out.touch TF.bl (fun e => absurd e (by omega)))
            have HBF := Lib.hid (HB1.out.touch TF.bl (fun e => absurd e (by omega)))
            have HTT := Lib.hid (T1.out.then TF.bl (fun i hi e => by omega))
            clear HTWD T2L T2M HTW1 HA1 HB1 T1 HA HB HT HTW TF
            go_wp2_with fail
            go_roundw
            case rel => exact ⟨k + 1, HLT.out, by first | rfl | (rw [fu1]; go_num) | go_num, HALL2.out, HTF.out, HAF.out, HBF.out, HTT.out⟩
            case measure => first | exact HM.out | (rw [fu1]; exact HM.out)
      · obtain rfl : k = l0 := Nat.le_antisymm hk (Nat.not_lt.1 hlt)
        have hyes : packOk z0 k = true := by unfold packOk; rw [HALL.out, decide_eq_true h5]; rfl
        have HY := Lib.hid hyes
        clear hlt hk hyes
        obtain ⟨c0', c1', c2'⟩ := HA.out.cells
        by_cases hk0 : k = 0
        · subst hk0
          have HTWO := Lib.hid (fun w => two_walk 0 (by decide) w)
          go_wp2_with fail
          go_region_held3 (fun wx => wx.cell? ⟨w.heap.size, 0, none⟩ = some (.int .i64 h.a) ∧ wx.cell? ⟨w.heap.size, 1, none⟩ = some (.int .i64 h.b) ∧ wx.cell? ⟨w.heap.size, 2, none⟩ = some (.int .i64 h.c)) (first | exact ⟨c0', c1', c2'⟩ | exact ⟨t1.cell c0' id, t1.cell c1' id, t1.cell c2' id⟩ | exact ⟨(touch_put3 w1 (w.heap.size + 1) h).cell (t1.cell c0' id) (Nat.ne_of_lt (Nat.lt_succ_self _)), (touch_put3 w1 (w.heap.size + 1) h).cell (t1.cell c1' id) (Nat.ne_of_lt (Nat.lt_succ_self _)), (touch_put3 w1 (w.heap.size + 1) h).cell (t1.cell c2' id) (Nat.ne_of_lt (Nat.lt_succ_self _))⟩) (first
            | (go_at_call 49; refine (HTWO.out _).mono ?_; rintro e w1 ⟨rfl, r1, t1⟩; have HB1 := HB.out.touch ((Touch.refl _ wr).drew.trans t1) id; obtain ⟨f0, f1, f2⟩ := HB1.cells; have g0 := HB1.free 0; have g1 := HB1.free 1; have g2 := HB1.free 2))
          all_goals
            have HR1 := Lib.hid r1
            have T1 := Lib.hid t1
            have HB1' := Lib.hid HB1
            clear r1 t1 HB1 f0 f1 f2 g0 g1 g2 c0' c1' c2'
            go_wp2_with fail
            have hlt1 := lt_of_block HB.out
            have ha := HB1'.out.put h
            have tp := touch_put3 w1 (w.heap.size + 1) h
            have ht' := (HT.out.drew.trans T1.out).then tp (fun i hi e => by omega)
            refine bodyPost_ret (results_cell3 rfl _ _ _ _ _ rfl (Arr.load (h := h) (b := w.heap.size + 1) ha)) rfl ?_
            rw [← HQ.out]
            exact pack_yes HY.out ht' ⟨tp.row HR1.out (fun q hq e => by simp [Value.ownBlock] at hq; omega), (OwnB.here' wr 2 2).mono (by omega)⟩
        · have hk1 : 0 < k := Nat.pos_of_ne_zero hk0
          have hz0 : ((k : Int) == 0) = false := by simpa using hk0
          have HOF := Lib.hid (fun w w0 => ref_offsets w a0 b0 o0 k c0 z0 w0 h hl (fun i hi => off_bd HY.out hi))
          have HOC := Lib.hid (fun i hi => off_cast (h := h) HY.out (i := i) hi)
          obtain ⟨H2, hH2⟩ : ∃ H2, histO (fun i => z0 i 1) h k = H2 := ⟨_, rfl⟩
          rw [hH2] at HOF
          have HH2 := Lib.hid hH2
          have HL := Lib.hid (fun i (hi : i < k) => pack_lt (h := h) HY.out hi)
          obtain ⟨xl, xlb, xlc, hvl, hil⟩ := ints_row HTW.out.ru
          obtain ⟨xm, xmb, xmc, hvm, him⟩ := ints_row HTW.out.rv
          subst hvl hvm
          have HIL := Lib.hid hil
          have HIM := Lib.hid him
          have HK1 := Lib.hid hk1
          clear hH2 hil him hk1 hk0
          unfold H3.val arr3 at HOF
          go_wp2_with fail
          refine (HOF.out _ (recs_touch W0.out HT.out)).mono ?_
          rintro e w1 ⟨v1, rfl, out1⟩
          have hro := out1.row
          rw [cellsZ_congr (fun i hi => HOC.out i hi)] at hro
          obtain ⟨xo, xob, xoc, hvo, hio⟩ := ints_row hro
          subst hvo
          have T1 := Lib.hid (HT.out.trans out1.touch)
          have HIL1 := Lib.hid (Ints.touch HIL.out out1.touch)
          have HIM1 := Lib.hid (Ints.touch HIM.out out1.touch)
          have HIO1 := Lib.hid hio
          have hB1 := HB.out.touch out1.touch id
          have tn := Touch.new w1 (.cells #[.int .i64 H2.a, .int .i64 H2.b, .int .i64 H2.c] 31)
          have hG := heap_alloc_new w1 (.cells #[.int .i64 H2.a, .int .i64 H2.b, .int .i64 H2.c] 31)
          have hsz := lt_of_block hG
          clear hro hio out1
          go_wp2_with fail
          obtain ⟨wa, hwa⟩ : ∃ wa, w1.alloc (.cells #[.int .i64 H2.a, .int .i64 H2.b, .int .i64 H2.c] 31) = wa := ⟨_, rfl⟩
          rw [hwa] at tn hG hsz ⊢
          have h1s := T1.out.size
          have hwr := lt_of_block HB.out
          have h1r := lt_of_block hB1
          have HG := Lib.hid (show Arr wa w1.heap.size H2 from hG)
          have HGS := Lib.hid (show w1.heap.size < wa.heap.size by omega)
          have HBS := Lib.hid (show w.heap.size + 1 < wa.heap.size by omega)
          have HWS := Lib.hid (show w.heap.size ≤ wa.heap.size by omega)
          have HNE := Lib.hid (show w1.heap.size ≠ w.heap.size + 1 by omega)
          have HBa := Lib.hid (hB1.touch tn id)
          have HTa := Lib.hid (T1.out.trans tn)
          have HIL2 := Lib.hid (Ints.touch HIL1.out tn)
          have HIM2 := Lib.hid (Ints.touch HIM1.out tn)
          have HIO2 := Lib.hid (Ints.touch HIO1.out tn)
          have HLL := Lib.hid (ints_lt HIL2.out HK1.out)
          have HLM := Lib.hid (ints_lt HIM2.out HK1.out)
          have HLO := Lib.hid (ints_lt HIO2.out HK1.out)
          have hbl := rowB_len HK1.out h5 (fun i hi => (HL.out i hi).1)
          have hbo := rowB_len HK1.out h5 (fun i hi => (HL.out i hi).2.1)
          have hbm := rowB_len HK1.out h5 (fun i hi => (HL.out i hi).2.2)
          have hbe := extB_len (vl := vLit z0) (vo := vOff z0 h) (vm := vMore z0) h5
          have hpb : packB z0 h k = two2 k ++ rowB (vLit z0) k ++ rowB (vOff z0 h) k ++ rowB (vMore z0) k ++ extB (vLit z0) (vOff z0 h) (vMore z0) k := by
            unfold packB; rw [if_neg (Nat.ne_of_gt HK1.out)]
          obtain ⟨RL, hRL⟩ : ∃ x, rowB (vLit z0) k = x := ⟨_, rfl⟩
          obtain ⟨RO, hRO⟩ : ∃ x, rowB (vOff z0 h) k = x := ⟨_, rfl⟩
          obtain ⟨RM, hRM⟩ : ∃ x, rowB (vMore z0) k = x := ⟨_, rfl⟩
          obtain ⟨RE, hRE⟩ : ∃ x, extB (vLit z0) (vOff z0 h) (vMore z0) k = x := ⟨_, rfl⟩
          rw [hRL, hRO, hRM, hRE] at hpb
          rw [hRL] at hbl
          rw [hRO] at hbo
          rw [hRM] at hbm
          rw [hRE] at hbe
          obtain ⟨NL, hNL⟩ : ∃ x, RL.length = x := ⟨_, rfl⟩
          obtain ⟨NO, hNO⟩ : ∃ x, RO.length = x := ⟨_, rfl⟩
          obtain ⟨NM, hNM⟩ : ∃ x, RM.length = x := ⟨_, rfl⟩
          obtain ⟨NE, hNE⟩ : ∃ x, RE.length = x := ⟨_, rfl⟩
          rw [hNL] at hbl
          rw [hNO] at hbo
          rw [hNM] at hbm
          rw [hNE] at hbe
          have HX1 := Lib.hid (max_len (n := 2 + NL) (by omega))
          have HX2 := Lib.hid (max_len (n := 2 + NL + NO) (by omega))
          have HX3 := Lib.hid (max_len (n := 2 + NL + NO + NM) (by omega))
          have HX4 := Lib.hid (max_len (n := 2 + NL + NO + NM + NE) (by omega))
          have HRL := Lib.hid (fun w h => rrow_src xl xlb 0 k xlc (vLit z0) w h HK1.out h5 (fun i hi => (HL.out i hi).1) hRL hNL)
          have HRO := Lib.hid (fun w h2 => rrow_src xo xob 0 k xoc (vOff z0 h) w h2 HK1.out h5 (fun i hi => (HL.out i hi).2.1) hRO hNO)
          have HRM := Lib.hid (fun w h => rrow_src xm xmb 0 k xmc (vMore z0) w h HK1.out h5 (fun i hi => (HL.out i hi).2.2) hRM hNM)
          have HRE := Lib.hid (fun w h1 h2 h3 => ext_src xl xo xm xlb xob xmb xlc xoc xmc k (vLit z0) (vOff z0 h) (vMore z0) w h1 h2 h3 h5 (fun i hi => (HL.out i hi).1) (fun i hi => (HL.out i hi).2.1) (fun i hi => (HL.out i hi).2.2) hRE hNE)
          have HPB := Lib.hid hpb
          have HNL := Lib.hid hNL
          have HNO := Lib.hid hNO
          have HNM := Lib.hid hNM
          have HNEx := Lib.hid hNE
          have HTW2 := Lib.hid (fun w => two_walk k (Nat.le_trans h5 (by decide)) w)
          clear hwa h1s hwr h1r hG hsz hB1 tn hbl hbo hbm hbe hpb hRL hRO hRM hRE hNL hNO hNM hNE c0' c1' c2' HIL1 HIM1 HIO1 T1 HIL HIM HTW
          refine (HTW2.out _).mono ?_
          rintro e w2 ⟨rfl, r2, t2⟩
          have HA2 := Lib.hid (Acc.start r2 rfl t2)
          clear r2 t2
          go_wp2_with fail
          refine (HRL.out _ (HIL2.out.past HLL.out HA2.out.bl)).mono ?_
          rintro e w3 ⟨ra3, rc3, rfl, s3, t3⟩
          have HA3 := Lib.hid (HA2.out.touch t3)
          have HS3 := Lib.hid s3
          clear s3 t3
          go_wp2_with (first
            | (refine wpList_append_mine rfl (.tmp 60) (.tmp 62) 28 28 rfl 5 j0 (.int .u8 0) 1 1 Try.underlying28 hj hj0 hj1 hj2 rfl (.slice (some ⟨wa.heap.size, 0, none⟩) 2 2) 2 (u8L (two2 k)) rfl HA3.out.row (.slice ra3 NL rc3) NL (u8L RL) rfl HS3.out HX1.out.1 HX1.out.2 ?_; intro a4 c4 w4 hown4 ht4 hf4 _; have HA4 := Lib.hid (HA3.out.app hown4 HNL.out ht4 hf4); clear hown4 ht4 hf4))
          refine (HRO.out _ (HIO2.out.past HLO.out HA4.out.bl)).mono ?_
          rintro e w5 ⟨ra5, rc5, rfl, s5, t5⟩
          have HA5 := Lib.hid (HA4.out.touch t5)
          have HS5 := Lib.hid s5
          clear s5 t5
          go_wp2_with (first
            | (refine wpList_append_mine rfl (.tmp 64) (.tmp 66) 28 28 rfl 5 j0 (.int .u8 0) 1 1 Try.underlying28 hj hj0 hj1 hj2 rfl (.slice a4 (2 + NL) c4) (2 + NL) (u8L (two2 k ++ RL)) rfl HA5.out.row (.slice ra5 NO rc5) NO (u8L RO) rfl HS5.out HX2.out.1 HX2.out.2 ?_; intro a6 c6 w6 hown6 ht6 hf6 _; have HA6 := Lib.hid (HA5.out.app hown6 HNO.out ht6 hf6); clear hown6 ht6 hf6))
          refine (HRM.out _ (HIM2.out.past HLM.out HA6.out.bl)).mono ?_
          rintro e w7 ⟨ra7, rc7, rfl, s7, t7⟩
          have HA7 := Lib.hid (HA6.out.touch t7)
          have HS7 := Lib.hid s7
          clear s7 t7
          go_wp2_with (first
            | (refine wpList_append_mine rfl (.tmp 67) (.tmp 69) 28 28 rfl 5 j0 (.int .u8 0) 1 1 Try.underlying28 hj hj0 hj1 hj2 rfl (.slice a6 (2 + NL + NO) c6) (2 + NL + NO) (u8L (two2 k ++ RL ++ RO)) rfl HA7.out.row (.slice ra7 NM rc7) NM (u8L RM) rfl HS7.out HX3.out.1 HX3.out.2 ?_; intro a8 c8 w8 hown8 ht8 hf8 _; have HA8 := Lib.hid ((HA7.out.app hown8 HNM.out ht8 hf8).touch (Touch.refl _ w8).drew); clear hown8 ht8 hf8))
          obtain ⟨q0, q1, q2⟩ := (HG.out.touch HA8.out.bl (fun e => absurd HGS.out (Nat.not_lt.2 e))).cells
          go_region_held3 (fun wx => wx.cell? ⟨w1.heap.size, 0, none⟩ = some (.int .i64 H2.a) ∧ wx.cell? ⟨w1.heap.size, 1, none⟩ = some (.int .i64 H2.b) ∧ wx.cell? ⟨w1.heap.size, 2, none⟩ = some (.int .i64 H2.c)) (first | exact ⟨q0, q1, q2⟩ | exact ⟨(touch_put3 w10 (w.heap.size + 1) H2).cell p0 HNE.out, (touch_put3 w10 (w.heap.size + 1) H2).cell p1 HNE.out, (touch_put3 w10 (w.heap.size + 1) H2).cell p2 HNE.out⟩ | exact ⟨p0, p1, p2⟩ | exact ⟨o0, o1, o2⟩) (first
            | (go_at_call 51; refine (HRE.out _ (HIL2.out.past HLL.out HA8.out.bl) (HIO2.out.past HLO.out HA8.out.bl) (HIM2.out.past HLM.out HA8.out.bl)).mono ?_; rintro e w9 ⟨ra9, rc9, rfl, s9, t9⟩; have HA9 := HA8.out.touch t9; obtain ⟨o0, o1, o2⟩ := (HG.out.touch HA9.bl (fun e => absurd HGS.out (Nat.not_lt.2 e))).cells)
            | (refine step_append_mine rfl (.tmp 71) (.tmp 75) 28 28 rfl 5 j0 (.int .u8 0) 1 1 Try.underlying28 hj hj0 hj1 hj2 rfl (.slice a8 (2 + NL + NO + NM) c8) (2 + NL + NO + NM) (u8L (two2 k ++ RL ++ RO ++ RM)) rfl HA9.row (.slice ra9 NE rc9) NE (u8L RE) rfl s9 HX4.out.1 HX4.out.2 ?_; intro a10 c10 w10 hown10 ht10 hf10 _; have HA10 := HA9.app hown10 HNEx.out ht10 hf10; obtain ⟨p0, p1, p2⟩ := (HG.out.touch HA10.bl (fun e => absurd HGS.out (Nat.not_lt.2 e))).cells; have HB10 := HBa.out.touch HA10.bl (fun e => absurd HBS.out (Nat.not_lt.2 e)); obtain ⟨f0, f1, f2⟩ := HB10.cells; have g0 := HB10.free 0; have g1 := HB10.free 1; have g2 := HB10.free 2))
          all_goals
            have HF := Lib.hid HA10
            have HB11 := Lib.hid HB10
            clear o0 o1 o2 p0 p1 p2 q0 q1 q2 f0 f1 f2 g0 g1 g2 HA9 HA10 HB10 s9 t9 hown10 ht10 hf10
            go_wp2_with fail
            have ha := HB11.out.put H2
            have tp := touch_put3 w10 (w.heap.size + 1) H2
            have hws := HWS.out
            have hbs := HBS.out
            have ht' := (HTa.out.then HF.out.bl (fun i hi e => absurd hi (Nat.not_lt.2 (Nat.le_trans hws e)))).then tp (fun i hi e => by omega)
            refine bodyPost_ret (results_cell3 rfl _ _ _ _ _ rfl (Arr.load (h := H2) (b := w.heap.size + 1) ha)) rfl ?_
            rw [← HQ.out]
            have hfin : PackYes z0 h k w (put3 w10 (w.heap.size + 1) H2) (.slice a10 (2 + NL + NO + NM + NE) c10) := by
              refine ⟨?_, HF.out.own.mono hws⟩
              unfold RowU
              rw [HPB.out, HF.out.len]
              exact tp.row HF.out.row (fun q hq e => by have := HF.out.own q hq; omega)
            have := pack_yes HY.out ht' hfin
            rw [HH2.out] at this
            exact this
  · have hd5 : decide ((500 : Int) < l0) = true := decide_eq_true (by omega)
    have hno := pack_many (z := z0) h5
    unfold H3.val arr3
    go_enter Try.func25, Try.ntmps25
    go_wp2_with fail
    have hB : Arr ((w.alloc (.cells #[.int .i64 h.a, .int .i64 h.b, .int .i64 h.c] 31)).alloc (.cells #[.int .i64 h.a, .int .i64 h.b, .int .i64 h.c] 31)) (w.heap.size + 1) h := heap_alloc_2 _ _ _
    have T1 := Lib.hid (((Touch.refl (fun _ => False) w).alloc (.cells #[.int .i64 h.a, .int .i64 h.b, .int .i64 h.c] 31)).alloc (.cells #[.int .i64 h.a, .int .i64 h.b, .int .i64 h.c] 31))
    have HB1 := Lib.hid hB
    clear hB
    go_region
    all_goals
      go_wp2_with fail
      refine bodyPost_ret (results_cell3 rfl _ _ _ _ _ rfl (Arr.load (h := h) (b := w.heap.size + 1) HB1.out)) rfl ?_
      rw [← HQ.out]
      exact pack_no hno T1.out.drew
end Go.Proofs.Ythnhacbagmhfoaa
