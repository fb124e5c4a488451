/- seqs: a number's code and extra. -/
import Derived.Test.YthnhacbagmhfoaaMem
import Derived.Test.YthnhacbagmhfoaaShelf
import Derived.Laws.BitsLemmas
import Derived.Lib.ItoaNum
import Derived.Lib.QuoteBits
namespace Go.Proofs.Ythnhacbagmhfoaa
open Go.RowKit
set_option linter.unusedVariables false

theorem wrap_pow (n : Nat) (hn : n ≤ 40) : wrap64 ((2 : Int) ^ n) = ((2 ^ n : Nat) : Int) := by
  have h : (2 : Nat) ^ n ≤ 2 ^ 40 := Nat.pow_le_pow_right (by omega) hn
  have e : ((2 : Int) ^ n) = ((2 ^ n : Nat) : Int) := by simp
  rw [e]
  generalize 2 ^ n = p at *
  unfold wrap64; omega

theorem andNot_pow (r k : Nat) (hr : r < 2 ^ k) (hk : k < 62) : bits BinOp.andNot IntKind.i64 ((2 ^ k + r : Nat) : Int) ((2 ^ k : Nat) : Int) = (r : Int) := by
  have hp : 2 ^ k < 2 ^ 62 := Nat.pow_lt_pow_right (by omega) hk
  have key : ((2 ^ k + r) &&& (2 ^ 64 - (2 ^ k + 1))) = r := by
    apply Nat.eq_of_testBit_eq
    intro i
    have h2 := Nat.two_pow_add_eq_or_of_lt hr 1
    rw [Nat.mul_one] at h2
    rw [Nat.testBit_and, Nat.testBit_two_pow_sub_succ (by omega), h2, Nat.testBit_or, Nat.testBit_two_pow]
    by_cases e : k = i
    · subst e; simp [Nat.testBit_lt_two_pow hr]
    · by_cases hi : i < 64
      · simp [e, hi]
      · have : r.testBit i = false := Nat.testBit_lt_two_pow (Nat.lt_of_lt_of_le (Nat.lt_trans hr hp) (Nat.pow_le_pow_right (by omega) (by omega)))
        simp [e, hi, this]
  have e1 : (2 ^ k + r) % 2 ^ 64 = 2 ^ k + r := Nat.mod_eq_of_lt (by omega)
  have e2 : 2 ^ k % 2 ^ 64 = 2 ^ k := Nat.mod_eq_of_lt (by omega)
  show IntKind.i64.wrap ((BitVec.ofInt 64 ((2 ^ k + r : Nat) : Int) &&& ~~~(BitVec.ofInt 64 ((2 ^ k : Nat) : Int))).toNat : Nat) = _
  rw [BitVec.ofInt_natCast, BitVec.ofInt_natCast, BitVec.toNat_and, BitVec.toNat_not, BitVec.toNat_ofNat, BitVec.toNat_ofNat, e1, e2, show 2 ^ 64 - 1 - 2 ^ k = 2 ^ 64 - (2 ^ k + 1) by omega, key, IntKind.wrap_i64]
  omega

/-- A number's code; how many digits its extra has; its extra. -/
def codeC (v : Nat) : Nat := if v = 0 then 0 else Nat.log2 v + 1
def codeN (v : Nat) : Nat := Nat.log2 v
def codeX (v : Nat) : Nat := if v = 0 then 0 else v - 2 ^ Nat.log2 v
def codeT (v : Nat) : Value := .tuple #[.int .i64 (codeC v), .int .i64 (codeN v), .int .i64 (codeX v)]

theorem log2_lt {v k : Nat} (h : v < 2 ^ k) (hk : 0 < k) : Nat.log2 v < k := by
  by_cases e : v = 0
  · subst e; simpa using hk
  · exact (Nat.log2_lt e).2 h
theorem code_parts {v : Nat} (h : v ≠ 0) : codeX v < 2 ^ Nat.log2 v ∧ 2 ^ Nat.log2 v + codeX v = v := by
  have h1 : 2 ^ Nat.log2 v ≤ v := Nat.log2_self_le h
  have h2 : v < 2 ^ (Nat.log2 v + 1) := Nat.lt_log2_self
  rw [Nat.pow_succ] at h2
  unfold codeX; rw [if_neg h]
  omega

theorem bitLen_is (x : Nat) (h : x ≠ 0) (hx : x < 2 ^ 64) : Lib.bitLen x = Nat.log2 x + 1 := by
  have hb := Lib.bitLenAux_bounds 64 x hx h
  have e : Nat.log2 x = Lib.bitLen x - 1 := by
    rw [Nat.log2_eq_iff h]
    refine ⟨hb.2.1, ?_⟩
    have := hb.2.2
    rw [show Lib.bitLen x - 1 + 1 = Lib.bitLen x from by have := hb.1; unfold Lib.bitLen; omega]
    exact this
  have := hb.1
  unfold Lib.bitLen at *
  omega
theorem len_walk (v : Nat) (hv : v < 2 ^ 40) (w : World) : Calls Try.prog 33 #[.int .u64 v] w fun e w' => e = .returned (.int .i64 (codeC v : Nat)) ∧ w = w' :=
  (Try.bits_Len (v : Int) w (by omega) (by omega)).mono fun e w' ⟨h1, h2⟩ => ⟨by
    rw [h1, Int.toNat_natCast]
    by_cases h : v = 0
    · subst h; rfl
    · rw [bitLen_is v h (by omega)]; unfold codeC; rw [if_neg h], h2.symm⟩

theorem len_zero (w : World) : Calls Try.prog 33 #[.int .u64 0] w fun e w' => e = .returned (.int .i64 0) ∧ w = w' := len_walk 0 (by decide) w
theorem len_pos (v k : Nat) (hv : v < 2 ^ 40) (h : v ≠ 0) (hk : Nat.log2 v = k) (w : World) : Calls Try.prog 33 #[.int .u64 v] w fun e w' => e = .returned (.int .i64 ((k : Int) + 1)) ∧ w = w' := by
  have := len_walk v hv w
  unfold codeC at this
  rw [if_neg h, hk] at this
  exact this

theorem codeT_zero : codeT 0 = .tuple #[.int .i64 0, .int .i64 0, .int .i64 0] := by
  have h : Nat.log2 0 = 0 := by decide
  unfold codeT codeC codeX codeN; rw [h]; rfl

theorem code_walk (v : Nat) (hv : v < 2 ^ 40) (w : World) : Calls Try.prog 15 #[.int .i64 v] w fun e w' => e = .returned (codeT v) ∧ ∃ n, w' = w.drewN n := by
  by_cases h : v = 0
  · subst h
    have hmax : max (-1 : Int) 0 = 0 := by decide
    have hb : bits BinOp.andNot IntKind.i64 0 1 = 0 := by decide
    go_enter Try.func15, Try.ntmps15
    go_wp2_with (go_at_call 33; refine (len_zero _).mono ?_; rintro e w' ⟨rfl, rfl⟩)
    go_region
    all_goals
      go_wp2
      go_ret3
      exact ⟨by rw [codeT_zero]; rfl, 1, rfl⟩
  · obtain ⟨k, hk⟩ : ∃ k, Nat.log2 v = k := ⟨_, rfl⟩
    have hk40 : k < 40 := by rw [← hk]; exact log2_lt hv (by omega)
    obtain ⟨h1, h2⟩ := code_parts h
    have hc : codeT v = .tuple #[.int .i64 ((k : Int) + 1), .int .i64 k, .int .i64 (codeX v)] := by
      unfold codeT codeC codeN; rw [if_neg h, hk]; rfl
    rw [hk] at h1 h2
    obtain ⟨r, hr⟩ : ∃ r, codeX v = r := ⟨_, rfl⟩
    rw [hr] at h1 h2 hc
    have hb : bits BinOp.andNot IntKind.i64 (v : Int) (wrap64 (2 ^ k)) = (r : Int) := by rw [wrap_pow k (by omega), ← h2]; exact andNot_pow r k h1 (by omega)
    have hmax : max (k : Int) 0 = k := by omega
    have hv64 : (v : Int) < 2 ^ 40 := by exact_mod_cast hv
    have Hc := Lib.hid hc
    have Hlen := Lib.hid (len_pos v k hv h hk)
    clear hc h1 h2 hr h hk
    go_enter Try.func15, Try.ntmps15
    go_wp2_with (go_at_call 33; refine (Hlen.out _).mono ?_; rintro e w' ⟨rfl, rfl⟩)
    go_region
    all_goals
      go_wp2
      go_ret3
      exact ⟨by rw [Hc.out]; rfl, 1, rfl⟩

theorem ref_code (v : Nat) (hv : v < 2 ^ 40) (w : World) : Calls Try.prog 16 #[.int .i64 v] w fun e w' => e = .returned (codeT v) ∧ w = w' := by
  by_cases h : v = 0
  · subst h
    go_enter Try.func16, Try.ntmps16
    go_wp2
    go_loop [5] (fun i => i = .int .i64 0) (fun _ => 0)
    case atStart => rfl
    case round =>
      subst hrel
      go_wp2
      go_ret3
      exact ⟨by rw [codeT_zero]; rfl, rfl⟩
  · obtain ⟨k, hk⟩ : ∃ k, Nat.log2 v = k := ⟨_, rfl⟩
    have hk40 : k < 40 := by rw [← hk]; exact log2_lt hv (by omega)
    obtain ⟨h1, h2⟩ := code_parts h
    have hc : codeT v = .tuple #[.int .i64 ((k : Int) + 1), .int .i64 k, .int .i64 (codeX v)] := by
      unfold codeT codeC codeN; rw [if_neg h, hk]; rfl
    rw [hk] at h1 h2
    obtain ⟨r, hr⟩ : ∃ r, codeX v = r := ⟨_, rfl⟩
    rw [hr] at h1 h2 hc
    have hlog : ∀ x : Nat, x ≤ k → 0 < v / 2 ^ x := fun x hx => Nat.div_pos (Nat.le_trans (Nat.pow_le_pow_right (by omega) hx) (by omega)) (Nat.two_pow_pos x)
    have htop : v / 2 ^ (k + 1) = 0 := Nat.div_eq_of_lt (by rw [Nat.pow_succ]; omega)
    have Hlog := Lib.hid hlog
    have hv64 : (v : Int) < 2 ^ 40 := by exact_mod_cast hv
    have Hc := Lib.hid hc
    have hw := wrap_pow k (by omega)
    have Hsub : Hid ((v : Int) - wrap64 (2 ^ k) = r) := Lib.hid (by rw [hw]; omega)
    have Hwp : Hid (0 ≤ wrap64 (2 ^ k) ∧ wrap64 (2 ^ k) ≤ v) := Lib.hid (by rw [hw]; omega)
    clear hc h1 h2 hr h hk hlog hw
    go_enter Try.func16, Try.ntmps16
    go_wp2
    go_loop [5] (fun i => ∃ x : Nat, x ≤ k + 1 ∧ i = .int .i64 x) (fun i => k + 1 - (intOf i).toNat)
    case atStart => exact ⟨0, by omega, rfl⟩
    case round =>
      obtain ⟨x, hx, rfl⟩ := hrel
      by_cases hlt : x ≤ k
      · have hpos : (0 : Int) < (v : Int) / 2 ^ x := by
          have := Hlog.out x hlt
          have e : ((v : Int) / 2 ^ x) = ((v / 2 ^ x : Nat) : Int) := by simp
          rw [e]; omega
        go_wp2
        go_round
        case rel => exact ⟨x + 1, by omega, by go_num⟩
        case measure => simp [intOf]; omega
      · obtain rfl : x = k + 1 := by omega
        have hz : (v : Int) / 2 ^ (k + 1) = 0 := by
          have e : ((v : Int) / 2 ^ (k + 1)) = ((v / 2 ^ (k + 1) : Nat) : Int) := by simp
          rw [e, htop]; rfl
        have hne : (((k : Int) + 1) == 0) = false := by simp; omega
        obtain ⟨hs1, hs2⟩ := Hwp.out
        go_wp2
        go_ret3
        refine ⟨?_, rfl⟩
        rw [Hc.out, ← Hsub.out]
        rfl

theorem value_zero (x : Int) (w : World) : Calls Try.prog 17 #[.int .i64 0, .int .i64 x] w fun e w' => e = .returned (.int .i64 0) ∧ w = w' := by
  go_enter Try.func17, Try.ntmps17
  go_wp2
  go_ret
  exact ⟨rfl, rfl⟩
theorem value_pos (k x : Nat) (hk : k ≤ 40) (hx : x ≤ 2 ^ 41) (w : World) : Calls Try.prog 17 #[.int .i64 ((k : Int) + 1), .int .i64 x] w fun e w' => e = .returned (.int .i64 ((2 ^ k + x : Nat) : Int)) ∧ w = w' := by
  have hne : (((k : Int) + 1) == 0) = false := by simp; omega
  have hw := Lib.hid (wrap_pow k hk)
  have hp : (2 : Nat) ^ k ≤ 2 ^ 40 := Nat.pow_le_pow_right (by omega) hk
  obtain ⟨q, hq⟩ : ∃ q : Nat, 2 ^ k = q := ⟨_, rfl⟩
  have hwq : wrap64 ((2 : Int) ^ k) = q := by rw [hw.out, hq]
  rw [hq] at hp ⊢
  clear hq
  go_enter Try.func17, Try.ntmps17
  go_wp2
  go_ret
  exact ⟨by simp, rfl⟩
/-- A number out of its code and extra. -/
theorem value_code (v : Nat) (hv : v < 2 ^ 40) (w : World) : Calls Try.prog 17 #[.int .i64 (codeC v : Nat), .int .i64 (codeX v : Nat)] w fun e w' => e = .returned (.int .i64 v) ∧ w = w' := by
  by_cases h : v = 0
  · subst h; exact value_zero _ w
  · obtain ⟨h1, h2⟩ := code_parts h
    have hk : Nat.log2 v < 40 := log2_lt hv (by omega)
    have hx : codeX v ≤ v := by omega
    have := value_pos (Nat.log2 v) (codeX v) (by omega) (by omega) w
    rw [h2] at this
    unfold codeC; rw [if_neg h]
    exact this
end Go.Proofs.Ythnhacbagmhfoaa
