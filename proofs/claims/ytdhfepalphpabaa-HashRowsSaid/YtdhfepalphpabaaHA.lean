/- hash: turned left, stirred; bytes as a number. -/
import Derived.Test.YtdhfepalphpabaaCcE
namespace Go.Proofs.Ytdhfepalphpabaa
open Go.RowKit Go.WideShapes
set_option linter.unusedVariables false
set_option linter.unusedSimpArgs false
set_option maxRecDepth 100000

/-- Turned left by k digits. -/
def rotl (x : Int) (k : Nat) : Int := bits BinOp.or IntKind.u64 (IntKind.u64.wrap (x * 2 ^ k)) (x / 2 ^ (64 - k))
/-- Stirred with a word. -/
def stirV (x y : Int) : Int := IntKind.u64.wrap (rotl (IntKind.u64.wrap (x + IntKind.u64.wrap (y * 14029467366897019727))) 31 * 11400714785074694791)

theorem wraps_u64 (n : Int) (h0 : 0 ≤ n) (h1 : n < 2 ^ 64) : IntKind.u64.wrap n = n := by rw [IntKind.wrap_u64]; omega

theorem left_walk (x kk : Int) (k : Nat) (h : kk = k) (w : World) (hk : 1 ≤ k) (hk2 : k ≤ 63) : Calls Try.prog 21 #[.int .u64 x, .int .u64 kk] w fun e w' => e = .returned (.int .u64 (rotl x k)) ∧ w = w' := by
  subst h
  have f1 : IntKind.u64.wrap (64 - (k : Int)) = ((64 - k : Nat) : Int) := by rw [IntKind.wrap_u64]; omega
  have f2 : decide ((k : Int) < 0) = false := by simp
  go_enter Try.func21, Try.ntmps21
  go_wp2_with fail
  go_ret
  exact ⟨rfl, rfl⟩
theorem rot_walk (x kk : Int) (k : Nat) (h : kk = k) (w : World) (hk : 1 ≤ k) (hk2 : k ≤ 63) : Calls Try.prog 16 #[.int .u64 x, .int .i64 kk] w fun e w' => e = .returned (.int .u64 (rotl x k)) ∧ w = w' := by
  subst h
  have f0 : bits BinOp.and IntKind.u64 (k : Int) 63 = k := by
    have := (bits_nat .u64 64 (by decide) wraps_u64 k 63 (by omega) (by omega)).1
    rw [show (63 : Nat) = 2 ^ 6 - 1 from rfl, Nat.and_two_pow_sub_one_eq_mod, Nat.mod_eq_of_lt (show k < 2 ^ 6 by omega)] at this
    exact this
  have f1 : IntKind.u64.wrap (64 - (k : Int)) = ((64 - k : Nat) : Int) := by rw [IntKind.wrap_u64]; omega
  have f2 : decide ((k : Int) < 0) = false := by simp
  go_enter Try.func16, Try.ntmps16
  go_wp2_with fail
  go_ret
  exact ⟨rfl, rfl⟩
theorem stir_walk (x y : Int) (w : World) : Calls Try.prog 17 #[.int .u64 x, .int .u64 y] w fun e w' => e = .returned (.int .u64 (stirV x y)) ∧ w = w' := by
  obtain ⟨R, hR⟩ : ∃ R, rotl (IntKind.u64.wrap (x + IntKind.u64.wrap (y * 14029467366897019727))) 31 = R := ⟨_, rfl⟩
  unfold stirV
  rw [hR]
  have H := Lib.hid hR
  clear hR
  go_enter Try.func17, Try.ntmps17
  go_wp2_with fail
  refine (rot_walk _ 31 31 rfl _ (by omega) (by omega)).mono ?_
  rintro e w1 ⟨rfl, rfl⟩
  rw [H.out]
  go_wp2_with fail
  go_ret
  exact ⟨rfl, rfl⟩
theorem rstir_walk (x y : Int) (w : World) : Calls Try.prog 19 #[.int .u64 x, .int .u64 y] w fun e w' => e = .returned (.int .u64 (stirV x y)) ∧ w = w' := by
  obtain ⟨R, hR⟩ : ∃ R, rotl (IntKind.u64.wrap (x + IntKind.u64.wrap (y * 14029467366897019727))) 31 = R := ⟨_, rfl⟩
  unfold stirV
  rw [hR]
  have H := Lib.hid hR
  clear hR
  go_enter Try.func19, Try.ntmps19
  go_wp2_with fail
  refine (left_walk _ 31 31 rfl _ (by omega) (by omega)).mono ?_
  rintro e w1 ⟨rfl, rfl⟩
  rw [H.out]
  go_wp2_with fail
  go_ret
  exact ⟨rfl, rfl⟩

/-- Bytes as a number, the lowest first. -/
def leN (y : Nat → Nat) : Nat → Nat
  | 0 => 0
  | n + 1 => leN y n + y n * 2 ^ (8 * n)
theorem leN_lt {y : Nat → Nat} (hy : ∀ i, y i < 256) : ∀ n, leN y n < 2 ^ (8 * n)
  | 0 => by simp [leN]
  | n + 1 => by
    have h1 := leN_lt hy n
    have h2 := hy n
    rw [leN, show 8 * (n + 1) = 8 * n + 8 by omega, Nat.pow_add]
    have : y n * 2 ^ (8 * n) ≤ 255 * 2 ^ (8 * n) := Nat.mul_le_mul_right _ (by omega)
    omega
theorem leN_shift (y : Nat → Nat) : ∀ n, leN y (n + 1) = y 0 + 256 * leN (fun i => y (i + 1)) n
  | 0 => by simp [leN]
  | n + 1 => by
    rw [leN, leN_shift y n, leN]
    rw [show 8 * (n + 1) = 8 * n + 8 by omega, Nat.pow_add, Nat.mul_add, ← Nat.mul_assoc, Nat.mul_comm 256 (y (n + 1) * 2 ^ (8 * n))]
    omega
theorem leN_congr {y y' : Nat → Nat} : ∀ {n}, (∀ i, i < n → y i = y' i) → leN y n = leN y' n
  | 0, _ => rfl
  | n + 1, h => by rw [leN, leN, leN_congr (fun i hi => h i (by omega)), h n (by omega)]
theorem or_high (x c k : Nat) (hx : x < 2 ^ (8 * k)) (hc : c < 256) (hk : k < 8) : bits BinOp.or IntKind.u64 (x : Int) (IntKind.u64.wrap ((c : Int) * 2 ^ (8 * k))) = ((x + c * 2 ^ (8 * k) : Nat) : Int) := by
  have h1 : c * 2 ^ (8 * k) < 2 ^ 64 := by
    have : 2 ^ 64 = 2 ^ (64 - 8 * k) * 2 ^ (8 * k) := by rw [← Nat.pow_add]; congr 1; omega
    rw [this]
    exact Nat.mul_lt_mul_of_pos_right (Nat.lt_of_lt_of_le (show c < 2 ^ 8 by omega) (Nat.pow_le_pow_right (by omega) (show 8 ≤ 64 - 8 * k by omega))) (Nat.two_pow_pos _)
  have h2 : x < 2 ^ 64 := Nat.lt_of_lt_of_le hx (Nat.pow_le_pow_right (by omega) (by omega))
  have e : (c : Int) * 2 ^ (8 * k) = ((c * 2 ^ (8 * k) : Nat) : Int) := by simp
  rw [e, wraps_u64 _ (Int.natCast_nonneg _) (by exact_mod_cast h1), (bits_nat .u64 64 (by decide) wraps_u64 x _ h2 h1).2]
  rw [Nat.or_comm, Nat.mul_comm c, ← Nat.two_pow_add_eq_or_of_lt hx, Nat.add_comm]
theorem or_low8 (x c : Nat) (hx : x < 2 ^ 56) (hc : c < 256) : bits BinOp.or IntKind.u64 (IntKind.u64.wrap ((x : Int) * 256)) (c : Int) = ((c + 256 * x : Nat) : Int) := by
  have e : (x : Int) * 256 = ((2 ^ 8 * x : Nat) : Int) := by omega
  have h1 : 2 ^ 8 * x < 2 ^ 64 := by omega
  rw [e, wraps_u64 _ (by omega) (by exact_mod_cast h1), (bits_nat .u64 64 (by decide) wraps_u64 (2 ^ 8 * x) c h1 (by omega)).2, ← Nat.two_pow_add_eq_or_of_lt (show c < 2 ^ 8 by omega), Nat.add_comm]

/-- Bytes that can be read. -/
def nat8 (y : Nat → Nat) : Nat → Int := fun i => (y i : Int)
theorem number_walk (a : Option Addr) (b off n c : Nat) (y : Nat → Nat) (hy : ∀ i, y i < 256) (w : World) (h : Ints .u8 w a b off n (nat8 y)) (hn : n ≤ 8) :
    Calls Try.prog 18 #[.slice a n c] w fun e w' => e = .returned (.int .u64 (leN y n : Nat)) ∧ w = w' := by
  have H := Lib.hid h
  have HY := Lib.hid hy
  clear h hy
  go_enter Try.func18, Try.ntmps18
  go_wp2_with fail
  go_loop [3, 4, 5, 8] (fun v _ _ i => ∃ k : Nat, k ≤ n ∧ i = .int .i64 k ∧ v = .int .u64 (leN y k : Nat)) (fun _ _ _ i => n - (intOf i).toNat)
  case atStart => exact ⟨0, by omega, rfl, rfl⟩
  case round =>
    obtain ⟨k, hk, rfl, rfl⟩ := hrel
    by_cases hlt : k < n
    · obtain rfl := H.out.at_ (by omega)
      have e1 := H.out.cell k hlt
      have hor := or_high (leN y k) (y k) k (leN_lt HY.out k) (HY.out k) (by omega)
      have hne : leN y k + y k * 2 ^ (8 * k) = leN y (k + 1) := rfl
      rw [hne] at hor
      obtain ⟨v, hv⟩ : ∃ v, leN y k = v := ⟨_, rfl⟩
      obtain ⟨v', hv'⟩ : ∃ v, leN y (k + 1) = v := ⟨_, rfl⟩
      obtain ⟨q, hq⟩ : ∃ q, y k = q := ⟨_, rfl⟩
      have hq2 : q < 256 := by rw [← hq]; exact HY.out k
      unfold nat8 at e1
      rw [hv, hv', hq] at hor
      rw [hq] at e1
      rw [hv]
      have HV := Lib.hid hv'
      have f1 : decide ((8 : Int) * (k : Int) < 0) = false := by simp; omega
      clear hne hv hv' hq
      go_wp2_with fail
      go_round
      case rel => exact ⟨k + 1, by omega, by go_num, by rw [HV.out]⟩
      case measure => simp [intOf]; omega
    · obtain rfl : k = n := by omega
      go_wp2_with fail
      go_ret
      exact ⟨rfl, rfl⟩
theorem word_walk (a : Option Addr) (b off m n c : Nat) (y : Nat → Nat) (hy : ∀ i, y i < 256) (w : World) (h : Ints .u8 w a b off m (nat8 y)) (hn : n ≤ 8) (hm : n ≤ m) (nn : Int) (hnn : nn = n) :
    Calls Try.prog 20 #[.slice a m c, .int .i64 nn] w fun e w' => e = .returned (.int .u64 (leN y n : Nat)) ∧ w = w' := by
  subst hnn
  have H := Lib.hid h
  have HY := Lib.hid hy
  clear h hy
  go_enter Try.func20, Try.ntmps20
  go_wp2_with fail
  go_loop [5, 6] (fun v i => ∃ k : Nat, ∃ ii : Int, k ≤ n ∧ ii = (k : Int) - 1 ∧ i = .int .i64 ii ∧ v = .int .u64 (leN (fun t => y (k + t)) (n - k) : Nat)) (fun _ i => (intOf i + 1).toNat)
  case atStart => exact ⟨n, _, by omega, rfl, rfl, by simp [leN]⟩
  case round =>
    obtain ⟨k, ii, hk, hii, rfl, rfl⟩ := hrel
    by_cases h0 : k = 0
    · have hi1 : ii = -1 := by omega
      clear hii
      subst hi1 h0
      go_wp2_with fail
      go_ret
      exact ⟨ret_int (by simp), rfl⟩
    · obtain ⟨k, rfl⟩ : ∃ q, k = q + 1 := ⟨k - 1, by omega⟩
      have hi1 : ii = k := by omega
      clear hii h0
      subst hi1
      obtain rfl := H.out.at_ (by omega)
      have e1 := H.out.cell k (by omega)
      obtain ⟨v, hv⟩ : ∃ v, leN (fun t => y (k + 1 + t)) (n - (k + 1)) = v := ⟨_, rfl⟩
      have hlt : v < 2 ^ 56 := by
        rw [← hv]
        exact Nat.lt_of_lt_of_le (leN_lt (fun i => HY.out _) _) (Nat.pow_le_pow_right (by omega) (by omega))
      obtain ⟨q, hq⟩ : ∃ q, y k = q := ⟨_, rfl⟩
      have hq2 : q < 256 := by rw [← hq]; exact HY.out k
      have hor := or_low8 v q hlt hq2
      have hnew : leN (fun t => y (k + t)) (n - k) = q + 256 * v := by
        obtain ⟨d, hd⟩ : ∃ d, n - k = d + 1 := ⟨n - k - 1, by omega⟩
        rw [hd, leN_shift, ← hv, show n - (k + 1) = d by omega, ← hq]
        congr 2
        apply leN_congr
        intro i _
        show y (k + (i + 1)) = y (k + 1 + i)
        congr 1; omega
      obtain ⟨v', hv'⟩ : ∃ v', q + 256 * v = v' := ⟨_, rfl⟩
      rw [hv'] at hor hnew
      unfold nat8 at e1
      rw [hq] at e1
      rw [hv]
      have HV := Lib.hid hnew
      clear hv hv' hq hlt hnew
      go_wp2_with fail
      go_round
      case rel => exact ⟨k, _, by omega, rfl, rfl, by rw [HV.out]⟩
      case measure => simp [intOf]
end Go.Proofs.Ytdhfepalphpabaa
