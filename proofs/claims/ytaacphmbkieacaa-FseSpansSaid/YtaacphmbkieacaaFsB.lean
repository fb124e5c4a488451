/- The states of a table, in plain numbers. -/
namespace Go.Proofs.Ytaacphmbkieacaa.Fs
def sumN (f : Nat → Nat) : Nat → Nat
  | 0 => 0
  | k + 1 => sumN f k + f k
theorem sumN_congr {f g : Nat → Nat} : ∀ {n : Nat}, (∀ i, i < n → f i = g i) → sumN f n = sumN g n
  | 0, _ => rfl
  | n + 1, h => by rw [sumN, sumN, sumN_congr (fun i hi => h i (by omega)), h n (by omega)]
theorem sumN_zero : ∀ n, sumN (fun _ => 0) n = 0
  | 0 => rfl
  | n + 1 => by rw [sumN, sumN_zero n]
theorem sumN_add (f g : Nat → Nat) : ∀ n, sumN (fun i => f i + g i) n = sumN f n + sumN g n
  | 0 => rfl
  | n + 1 => by rw [sumN, sumN, sumN, sumN_add f g n]; omega
theorem sumN_mono (f : Nat → Nat) {k n : Nat} (h : k ≤ n) : sumN f k ≤ sumN f n := by
  induction n with
  | zero => obtain rfl : k = 0 := by omega
            exact Nat.le_refl _
  | succ n ih =>
    by_cases e : k = n + 1
    · subst e; exact Nat.le_refl _
    · have := ih (by omega); rw [sumN]; omega
theorem sumN_swap (f : Nat → Nat → Nat) (m : Nat) : ∀ n, sumN (fun i => sumN (fun j => f i j) m) n = sumN (fun j => sumN (fun i => f i j) n) m
  | 0 => (sumN_zero m).symm
  | n + 1 => by
    show sumN (fun i => sumN (fun j => f i j) m) n + sumN (fun j => f n j) m = _
    rw [sumN_swap f m n, ← sumN_add]
    rfl
theorem sumN_one (f : Nat → Nat) (i : Nat) : ∀ n, sumN (fun u => if u = i then f u else 0) n = if i < n then f i else 0
  | 0 => rfl
  | n + 1 => by
    rw [sumN, sumN_one f i n]
    by_cases h : i < n
    · rw [if_pos h, if_neg (show ¬ n = i by omega), if_pos (show i < n + 1 by omega)]; rfl
    · rw [if_neg h]
      by_cases e : n = i
      · subst e; rw [if_pos rfl, if_pos (by omega)]; omega
      · rw [if_neg e, if_neg (by omega)]
theorem sumN_perm (f : Nat → Nat) (n : Nat) (p q : Nat → Nat) (hp : ∀ i, i < n → p i < n) (hq : ∀ u, u < n → q u < n) (h1 : ∀ u, u < n → p (q u) = u) (h2 : ∀ i, i < n → q (p i) = i) : sumN (fun i => f (p i)) n = sumN f n := by
  have a : sumN (fun i => f (p i)) n = sumN (fun i => sumN (fun u => if u = p i then f u else 0) n) n :=
    sumN_congr fun i hi => by rw [sumN_one f (p i) n, if_pos (hp i hi)]
  rw [a, sumN_swap (fun i u => if u = p i then f u else 0) n n]
  refine sumN_congr fun u hu => ?_
  have b : sumN (fun i => if u = p i then f u else 0) n = sumN (fun i => if i = q u then f u else 0) n := sumN_congr fun i hi => by
    by_cases e : u = p i
    · rw [if_pos e, if_pos (by rw [e, h2 i hi])]
    · rw [if_neg e, if_neg (fun h => e (by rw [h, h1 u hu]))]
  rw [b, sumN_one (fun _ => f u) (q u) n, if_pos (hq u hu)]

/-- The place of the K-th state. -/
def stepOf (size : Nat) : Nat := size / 2 + size / 8 + 3
def pos (size K : Nat) : Nat := K * stepOf size % size
theorem pos_succ (size K : Nat) : pos size (K + 1) = (pos size K + size / 2 + size / 8 + 3) % size := by
  unfold pos
  rw [Nat.succ_mul, Nat.add_assoc (K * stepOf size % size + size / 2), Nat.add_assoc (K * stepOf size % size), ← Nat.add_assoc (size / 2)]
  show (K * stepOf size + stepOf size) % size = (K * stepOf size % size + stepOf size) % size
  rw [Nat.add_mod (K * stepOf size % size), Nat.mod_mod, ← Nat.add_mod]
theorem pos_lt {size : Nat} (h : 0 < size) (K : Nat) : pos size K < size := Nat.mod_lt _ h
def invOf (log : Nat) : Nat := match log with | 5 => 7 | 6 => 3 | 7 => 91 | 8 => 11 | _ => 363
def posInv (log u : Nat) : Nat := u * invOf log % 2 ^ log
theorem mod_back (size a b u : Nat) (h : a * b % size = 1) (hu : u < size) : u * a % size * b % size = u := by
  rw [Nat.mul_mod, Nat.mod_mod, ← Nat.mul_mod, Nat.mul_assoc, Nat.mul_mod, h, Nat.mul_one, Nat.mod_mod, Nat.mod_eq_of_lt hu]
theorem inv_is (log : Nat) (h1 : 5 ≤ log) (h2 : log ≤ 9) : invOf log * stepOf (2 ^ log) % 2 ^ log = 1 := by
  have : log = 5 ∨ log = 6 ∨ log = 7 ∨ log = 8 ∨ log = 9 := by omega
  rcases this with rfl | rfl | rfl | rfl | rfl <;> decide
theorem pos_posInv (log u : Nat) (h1 : 5 ≤ log) (h2 : log ≤ 9) (hu : u < 2 ^ log) : pos (2 ^ log) (posInv log u) = u := mod_back _ _ _ _ (inv_is log h1 h2) hu
theorem posInv_pos (log K : Nat) (h1 : 5 ≤ log) (h2 : log ≤ 9) (hu : K < 2 ^ log) : posInv log (pos (2 ^ log) K) = K := mod_back _ _ _ _ (by rw [Nat.mul_comm]; exact inv_is log h1 h2) hu
theorem posInv_lt (log u : Nat) : posInv log u < 2 ^ log := Nat.mod_lt _ (Nat.two_pow_pos _)

/-- Symbols, spread over the states. -/
def upd {α : Type} (S : Nat → α) (p : Nat) (v : α) : Nat → α := fun u => if u = p then v else S u
def spreadI (size : Nat) (S : Nat → Nat) (K s : Nat) : Nat → Nat → Nat
  | 0 => S
  | j + 1 => upd (spreadI size S K s j) (pos size (K + j)) s
def spreadO (m : Nat → Nat) (size : Nat) : Nat → Nat → Nat
  | 0 => fun _ => 0
  | s + 1 => spreadI size (spreadO m size s) (sumN m s) s (m s)

theorem pos_inj {log K K' : Nat} (h1 : 5 ≤ log) (h2 : log ≤ 9) (hK : K < 2 ^ log) (hK' : K' < 2 ^ log) (h : pos (2 ^ log) K = pos (2 ^ log) K') : K = K' := by
  rw [← posInv_pos log K h1 h2 hK, h, posInv_pos log K' h1 h2 hK']
theorem spreadI_old {log : Nat} (h1 : 5 ≤ log) (h2 : log ≤ 9) (S : Nat → Nat) (K s K' : Nat) (hK : K' < K) : ∀ j, K + j ≤ 2 ^ log → spreadI (2 ^ log) S K s j (pos (2 ^ log) K') = S (pos (2 ^ log) K')
  | 0, _ => rfl
  | j + 1, h => by
    rw [spreadI, upd, if_neg, spreadI_old h1 h2 S K s K' hK j (by omega)]
    intro e
    have := pos_inj h1 h2 (by omega) (by omega) e
    omega
theorem spreadI_new {log : Nat} (h1 : 5 ≤ log) (h2 : log ≤ 9) (S : Nat → Nat) (K s i : Nat) : ∀ j, i < j → K + j ≤ 2 ^ log → spreadI (2 ^ log) S K s j (pos (2 ^ log) (K + i)) = s
  | 0, h, _ => by omega
  | j + 1, h, hb => by
    rw [spreadI, upd]
    by_cases e : i = j
    · subst e; rw [if_pos rfl]
    · rw [if_neg, spreadI_new h1 h2 S K s i j (by omega) (by omega)]
      intro e'
      have := pos_inj h1 h2 (by omega) (by omega) e'
      omega
theorem sumN_split (f : Nat → Nat) (a : Nat) : ∀ b, sumN f (a + b) = sumN f a + sumN (fun i => f (a + i)) b
  | 0 => rfl
  | b + 1 => by
    show sumN f (a + b) + f (a + b) = _
    rw [sumN_split f a b, sumN]; omega
theorem sumN_const (c : Nat) : ∀ n, sumN (fun _ => c) n = n * c
  | 0 => by simp [sumN]
  | n + 1 => by rw [sumN, sumN_const c n, Nat.succ_mul]
/-- How many states below K have the symbol t; and which symbols there are. -/
theorem spread_count {log : Nat} (h1 : 5 ≤ log) (h2 : log ≤ 9) (m : Nat → Nat) (t : Nat) : ∀ s, sumN m s ≤ 2 ^ log →
    sumN (fun K => if spreadO m (2 ^ log) s (pos (2 ^ log) K) = t then 1 else 0) (sumN m s) = if t < s then m t else 0
  | 0, _ => rfl
  | s + 1, h => by
    have hs : sumN m (s + 1) = sumN m s + m s := rfl
    rw [hs, sumN_split]
    have a : sumN (fun K => if spreadO m (2 ^ log) (s + 1) (pos (2 ^ log) K) = t then 1 else 0) (sumN m s) = if t < s then m t else 0 := by
      rw [← spread_count h1 h2 m t s (by omega)]
      refine sumN_congr fun K hK => ?_
      rw [spreadO, spreadI_old h1 h2 _ _ _ _ hK _ (by omega)]
    have b : sumN (fun i => if spreadO m (2 ^ log) (s + 1) (pos (2 ^ log) (sumN m s + i)) = t then 1 else 0) (m s) = if s = t then m s else 0 := by
      rw [sumN_congr (g := fun _ => if s = t then 1 else 0) (fun i hi => by rw [spreadO, spreadI_new h1 h2 _ _ _ _ _ hi (by omega)]), sumN_const]
      split <;> omega
    rw [a, b]
    by_cases e : s = t
    · subst e; rw [if_pos rfl, if_neg (by omega), if_pos (by omega)]; omega
    · rw [if_neg e]
      by_cases h3 : t < s
      · rw [if_pos h3, if_pos (by omega)]; omega
      · rw [if_neg h3, if_neg (by omega)]
theorem spreadO_lt {log : Nat} (h1 : 5 ≤ log) (h2 : log ≤ 9) (m : Nat → Nat) : ∀ s, sumN m s ≤ 2 ^ log → ∀ K, K < sumN m s → spreadO m (2 ^ log) s (pos (2 ^ log) K) < s ∧ 0 < m (spreadO m (2 ^ log) s (pos (2 ^ log) K))
  | 0, _, K, hK => by simp [sumN] at hK
  | s + 1, h, K, hK => by
    have hs : sumN m (s + 1) = sumN m s + m s := rfl
    by_cases e : K < sumN m s
    · rw [spreadO, spreadI_old h1 h2 _ _ _ _ e _ (by omega)]
      have := spreadO_lt h1 h2 m s (by omega) K e
      exact ⟨by omega, this.2⟩
    · obtain ⟨i, rfl⟩ : ∃ i, K = sumN m s + i := ⟨K - sumN m s, by omega⟩
      rw [spreadO, spreadI_new h1 h2 _ _ _ _ _ (by omega) (by omega)]
      exact ⟨by omega, by omega⟩

/-- The symbol of a state. -/
def symU (m : Nat → Nat) (n log : Nat) : Nat → Nat := spreadO m (2 ^ log) n
theorem symU_lt {log n : Nat} (h1 : 5 ≤ log) (h2 : log ≤ 9) (m : Nat → Nat) (hm : sumN m n = 2 ^ log) (u : Nat) (hu : u < 2 ^ log) : symU m n log u < n ∧ 0 < m (symU m n log u) := by
  have := spreadO_lt h1 h2 m n (by omega) (posInv log u) (by rw [hm]; exact posInv_lt _ _)
  rwa [pos_posInv log u h1 h2 hu] at this
/-- How many states below i have the symbol t. -/
def occ (S : Nat → Nat) (t i : Nat) : Nat := sumN (fun u => if S u = t then 1 else 0) i
theorem symU_occ {log n : Nat} (h1 : 5 ≤ log) (h2 : log ≤ 9) (m : Nat → Nat) (hm : sumN m n = 2 ^ log) (t : Nat) (ht : t < n) : occ (symU m n log) t (2 ^ log) = m t := by
  have := spread_count h1 h2 m t n (by omega)
  rw [hm, if_pos ht] at this
  rw [← this]
  exact (sumN_perm (fun u => if symU m n log u = t then 1 else 0) (2 ^ log) (pos (2 ^ log)) (posInv log) (fun i _ => pos_lt (Nat.two_pow_pos _) i) (fun u _ => posInv_lt _ _) (fun u hu => pos_posInv log u h1 h2 hu) (fun i hi => posInv_pos log i h1 h2 hi)).symm

/-- The number that a state's symbol has there: how much it has, and one more at each state. -/
def nextN (m S : Nat → Nat) : Nat → Nat → Nat
  | 0 => m
  | i + 1 => fun k => if k = S i then nextN m S i k + 1 else nextN m S i k
theorem nextN_is (m S : Nat → Nat) (k : Nat) : ∀ i, nextN m S i k = m k + occ S k i
  | 0 => rfl
  | i + 1 => by
    show (if k = S i then nextN m S i k + 1 else nextN m S i k) = _
    rw [nextN_is m S k i]
    show _ = m k + (occ S k i + if S i = k then 1 else 0)
    by_cases e : k = S i
    · rw [if_pos e, if_pos e.symm]; omega
    · rw [if_neg e, if_neg (fun h => e h.symm)]; omega
theorem occ_le (S : Nat → Nat) (t : Nat) : ∀ i, occ S t i ≤ i
  | 0 => Nat.le_refl _
  | i + 1 => by
    have := occ_le S t i
    show occ S t i + (if S i = t then 1 else 0) ≤ i + 1
    split <;> omega
def xU (m S : Nat → Nat) (u : Nat) : Nat := nextN m S u (S u)
theorem xU_is (m S : Nat → Nat) (u : Nat) : xU m S u = m (S u) + occ S (S u) u := nextN_is m S _ u
/-- Digits of a number. -/
def blen (x : Nat) : Nat := if x = 0 then 0 else Nat.log2 x + 1
def bitsU (log x : Nat) : Nat := log + 1 - blen x
def baseU (log x : Nat) : Int := ((x * 2 ^ bitsU log x : Nat) : Int) - (2 ^ log : Nat)
theorem blen_le {x k : Nat} (h : x < 2 ^ k) : blen x ≤ k := by
  unfold blen
  split
  · omega
  · rename_i h0; exact (Nat.log2_lt h0).2 h
theorem blen_pos {x : Nat} (h : 0 < x) : 2 ^ (blen x - 1) ≤ x ∧ x < 2 ^ blen x ∧ 1 ≤ blen x := by
  unfold blen
  rw [if_neg (by omega)]
  exact ⟨Nat.log2_self_le (by omega), Nat.lt_log2_self, by omega⟩
/-- A state's span lies in the table. -/
theorem span_in {log x : Nat} (h0 : 0 < x) (h1 : x < 2 ^ (log + 1)) : 2 ^ log ≤ x * 2 ^ bitsU log x ∧ (x + 1) * 2 ^ bitsU log x ≤ 2 ^ (log + 1) ∧ bitsU log x ≤ log := by
  obtain ⟨a, b, c⟩ := blen_pos h0
  have d := blen_le h1
  unfold bitsU
  refine ⟨?_, ?_, by omega⟩
  · have h : 2 ^ (blen x - 1) * 2 ^ (log + 1 - blen x) = 2 ^ log := by rw [← Nat.pow_add]; congr 1; omega
    rw [← h]; exact Nat.mul_le_mul_right _ a
  · have h : 2 ^ blen x * 2 ^ (log + 1 - blen x) = 2 ^ (log + 1) := by rw [← Nat.pow_add]; congr 1; omega
    rw [← h]; exact Nat.mul_le_mul_right _ b
/-- T lies in x's span. -/
def Covers (log x T : Nat) : Prop := x * 2 ^ bitsU log x ≤ T ∧ T < (x + 1) * 2 ^ bitsU log x
theorem covers_iff (log x T : Nat) : Covers log x T ↔ T / 2 ^ bitsU log x = x := by
  have hp := Nat.two_pow_pos (bitsU log x)
  unfold Covers
  constructor
  · rintro ⟨a, b⟩
    exact Nat.le_antisymm (Nat.lt_succ_iff.1 ((Nat.div_lt_iff_lt_mul hp).2 b)) ((Nat.le_div_iff_mul_le hp).2 a)
  · intro h
    exact ⟨(Nat.le_div_iff_mul_le hp).1 (by omega), (Nat.div_lt_iff_lt_mul hp).1 (by omega)⟩
theorem covers_one {log m x y T : Nat} (hx0 : m ≤ x) (hx1 : x < 2 * m) (hy0 : m ≤ y) (hy1 : y < 2 * m) (hx : Covers log x T) (hy : Covers log y T) : x = y := by
  rw [covers_iff] at hx hy
  have key : ∀ x y, m ≤ x → y < 2 * m → T / 2 ^ bitsU log x = x → T / 2 ^ bitsU log y = y → ¬ bitsU log y < bitsU log x := by
    intro x y h1 h2 h3 h4 hlt
    obtain ⟨d, hd⟩ : ∃ d, bitsU log x = bitsU log y + 1 + d := ⟨bitsU log x - bitsU log y - 1, by omega⟩
    rw [hd, Nat.pow_add, Nat.pow_succ, Nat.mul_assoc, ← Nat.div_div_eq_div_mul, h4] at h3
    have hp := Nat.two_pow_pos d
    have : y / (2 * 2 ^ d) ≤ y / 2 := Nat.div_le_div_left (by omega) (by omega)
    omega
  have a := key x y hx0 hy1 hx hy
  have b := key y x hy0 hx1 hy hx
  have e : bitsU log x = bitsU log y := by omega
  rw [← hx, ← hy, e]
theorem blen_is {x k : Nat} (h1 : 2 ^ k ≤ x) (h2 : x < 2 ^ (k + 1)) : blen x = k + 1 := by
  have h0 : x ≠ 0 := by have := Nat.two_pow_pos k; omega
  unfold blen
  rw [if_neg h0]
  have a := (Nat.log2_lt h0).2 h2
  have b := (Nat.le_log2 h0).2 h1
  omega
theorem covers_some {log m T : Nat} (hm : 0 < m) (hm2 : m ≤ 2 ^ log) (hT0 : 2 ^ log ≤ T) (hT1 : T < 2 ^ (log + 1)) : ∃ x, m ≤ x ∧ x < 2 * m ∧ Covers log x T := by
  obtain ⟨a, b, c⟩ := blen_pos hm
  obtain ⟨k, hk⟩ : ∃ k, blen m = k + 1 := ⟨blen m - 1, by omega⟩
  rw [hk] at a b
  simp only [Nat.add_sub_cancel] at a
  have hkl : k ≤ log := (Nat.pow_le_pow_iff_right (by omega)).1 (Nat.le_trans a hm2)
  obtain ⟨r, hr⟩ : ∃ r, log = k + r := ⟨log - k, by omega⟩
  have hp := Nat.two_pow_pos r
  have y0 : 2 ^ k ≤ T / 2 ^ r := (Nat.le_div_iff_mul_le hp).2 (by rw [← Nat.pow_add, ← hr]; exact hT0)
  have y1 : T / 2 ^ r < 2 ^ (k + 1) := (Nat.div_lt_iff_lt_mul hp).2 (by rw [← Nat.pow_add, show k + 1 + r = log + 1 by omega]; exact hT1)
  have hb : bitsU log (T / 2 ^ r) = r := by unfold bitsU; rw [blen_is y0 y1]; omega
  by_cases h : m ≤ T / 2 ^ r
  · refine ⟨T / 2 ^ r, h, ?_, ?_⟩
    · rw [Nat.pow_succ] at y1; omega
    · rw [covers_iff, hb]
  · obtain ⟨r, rfl⟩ : ∃ q, r = q + 1 := by
      cases r with
      | zero =>
        exfalso
        obtain rfl : log = k := by omega
        simp at h; omega
      | succ q => exact ⟨q, rfl⟩
    have hd : T / 2 ^ (r + 1) = T / 2 ^ r / 2 := by rw [Nat.pow_succ, Nat.div_div_eq_div_mul]
    rw [hd] at y0 y1 h
    have x0 : 2 ^ (k + 1) ≤ T / 2 ^ r := by rw [Nat.pow_succ]; omega
    have x1 : T / 2 ^ r < 2 ^ (k + 1 + 1) := by rw [Nat.pow_succ]; omega
    have hb2 : bitsU log (T / 2 ^ r) = r := by unfold bitsU; rw [blen_is x0 x1]; omega
    refine ⟨T / 2 ^ r, ?_, by omega, by rw [covers_iff, hb2]⟩
    omega
/-- Where a symbol has come j times. -/
theorem occ_at (S : Nat → Nat) (t : Nat) : ∀ i j, j < occ S t i → ∃ u, u < i ∧ S u = t ∧ occ S t u = j
  | 0, j, h => by simp [occ, sumN] at h
  | i + 1, j, h => by
    have hs : occ S t (i + 1) = occ S t i + if S i = t then 1 else 0 := rfl
    by_cases h1 : j < occ S t i
    · obtain ⟨u, a, b, c⟩ := occ_at S t i j h1
      exact ⟨u, by omega, b, c⟩
    · by_cases e : S i = t
      · rw [if_pos e] at hs
        exact ⟨i, by omega, e, by omega⟩
      · rw [if_neg e] at hs; omega
theorem occ_mono (S : Nat → Nat) (t : Nat) {i j : Nat} (h : i ≤ j) : occ S t i ≤ occ S t j := sumN_mono _ h
theorem occ_lt (S : Nat → Nat) (t : Nat) {u i : Nat} (h : u < i) (hu : S u = t) : occ S t u < occ S t i := by
  have h1 : occ S t (u + 1) = occ S t u + if S u = t then 1 else 0 := rfl
  rw [if_pos hu] at h1
  have := occ_mono S t (show u + 1 ≤ i from h)
  omega

section
variable {log n : Nat} (h1 : 5 ≤ log) (h2 : log ≤ 9) (m : Nat → Nat) (hm : sumN m n = 2 ^ log)
include h1 h2 hm
/-- What a state's number is like. -/
theorem xU_bd (u : Nat) (hu : u < 2 ^ log) : 0 < xU m (symU m n log) u ∧ m (symU m n log u) ≤ xU m (symU m n log) u ∧ xU m (symU m n log) u < 2 * m (symU m n log u) ∧ xU m (symU m n log) u < 2 ^ (log + 1) := by
  obtain ⟨a, b⟩ := symU_lt h1 h2 m hm u hu
  have c := symU_occ h1 h2 m hm (symU m n log u) a
  have d := occ_lt (symU m n log) (symU m n log u) hu rfl
  have e : m (symU m n log u) ≤ sumN m n := by
    have h := sumN_mono m (show symU m n log u + 1 ≤ n from a)
    rw [sumN] at h; omega
  rw [xU_is]
  rw [hm] at e
  refine ⟨by omega, by omega, by omega, ?_⟩
  rw [Nat.pow_succ]; omega
/-- Each number has one state of a symbol that has some. -/
theorem span_some (s t : Nat) (hs : s < n) (hm0 : 0 < m s) (ht : t < 2 ^ log) : ∃ u, u < 2 ^ log ∧ symU m n log u = s ∧ Covers log (xU m (symU m n log) u) (2 ^ log + t) := by
  have hms : m s ≤ 2 ^ log := by
    rw [← hm]
    have h := sumN_mono m (show s + 1 ≤ n from hs)
    rw [sumN] at h; omega
  obtain ⟨x, a, b, c⟩ := covers_some hm0 hms (T := 2 ^ log + t) (by omega) (by rw [Nat.pow_succ]; omega)
  obtain ⟨u, d, e, f⟩ := occ_at (symU m n log) s (2 ^ log) (x - m s) (by rw [symU_occ h1 h2 m hm s hs]; omega)
  refine ⟨u, d, e, ?_⟩
  have : xU m (symU m n log) u = x := by rw [xU_is, e, f]; omega
  rw [this]; exact c
theorem span_one (t u v : Nat) (hu : u < 2 ^ log) (hv : v < 2 ^ log) (he : symU m n log u = symU m n log v) (cu : Covers log (xU m (symU m n log) u) (2 ^ log + t)) (cv : Covers log (xU m (symU m n log) v) (2 ^ log + t)) : u = v := by
  obtain ⟨_, a1, a2, _⟩ := xU_bd h1 h2 m hm u hu
  obtain ⟨_, b1, b2, _⟩ := xU_bd h1 h2 m hm v hv
  rw [he] at a1 a2
  have hx := covers_one a1 a2 b1 b2 cu cv
  rw [xU_is, xU_is, he] at hx
  rcases Nat.lt_trichotomy u v with h | h | h
  · have := occ_lt (symU m n log) (symU m n log v) h he; omega
  · exact h
  · have := occ_lt (symU m n log) (symU m n log v) h rfl; omega
end
end Go.Proofs.Ytaacphmbkieacaa.Fs
