/- Shares of a table, in plain numbers: sums, the first greatest one, shares made to fit. -/
namespace Go.Proofs.Ytaacphmbkieacaa.Fs
/-- All of n numbers together. -/
def sumZ (z : Nat → Int) : Nat → Int
  | 0 => 0
  | k + 1 => sumZ z k + z k
theorem sumZ_congr {z y : Nat → Int} : ∀ {n : Nat}, (∀ i, i < n → z i = y i) → sumZ z n = sumZ y n
  | 0, _ => rfl
  | n + 1, h => by rw [sumZ, sumZ, sumZ_congr (fun i hi => h i (by omega)), h n (by omega)]
theorem sumZ_nonneg {z : Nat → Int} : ∀ {n : Nat}, (∀ i, i < n → 0 ≤ z i) → 0 ≤ sumZ z n
  | 0, _ => Int.le_refl _
  | n + 1, h => by have := sumZ_nonneg (n := n) (fun i hi => h i (by omega)); have := h n (by omega); rw [sumZ]; omega
theorem sumZ_le {z : Nat → Int} {B : Int} (hB : 0 ≤ B) : ∀ {n : Nat}, (∀ i, i < n → z i ≤ B) → sumZ z n ≤ n * B
  | 0, _ => by simp [sumZ]
  | n + 1, h => by
    have h1 := sumZ_le hB (n := n) (fun i hi => h i (by omega)); have h2 := h n (by omega)
    rw [sumZ]
    have : ((n + 1 : Nat) : Int) * B = n * B + B := by rw [Int.natCast_add, Int.add_mul]; simp
    omega
theorem sumZ_ge {z : Nat → Int} {B : Int} : ∀ {n : Nat}, (∀ i, i < n → B ≤ z i) → n * B ≤ sumZ z n
  | 0, _ => by simp [sumZ]
  | n + 1, h => by
    have h1 := sumZ_ge (n := n) (fun i hi => h i (by omega)); have h2 := h n (by omega)
    rw [sumZ]
    have : ((n + 1 : Nat) : Int) * B = n * B + B := by rw [Int.natCast_add, Int.add_mul]; simp
    omega
theorem sumZ_mono {z : Nat → Int} {n : Nat} (h : ∀ i, i < n → 0 ≤ z i) : ∀ {k : Nat}, k ≤ n → sumZ z k ≤ sumZ z n := by
  induction n with
  | zero => intro k hk; obtain rfl : k = 0 := by omega
            exact Int.le_refl _
  | succ n ih =>
    intro k hk
    by_cases e : k = n + 1
    · subst e; exact Int.le_refl _
    · have h1 := ih (fun i hi => h i (by omega)) (k := k) (by omega)
      have h2 := h n (by omega)
      show sumZ z k ≤ sumZ z n + z n
      omega
theorem sumZ_one {z : Nat → Int} {n i : Nat} (h : ∀ i, i < n → 0 ≤ z i) (hi : i < n) : z i ≤ sumZ z n := by
  have h1 := sumZ_mono (z := z) h (k := i + 1) hi
  have h2 := sumZ_nonneg (z := z) (n := i) (fun j hj => h j (by omega))
  rw [sumZ] at h1
  omega
theorem sumZ_zero {z : Nat → Int} {n : Nat} (h : ∀ i, i < n → 0 ≤ z i) (h0 : sumZ z n = 0) : ∀ i, i < n → z i = 0 := fun i hi => by
  have := sumZ_one h hi; have := h i hi; omega
/-- z with d more at g. -/
def addAt (z : Nat → Int) (g : Nat) (d : Int) : Nat → Int := fun k => if k = g then z k + d else z k
theorem sumZ_addAt (z : Nat → Int) (g : Nat) (d : Int) : ∀ n, sumZ (addAt z g d) n = sumZ z n + if g < n then d else 0
  | 0 => by simp [sumZ]
  | n + 1 => by
    rw [sumZ, sumZ, sumZ_addAt z g d n]
    unfold addAt
    by_cases h1 : n = g
    · subst h1; rw [if_neg (by omega), if_pos rfl, if_pos (by omega)]; omega
    · rw [if_neg h1]
      by_cases h2 : g < n
      · rw [if_pos h2, if_pos (by omega)]; omega
      · rw [if_neg h2, if_neg (by omega)]; omega

/-- Where the first greatest of the first k + 1 numbers stands. -/
def mxI (z : Nat → Int) : Nat → Nat
  | 0 => 0
  | k + 1 => if z (mxI z k) < z (k + 1) then k + 1 else mxI z k
theorem mxI_le (z : Nat → Int) : ∀ k, mxI z k ≤ k
  | 0 => Nat.le_refl _
  | k + 1 => by unfold mxI; have := mxI_le z k; split <;> omega
theorem mxI_ge (z : Nat → Int) : ∀ k i, i ≤ k → z i ≤ z (mxI z k)
  | 0, i, h => by obtain rfl : i = 0 := by omega
                  exact Int.le_refl _
  | k + 1, i, h => by
    unfold mxI
    by_cases e : i = k + 1
    · subst e; split <;> omega
    · have := mxI_ge z k i (by omega); split <;> omega
theorem mxI_first (z : Nat → Int) : ∀ k i, i < mxI z k → z i < z (mxI z k)
  | 0, i, h => by simp [mxI] at h
  | k + 1, i, h => by
    unfold mxI at h ⊢
    split at h
    · rename_i hc
      rw [if_pos hc]
      have := mxI_ge z k i (by omega); omega
    · rename_i hc
      rw [if_neg hc]
      exact mxI_first z k i h
theorem mxI_is {z : Nat → Int} {k g : Nat} (hg : g ≤ k) (h1 : ∀ i, i ≤ k → z i ≤ z g) (h2 : ∀ i, i < g → z i < z g) : mxI z k = g := by
  rcases Nat.lt_trichotomy (mxI z k) g with h | h | h
  · have a := h2 _ h; have b := mxI_ge z k g hg; omega
  · exact h
  · have a := mxI_first z k g h; have b := h1 _ (mxI_le z k); omega

/-- One step: the first greatest gets one more, or one less. -/
def bump (z : Nat → Int) (n : Nat) (size : Int) : Nat → Int := addAt z (mxI z (n - 1)) (if sumZ z n < size then 1 else -1)
/-- Steps until all together are size. -/
def adj (n : Nat) (size : Int) : Nat → (Nat → Int) → Nat → Int
  | 0, z => z
  | f + 1, z => if sumZ z n = size then z else adj n size f (bump z n size)
theorem sumZ_bump (z : Nat → Int) (n : Nat) (size : Int) (hn : 0 < n) : sumZ (bump z n size) n = sumZ z n + if sumZ z n < size then 1 else -1 := by
  unfold bump
  rw [sumZ_addAt, if_pos (by have := mxI_le z (n - 1); omega)]
theorem adj_done (n : Nat) (size : Int) (f : Nat) (z : Nat → Int) (h : sumZ z n = size) : adj n size f z = z := by
  cases f with
  | zero => rfl
  | succ f => rw [adj, if_pos h]
theorem adj_step (n : Nat) (size : Int) (z : Nat → Int) (hn : 0 < n) (h : sumZ z n ≠ size) :
    adj n size (sumZ z n - size).natAbs z = adj n size (sumZ (bump z n size) n - size).natAbs (bump z n size) := by
  obtain ⟨f, hf⟩ : ∃ f, (sumZ z n - size).natAbs = f + 1 := ⟨(sumZ z n - size).natAbs - 1, by omega⟩
  rw [hf, adj, if_neg h]
  congr 1
  rw [sumZ_bump z n size hn]
  split <;> omega
/-- Shares at first. -/
def startZ (c : Nat → Int) (all size : Int) : Nat → Int := fun s => if 0 < c s then max 1 (c s * size / all) else 0
/-- Counts as shares. -/
def normZ (c : Nat → Int) (n : Nat) (log : Nat) : Nat → Int :=
  adj n (2 ^ log : Nat) (sumZ (startZ c (sumZ c n) (2 ^ log : Nat)) n - (2 ^ log : Nat)).natAbs (startZ c (sumZ c n) (2 ^ log : Nat))
/-- May a table be so large; may counts be. -/
def logOk (log : Int) : Bool := decide (5 ≤ log ∧ log ≤ 9)
def all01 (p : Int → Bool) (z : Nat → Int) : Nat → Bool
  | 0 => true
  | n + 1 => all01 p z n && p (z n)
theorem all01_iff (p : Int → Bool) (z : Nat → Int) : ∀ n, all01 p z n = true ↔ ∀ i, i < n → p (z i) = true
  | 0 => by simp [all01]
  | n + 1 => by
    rw [all01, Bool.and_eq_true, all01_iff p z n]
    refine ⟨fun h i hi => ?_, fun h => ⟨fun i hi => h i (by omega), h n (by omega)⟩⟩
    by_cases e : i = n
    · subst e; exact h.2
    · exact h.1 i (by omega)
def normOk (c : Nat → Int) (n : Nat) (log : Int) : Bool := logOk log && decide (n ≤ 32) && all01 (fun x => decide (0 ≤ x ∧ x ≤ 1073741824)) c n && decide (sumZ c n ≠ 0)
def isOk (z : Nat → Int) (n : Nat) (log : Int) : Bool := logOk log && decide (n ≤ 32) && all01 (fun x => decide (0 ≤ x ∧ x ≤ (2 ^ log.toNat : Nat))) z n && decide (sumZ z n = (2 ^ log.toNat : Nat))

/-- What shares are: as many as there are states; who has a count has one. -/
theorem adj_spec (n : Nat) (size : Int) (c : Nat → Int) (hn : 0 < n) (hs : (n : Int) ≤ size) : ∀ f z, f = (sumZ z n - size).natAbs → (∀ i, i < n → 0 ≤ z i) → (∀ i, i < n → (0 < z i ↔ 0 < c i)) → (∃ i, i < n ∧ 0 < c i) →
    sumZ (adj n size f z) n = size ∧ (∀ i, i < n → 0 ≤ adj n size f z i) ∧ (∀ i, i < n → (0 < adj n size f z i ↔ 0 < c i))
  | 0, z, hf, h0, h1, h2 => ⟨by show sumZ z n = size; omega, h0, h1⟩
  | f + 1, z, hf, h0, h1, h2 => by
    have hne : sumZ z n ≠ size := by omega
    rw [adj, if_neg hne]
    have hm := mxI_le z (n - 1)
    have hg := fun i (hi : i < n) => mxI_ge z (n - 1) i (by omega)
    obtain ⟨q, hq, hq0⟩ := h2
    have hqz : 0 < z q := (h1 q hq).2 hq0
    have hmq := hg q hq
    have hmax : 0 < z (mxI z (n - 1)) := by omega
    have hcm : 0 < c (mxI z (n - 1)) := (h1 _ (by omega)).1 hmax
    have h2' : size < sumZ z n → 2 ≤ z (mxI z (n - 1)) := fun hlt => by
      by_cases h : 2 ≤ z (mxI z (n - 1))
      · exact h
      · have := sumZ_le (z := z) (B := 1) (by omega) (n := n) (fun i hi => by have := hg i hi; omega)
        omega
    refine adj_spec n size c hn hs f (bump z n size) ?_ ?_ ?_ ⟨q, hq, hq0⟩
    · rw [sumZ_bump z n size hn]; split <;> omega
    · intro i hi
      have := h0 i hi
      unfold bump addAt
      split
      · rename_i e
        subst e
        split <;> omega
      · exact this
    · intro i hi
      have := h1 i hi
      unfold bump addAt
      split
      · rename_i e
        subst e
        refine ⟨fun _ => hcm, fun _ => ?_⟩
        split
        · omega
        · have := h2' (by omega)
          omega
      · exact this
theorem startZ_bd {c : Nat → Int} {all : Int} {size : Int} {i : Nat} (h0 : 0 ≤ c i) (h1 : c i ≤ all) (hs : 1 ≤ size) : 0 ≤ startZ c all size i ∧ startZ c all size i ≤ size ∧ (0 < startZ c all size i ↔ 0 < c i) := by
  unfold startZ
  split
  · rename_i h
    have h2 : c i * size / all ≤ size := by
      have : c i * size ≤ all * size := Int.mul_le_mul_of_nonneg_right h1 (by omega)
      have h3 := Int.ediv_le_ediv (show 0 < all by omega) this
      rwa [Int.mul_ediv_cancel_left _ (show all ≠ 0 by omega)] at h3
    omega
  · omega
theorem norm_spec (c : Nat → Int) (n log : Nat) (h : normOk c n log = true) :
    sumZ (normZ c n log) n = (2 ^ log : Nat) ∧ (∀ i, i < n → 0 ≤ normZ c n log i) ∧ (∀ i, i < n → (0 < normZ c n log i ↔ 0 < c i)) ∧ isOk (normZ c n log) n log = true := by
  simp only [normOk, logOk, Bool.and_eq_true, decide_eq_true_eq, all01_iff] at h
  obtain ⟨⟨⟨⟨hl1, hl2⟩, hn⟩, hc⟩, hne⟩ := h
  have hp : 2 ^ 5 ≤ 2 ^ log := Nat.pow_le_pow_right (by omega) (by omega)
  have hc0 : ∀ i, i < n → 0 ≤ c i := fun i hi => (hc i hi).1
  have hpos : 0 < n := by
    rcases Nat.eq_zero_or_pos n with e | e
    · subst e; exact absurd rfl hne
    · exact e
  have hall := sumZ_nonneg hc0
  have hex : ∃ i, i < n ∧ 0 < c i := by
    apply Classical.byContradiction
    intro hno
    apply hne
    have : ∀ i, i < n → c i = 0 := fun i hi => by
      have := hc0 i hi
      have : ¬ 0 < c i := fun e => hno ⟨i, hi, e⟩
      omega
    rw [sumZ_congr (y := fun _ => 0) this]
    have := sumZ_le (z := fun _ => 0) (B := 0) (by omega) (n := n) (fun _ _ => by simp)
    have := sumZ_nonneg (z := fun _ => 0) (n := n) (fun _ _ => by simp)
    omega
  have hst : ∀ i, i < n → _ := fun i hi => startZ_bd (c := c) (all := sumZ c n) (size := (2 ^ log : Nat)) (hc0 i hi) (sumZ_one hc0 hi) (by omega)
  obtain ⟨r1, r2, r3⟩ := adj_spec n (2 ^ log : Nat) c hpos (by omega) _ (startZ c (sumZ c n) (2 ^ log : Nat)) rfl (fun i hi => (hst i hi).1) (fun i hi => (hst i hi).2.2) hex
  refine ⟨r1, r2, r3, ?_⟩
  simp only [isOk, logOk, Bool.and_eq_true, decide_eq_true_eq, all01_iff, Int.toNat_natCast]
  refine ⟨⟨⟨⟨hl1, hl2⟩, hn⟩, fun i hi => ⟨r2 i hi, ?_⟩⟩, r1⟩
  have := sumZ_one r2 hi
  have h3 : sumZ (normZ c n log) n = (2 ^ log : Nat) := r1
  show normZ c n log i ≤ _
  rw [← h3]; exact this
end Go.Proofs.Ytaacphmbkieacaa.Fs
