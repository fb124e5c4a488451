/- Symbols pressed and read, in plain numbers. -/
import Derived.Test.YtaacphmbkieacaaFsB
import Derived.Test.YtaacphmbkieacaaBiH
namespace Go.Proofs.Ytaacphmbkieacaa.Fs
open Go.RowKit

/-- The first one below n. -/
def firstU (p : Nat → Bool) : Nat → Option Nat
  | 0 => none
  | n + 1 => match firstU p n with
    | some u => some u
    | none => if p n then some n else none
theorem firstU_mono {p : Nat → Bool} {n u : Nat} (h : firstU p n = some u) : ∀ {k : Nat}, n ≤ k → firstU p k = some u
  | 0, hk => by obtain rfl : n = 0 := by omega
                exact h
  | k + 1, hk => by
    by_cases e : n = k + 1
    · subst e; exact h
    · have := firstU_mono h (k := k) (by omega)
      simp only [firstU, this]
theorem firstU_step {p : Nat → Bool} {n : Nat} (h : firstU p n = none) : firstU p (n + 1) = if p n then some n else none := by
  simp only [firstU, h]
theorem firstU_spec {p : Nat → Bool} {u : Nat} : ∀ {n : Nat}, firstU p n = some u → u < n ∧ p u = true
  | 0, h => by simp [firstU] at h
  | n + 1, h => by
    cases e : firstU p n with
    | some v =>
      simp only [firstU, e] at h
      obtain rfl : v = u := by simpa using h
      have := firstU_spec e
      exact ⟨by omega, this.2⟩
    | none =>
      rw [firstU_step e] at h
      by_cases hp : p n = true
      · rw [if_pos hp] at h
        obtain rfl : n = u := by simpa using h
        exact ⟨by omega, hp⟩
      · rw [if_neg hp] at h; cases h
theorem firstU_some {p : Nat → Bool} {u : Nat} (hp : p u = true) : ∀ {n : Nat}, u < n → ∃ v, firstU p n = some v
  | 0, h => by omega
  | n + 1, h => by
    cases e : firstU p n with
    | some v => exact ⟨v, by simp only [firstU, e]⟩
    | none =>
      rw [firstU_step e]
      by_cases h2 : u < n
      · obtain ⟨v, hv⟩ := firstU_some hp h2
        rw [e] at hv; cases hv
      · obtain rfl : u = n := by omega
        exact ⟨u, if_pos hp⟩
theorem firstU_none {p : Nat → Bool} : ∀ {n : Nat}, (∀ i, i < n → p i = false) → firstU p n = none
  | 0, _ => rfl
  | n + 1, h => by rw [firstU_step (firstU_none fun i hi => h i (by omega)), h n (by omega)]; rfl
/-- .. as a number; -1. -/
def firstI (p : Nat → Bool) (n : Nat) : Int := match firstU p n with | some u => u | none => -1
theorem firstI_some {p : Nat → Bool} {n u : Nat} (h : firstU p n = some u) : firstI p n = u := by simp only [firstI, h]
theorem firstI_none {p : Nat → Bool} {n : Nat} (h : firstU p n = none) : firstI p n = -1 := by simp only [firstI, h]

/-- A table that can be read. -/
structure TabOk (N : Nat) (Sy Bi : Nat → Nat) (Ba : Nat → Int) : Prop where
  size : N ≤ 512
  sy : ∀ u, u < N → Sy u < 32
  bi : ∀ u, u < N → Bi u ≤ 9
  lo : ∀ u, u < N → 0 ≤ Ba u
  hi : ∀ u, u < N → Ba u + ((2 ^ Bi u : Nat) : Int) ≤ N

/-- Whether a state is the symbol's whose span has t. -/
def hit (Sy Bi : Nat → Nat) (Ba : Nat → Int) (s : Int) (t u : Nat) : Bool := decide ((Sy u : Int) = s) && (decide (Ba u ≤ (t : Int)) && decide ((t : Int) < Ba u + ((2 ^ Bi u : Nat) : Int)))
theorem hit_yes {Sy Bi : Nat → Nat} {Ba : Nat → Int} {s : Int} {t u : Nat} : hit Sy Bi Ba s t u = true ↔ (Sy u : Int) = s ∧ Ba u ≤ (t : Int) ∧ (t : Int) < Ba u + ((2 ^ Bi u : Nat) : Int) := by
  simp [hit]

section
variable (N : Nat) (Sy Bi : Nat → Nat) (Ba : Nat → Int)
/-- One symbol more. -/
def encS (st : Option (Nat × List Bool)) (s : Int) : Option (Nat × List Bool) :=
  match st with
  | none => none
  | some (t, l) => match firstU (hit Sy Bi Ba s t) N with
    | none => none
    | some u => some (u, putL ((t : Int) - Ba u) (Bi u : Int) l)
/-- Symbols, the last one first. -/
def encF (xs : List Int) : Option (Nat × List Bool) := xs.foldl (encS N Sy Bi Ba) (some (0, []))
theorem encF_snoc (xs : List Int) (s : Int) : encF N Sy Bi Ba (xs ++ [s]) = encS N Sy Bi Ba (encF N Sy Bi Ba xs) s := by simp [encF]
theorem encS_none (s : Int) : encS N Sy Bi Ba none s = none := rfl
theorem enc_none (ys : List Int) : ys.foldl (encS N Sy Bi Ba) none = none := by
  induction ys with
  | nil => rfl
  | cons y ys ih => exact ih
theorem encF_none {xs ys : List Int} (h : encF N Sy Bi Ba xs = none) : encF N Sy Bi Ba (xs ++ ys) = none := by
  unfold encF at h ⊢
  rw [List.foldl_append, h, enc_none]
theorem encS_no {t : Nat} {l : List Bool} {s : Int} (h : firstU (hit Sy Bi Ba s t) N = none) : encS N Sy Bi Ba (some (t, l)) s = none := by simp only [encS, h]
theorem encS_yes {t u : Nat} {l : List Bool} {s : Int} (h : firstU (hit Sy Bi Ba s t) N = some u) : encS N Sy Bi Ba (some (t, l)) s = some (u, putL ((t : Int) - Ba u) (Bi u : Int) l) := by simp only [encS, h]

/-- The symbols in the order in which they are pressed. -/
def backL (y : Nat → Int) (n k : Nat) : List Int := (List.range k).map fun j => y (n - 1 - j)
theorem backL_succ (y : Nat → Int) (n k : Nat) : backL y n (k + 1) = backL y n k ++ [y (n - 1 - k)] := by simp [backL, List.range_succ]
theorem backL_len (y : Nat → Int) (n k : Nat) : (backL y n k).length = k := by simp [backL]
theorem backL_pre (y : Nat → Int) (n k d : Nat) : backL y n (k + d) = backL y n k ++ (List.range d).map (fun j => y (n - 1 - (k + j))) := by
  induction d with
  | zero => simp
  | succ d ih => rw [← Nat.add_assoc, backL_succ, ih, List.range_succ]; simp
theorem backL_no {y : Nat → Int} {n k : Nat} (h : encF N Sy Bi Ba (backL y n k) = none) (hk : k ≤ n) : encF N Sy Bi Ba (backL y n n) = none := by
  obtain ⟨d, rfl⟩ : ∃ d, n = k + d := ⟨n - k, by omega⟩
  rw [backL_pre]; exact encF_none _ _ _ _ h

variable {N Sy Bi Ba} (T : TabOk N Sy Bi Ba)
include T
theorem hit_put {s : Int} {t u : Nat} (h : firstU (hit Sy Bi Ba s t) N = some u) : ∃ v : Nat, (t : Int) - Ba u = v ∧ v < 2 ^ Bi u ∧ Bi u ≤ 9 ∧ u < N ∧ (Sy u : Int) = s := by
  obtain ⟨hu, hp⟩ := firstU_spec h
  obtain ⟨h1, h2, h3⟩ := hit_yes.1 hp
  refine ⟨((t : Int) - Ba u).toNat, by omega, ?_, T.bi u hu, hu, h1⟩
  omega
omit T in
theorem putOk_nat {v n : Nat} (h : v < 2 ^ n) (hn : n ≤ 24) : putOk (v : Int) (n : Int) = true := by
  unfold putOk
  have h2 : ((v : Nat) : Int) < 2 ^ n := by have : ((v : Nat) : Int) < ((2 ^ n : Nat) : Int) := by omega
                                            rwa [Int.natCast_pow] at this
  simp only [Int.toNat_natCast, decide_eq_true_eq]
  exact ⟨by omega, by omega, by omega, h2⟩
omit T in
theorem putL_nat {v n : Nat} (l : List Bool) (h : v < 2 ^ n) (hn : n ≤ 24) : putL (v : Int) (n : Int) l = l ++ digits v n := by
  unfold putL
  rw [putOk_nat h hn]
  simp
theorem encF_bd : ∀ (k : Nat) (xs : List Int), xs.length = k → ∀ {t : Nat} {l : List Bool}, encF N Sy Bi Ba xs = some (t, l) → 0 < N → t < N ∧ l.length ≤ 9 * k
  | 0, xs, hx, t, l, h, hN => by
    obtain rfl : xs = [] := by simpa using hx
    simp [encF] at h
    obtain ⟨rfl, rfl⟩ := h
    exact ⟨hN, by simp⟩
  | k + 1, xs, hx, t, l, h, hN => by
    obtain ⟨ys, s, rfl⟩ : ∃ ys s, xs = ys ++ [s] := ⟨xs.dropLast, xs.getLast (by intro e; simp [e] at hx), (List.dropLast_concat_getLast _).symm⟩
    have hy : ys.length = k := by simpa using hx
    rw [encF_snoc] at h
    cases e : encF N Sy Bi Ba ys with
    | none => rw [e] at h; cases h
    | some st =>
      obtain ⟨t', l'⟩ := st
      obtain ⟨_, hl⟩ := encF_bd k ys hy e hN
      rw [e] at h
      cases f : firstU (hit Sy Bi Ba s t') N with
      | none => rw [encS_no _ _ _ _ f] at h; cases h
      | some u =>
        rw [encS_yes _ _ _ _ f] at h
        obtain ⟨v, hv, hv2, hb, hu, _⟩ := hit_put T f
        rw [hv, putL_nat _ hv2 (by omega)] at h
        simp only [Option.some.injEq, Prod.mk.injEq] at h
        obtain ⟨rfl, rfl⟩ := h
        refine ⟨hu, ?_⟩
        rw [List.length_append, digits_length]; omega
/-- Where each symbol has a state for each number, all are pressed. -/
theorem encF_some (hN : 0 < N) : ∀ (k : Nat) (xs : List Int), xs.length = k → (∀ s, s ∈ xs → ∀ t, t < N → ∃ u, u < N ∧ hit Sy Bi Ba s t u = true) → ∃ t l, encF N Sy Bi Ba xs = some (t, l)
  | 0, xs, hx, _ => by
    obtain rfl : xs = [] := by simpa using hx
    exact ⟨0, [], rfl⟩
  | k + 1, xs, hx, h => by
    obtain ⟨ys, s, rfl⟩ : ∃ ys s, xs = ys ++ [s] := ⟨xs.dropLast, xs.getLast (by intro e; simp [e] at hx), (List.dropLast_concat_getLast _).symm⟩
    have hy : ys.length = k := by simpa using hx
    obtain ⟨t, l, e⟩ := encF_some hN k ys hy (fun s hs => h s (by simp [hs]))
    obtain ⟨ht, _⟩ := encF_bd T k ys hy e hN
    obtain ⟨u, hu, hp⟩ := h s (by simp) t ht
    obtain ⟨v, hv⟩ := firstU_some hp hu
    rw [encF_snoc, e, encS_yes _ _ _ _ hv]
    exact ⟨_, _, rfl⟩
end

section
variable (Sy Bi : Nat → Nat) (Ba : Nat → Int)
/-- One symbol read. -/
def decS (st : Option (Nat × List Bool × List Nat)) : Option (Nat × List Bool × List Nat) :=
  match st with
  | none => none
  | some (u, l, o) => if takeOk (Bi u : Int) l.length then some ((Ba u + (takenV l (Bi u : Int) : Int)).toNat, takenL l (Bi u : Int), o ++ [Sy u]) else none
def decK (st : Option (Nat × List Bool × List Nat)) : Nat → Option (Nat × List Bool × List Nat)
  | 0 => st
  | k + 1 => decS Sy Bi Ba (decK st k)
theorem decK_front (st : Option (Nat × List Bool × List Nat)) : ∀ k, decK Sy Bi Ba st (k + 1) = decK Sy Bi Ba (decS Sy Bi Ba st) k
  | 0 => rfl
  | k + 1 => by rw [decK, decK_front st k]; rfl
theorem decK_none : ∀ k, decK Sy Bi Ba none k = none
  | 0 => rfl
  | k + 1 => by rw [decK, decK_none k]; rfl
theorem decK_no {st : Option (Nat × List Bool × List Nat)} {k : Nat} (h : decK Sy Bi Ba st k = none) : ∀ {n : Nat}, k ≤ n → decK Sy Bi Ba st n = none
  | 0, hk => by obtain rfl : k = 0 := by omega
                exact h
  | n + 1, hk => by
    by_cases e : k = n + 1
    · subst e; exact h
    · rw [decK, decK_no h (n := n) (by omega)]; rfl
/-- What stands behind a read: the symbols, if all is read. -/
def decE : Option (Nat × List Bool × List Nat) → Option (List Nat)
  | some (u, l, o) => if u = 0 ∧ l.length = 0 then some o else none
  | none => none
/-- All of a read of n symbols. -/
def decF (L n : Nat) (l : List Bool) : Option (List Nat) :=
  if takeOk (L : Int) l.length then decE (decK Sy Bi Ba (some (takenV l (L : Int), takenL l (L : Int), [])) n) else none

variable {Sy Bi Ba}
theorem takenV_lt (l : List Bool) (n : Nat) : takenV l (n : Int) < 2 ^ n := by
  unfold takenV
  split
  · exact ofBits_lt _ _
  · exact Nat.two_pow_pos _
theorem takenL_le (l : List Bool) (n : Int) : (takenL l n).length ≤ l.length := by
  unfold takenL
  split
  · rw [List.length_take]; omega
  · exact Nat.le_refl _
theorem decK_bd {N : Nat} (T : TabOk N Sy Bi Ba) {u0 : Nat} {l0 : List Bool} (h0 : u0 < N) : ∀ (k : Nat) {u : Nat} {l : List Bool} {o : List Nat}, decK Sy Bi Ba (some (u0, l0, [])) k = some (u, l, o) → u < N ∧ l.length ≤ l0.length ∧ o.length = k ∧ ∀ x, x ∈ o → x < 32
  | 0, u, l, o, h => by
    simp [decK] at h
    obtain ⟨rfl, rfl, rfl⟩ := h
    exact ⟨h0, Nat.le_refl _, rfl, fun x hx => by cases hx⟩
  | k + 1, u, l, o, h => by
    rw [decK] at h
    cases e : decK Sy Bi Ba (some (u0, l0, [])) k with
    | none => rw [e] at h; cases h
    | some st =>
      obtain ⟨v, l', o'⟩ := st
      obtain ⟨a, b, c, d⟩ := decK_bd T h0 k e
      rw [e] at h
      simp only [decS] at h
      split at h
      · simp only [Option.some.injEq, Prod.mk.injEq] at h
        obtain ⟨rfl, rfl, rfl⟩ := h
        have h1 := T.lo v a
        have h2 := T.hi v a
        have h3 := takenV_lt l' (Bi v)
        refine ⟨by omega, ?_, by simp [c], ?_⟩
        · refine Nat.le_trans (takenL_le _ _) b
        · intro x hx
          rcases List.mem_append.1 hx with hx | hx
          · exact d x hx
          · obtain rfl : x = Sy v := by simpa using hx
            exact T.sy v a
      · cases h

/-- What was pressed is read. -/
theorem dec_enc {N : Nat} (T : TabOk N Sy Bi Ba) (hN : 0 < N) : ∀ (k : Nat) (xs : List Int), xs.length = k → ∀ {t : Nat} {l : List Bool} (o : List Nat), encF N Sy Bi Ba xs = some (t, l) → decK Sy Bi Ba (some (t, l, o)) k = some (0, [], o ++ xs.reverse.map Int.toNat)
  | 0, xs, hx, t, l, o, h => by
    obtain rfl : xs = [] := by simpa using hx
    simp [encF] at h
    obtain ⟨rfl, rfl⟩ := h
    simp [decK]
  | k + 1, xs, hx, t, l, o, h => by
    obtain ⟨ys, s, rfl⟩ : ∃ ys s, xs = ys ++ [s] := ⟨xs.dropLast, xs.getLast (by intro e; simp [e] at hx), (List.dropLast_concat_getLast _).symm⟩
    have hy : ys.length = k := by simpa using hx
    rw [encF_snoc] at h
    cases e : encF N Sy Bi Ba ys with
    | none => rw [e] at h; cases h
    | some st =>
      obtain ⟨t', l'⟩ := st
      rw [e] at h
      cases f : firstU (hit Sy Bi Ba s t') N with
      | none => rw [encS_no _ _ _ _ f] at h; cases h
      | some u =>
        rw [encS_yes _ _ _ _ f] at h
        obtain ⟨v, hv, hv2, hb, hu, hs⟩ := hit_put T f
        rw [hv, putL_nat _ hv2 (by omega)] at h
        simp only [Option.some.injEq, Prod.mk.injEq] at h
        obtain ⟨rfl, rfl⟩ := h
        obtain ⟨a1, a2, a3⟩ := taken_app l' v (Bi u) hv2 (by omega)
        rw [decK_front]
        have : decS Sy Bi Ba (some (u, l' ++ digits v (Bi u), o)) = some (t', l', o ++ [Sy u]) := by
          simp only [decS, a3, if_true, a1, a2]
          rw [show (Ba u + (v : Int)).toNat = t' by omega]
        rw [this, dec_enc T hN k ys hy _ e]
        simp [← hs]
end

section
variable {L n : Nat} (h1 : 5 ≤ L) (h2 : L ≤ 9) (m : Nat → Nat) (hm : sumN m n = 2 ^ L)
include h1 h2 hm
theorem tabOk_is (hn : n ≤ 32) : TabOk (2 ^ L) (symU m n L) (fun u => bitsU L (xU m (symU m n L) u)) (fun u => baseU L (xU m (symU m n L) u)) where
  size := by have := Nat.pow_le_pow_right (show 0 < 2 by omega) h2; omega
  sy u hu := by have := (symU_lt h1 h2 m hm u hu).1; omega
  bi u hu := by
    obtain ⟨a, _, _, b⟩ := xU_bd h1 h2 m hm u hu
    have := (span_in a b).2.2; omega
  lo u hu := by
    obtain ⟨a, _, _, b⟩ := xU_bd h1 h2 m hm u hu
    have := (span_in a b).1
    unfold baseU; omega
  hi u hu := by
    obtain ⟨a, _, _, b⟩ := xU_bd h1 h2 m hm u hu
    have c := (span_in a b).2.1
    rw [Nat.add_mul, Nat.pow_succ] at c
    unfold baseU; omega
omit h1 h2 hm in
theorem hit_is (s : Int) (t u : Nat) : hit (symU m n L) (fun u => bitsU L (xU m (symU m n L) u)) (fun u => baseU L (xU m (symU m n L) u)) s t u = true ↔ (symU m n L u : Int) = s ∧ Covers L (xU m (symU m n L) u) (2 ^ L + t) := by
  rw [hit_yes]
  unfold Covers baseU
  rw [Nat.add_mul]
  constructor
  · rintro ⟨a, b, c⟩; exact ⟨a, by omega, by omega⟩
  · rintro ⟨a, b, c⟩; exact ⟨a, by omega, by omega⟩
theorem hit_some (s t : Nat) (hs : s < n) (hm0 : 0 < m s) (ht : t < 2 ^ L) : ∃ u, u < 2 ^ L ∧ hit (symU m n L) (fun u => bitsU L (xU m (symU m n L) u)) (fun u => baseU L (xU m (symU m n L) u)) s t u = true := by
  obtain ⟨u, a, b, c⟩ := span_some h1 h2 m hm s t hs hm0 ht
  exact ⟨u, a, (hit_is m _ _ _).2 ⟨by rw [b], c⟩⟩
end
end Go.Proofs.Ytaacphmbkieacaa.Fs
