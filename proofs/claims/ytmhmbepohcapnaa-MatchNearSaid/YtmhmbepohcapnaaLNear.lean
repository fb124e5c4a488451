/- The law MatchNear, walked. -/
import Derived.Test.YtmhmbepohcapnaaKB
namespace Go.Proofs.Ytmhmbepohcapnaa
open Go.RowKit Go.WideShapes
set_option linter.unusedVariables false
set_option maxRecDepth 100000

/-- What lies in a block of two cells, as what is appended. -/
theorem src_two {P : Program} (g : Nat) {tx e e' : TypeId} (hk : P.underlying tx = some (.slice e')) (u v : Value) (hu : u.oneCell' = true) (hv : v.oneCell' = true) (w1 : World) (hw : w1.heap[g]? = some (.cells #[u, v] e (0, 0))) : Src P 1 tx (.slice (some ⟨g, 0, none⟩) 2 2) 2 [u, v] w1 :=
  Src.ofSlice w1 hk _ 2 2 [u, v] rfl (fun j x hj => by
    have e : (⟨g, 0, none⟩ : Addr).add j = ⟨g, j, none⟩ := by unfold Addr.add; split <;> simp_all
    rw [e, cell_of_row _ _ _ _ _ _ hw]
    simpa using hj) (by intro x hx; simp at hx; rcases hx with rfl | rfl <;> assumption)
/-- Bytes of p first, then others. -/
def NearZ (l : Nat) (z0 z : Nat → Int) (k : Nat) : Prop := 0 < k → ∀ t, t < l → z t = z0 t

set_option maxHeartbeats 1000000 in
theorem MatchNear_in (w : World) (a0 : Option Addr) (b0 o0 l c0 : Nat) (z0 : Nat → Int) (w0 : IntsIn .u8 w a0 b0 o0 l c0 z0) (h4 : 4 ≤ l) (h30 : l ≤ 30) (n : Nat) (hn2 : 2 ≤ n) (hn8 : n ≤ 8) :
    Calls Try.prog 8 #[.slice a0 l c0, .int .i64 n] w fun e w' => e = .returned (.bool true) ∧ Below w.heap.size w w' := by
  obtain ⟨j0, hj, hj0, hj1, hj2⟩ := info_parts Try.info5
  have q0 : decide ((l : Int) < 4) = false := by simp; omega
  have q1 : decide ((30 : Int) < (l : Int)) = false := by simp; omega
  have q2 : decide ((n : Int) < 2) = false := by simp; omega
  have q3 : decide ((8 : Int) < (n : Int)) = false := by simp; omega
  have H0 := Lib.hid (ints_of w0)
  clear w0
  go_enter Try.func8, Try.ntmps8
  go_wp2_with fail
  go_loopw [5, 6] (fun q i wr => ∃ k N : Nat, ∃ z : Nat → Int, k ≤ n ∧ N = k * (l + 2) ∧ i = .int .i64 k ∧ wr.ownsRow 0 5 1 q N (cellsZ .u8 z N) ∧ OwnB w.heap.size q ∧ NearZ l z0 z k ∧ Touch (fun _ => False) w wr) (fun _ i _ => n - (intOf i).toNat)
  case atStart => exact ⟨0, 0, fun _ => 0, by omega, by omega, rfl, World.ownsRow_nil _ _ _ _, OwnB.nil _, fun h => by omega, Touch.refl _ _⟩
  case round =>
    obtain ⟨k, N, z, hk, hN, rfl, hrow, hown, hz, ht⟩ := hrel
    have hN3 : N ≤ 8 * 32 := by rw [hN]; exact Nat.mul_le_mul (by omega) (by omega)
    have Hrow := Lib.hid hrow
    have HN := Lib.hid hN
    have HZ := Lib.hid hz
    clear hrow hN hz
    by_cases hlt : k < n
    · have HI := Lib.hid (H0.out.touch ht)
      go_wp2_with (first
        | (refine wpList_append_mine rfl (.tmp 30) (.tmp 31) 22 22 rfl 5 j0 (.int .u8 0) 1 1 Try.underlying22 hj hj0 hj1 hj2 rfl u5 _ _ rfl Hrow.out _ l _ rfl (src_ints c0 Try.underlying22 HI.out) (by unfold maxLen; omega) (by omega) ?_; intro a5 c5 w2 hown2 ht2 hf2 _)
        | (refine wpList_append_mine rfl (.tmp 32) (.tmp 39) 22 22 rfl 5 j0 (.int .u8 0) 1 1 Try.underlying22 hj hj0 hj1 hj2 rfl (.slice a5 (N + l) c5) (N + l) _ rfl (row_heap hown2 rfl) _ 2 _ rfl (src_two w2.heap.size Try.underlying22 _ _ rfl rfl _ (heap_alloc_new w2 _)) (by unfold maxLen; omega) (by omega) ?_; intro a6 c6 w3 hown3 ht3 hf3 _))
      have t3 : Touch (fun k => (Value.slice a5 (N + l) c5).ownBlock = some k) w2 w3 := ((Touch.refl _ w2).alloc _).trans ht3
      have T2 := own_app ht hown ht2
      have own2 := hown.fresh hf2 ht.size
      have T3 := own_app T2 own2 t3
      have own3 := own2.fresh hf3 (Nat.le_trans T2.size (by simp))
      have hNN : N + l + 2 = (k + 1) * (l + 2) := by rw [Nat.succ_mul, ← HN.out]; omega
      rw [cellsZ_append, show [Value.int IntKind.u8 (200 + (k : Int)), Value.int IntKind.u8 (100 + (k : Int))] = cellsZ .u8 (fun i => if i = 0 then 200 + (k : Int) else 100 + (k : Int)) 2 from rfl, cellsZ_append] at hown3
      go_roundw
      case rel =>
        refine ⟨k + 1, N + l + 2, _, by omega, hNN, by go_num, hown3, own3, ?_, T3⟩
        intro _ t ht
        show (if t < N + l then (if t < N then z t else z0 (t - N)) else _) = z0 t
        rw [if_pos (by omega)]
        by_cases h0 : k = 0
        · have : N = 0 := by rw [HN.out, h0]; omega
          rw [if_neg (by omega), this]; rfl
        · have : l + 2 ≤ N := by rw [HN.out]; exact Nat.le_mul_of_pos_left _ (by omega)
          rw [if_pos (by omega)]
          exact HZ.out (by omega) t ht
      case measure => simp [intOf]; omega
    · obtain rfl : k = n := by omega
      obtain ⟨xa, xb, xc, rfl, hx⟩ := ints_row Hrow.out
      have X := Lib.hid hx
      have HI := Lib.hid (H0.out.touch ht)
      have hN4 : l + 2 ≤ N := by rw [HN.out]; exact Nat.le_mul_of_pos_left _ (by omega)
      have hsome : 0 < (parse (two N z z0) (N + l) N 32).length := by
        refine parse_some _ _ _ 0 32 (by omega) (by omega) (by omega) ?_
        have : lcp (two N z z0) (N + l) 0 N = l := lcp_end rfl fun t ht => by
          unfold two
          rw [if_pos (by omega), if_neg (by omega), show N + t - N = t by omega, Nat.zero_add]
          exact HZ.out (by omega) t ht
        omega
      have hlen := parse_len (two N z z0) (N + l) N 32
      obtain ⟨ps, hps⟩ : ∃ ps, parse (two N z z0) (N + l) N 32 = ps := ⟨_, rfl⟩
      rw [hps] at hsome hlen
      have HPS := Lib.hid hps
      clear hx hps
      go_wp2_with fail
      refine (parse_walk _ _ _ _ N _ _ _ _ _ l _ _ X.out HI.out 32 (by omega) (by omega) (by omega) (by omega)).mono ?_
      rintro e w2 ⟨v2, rfl, hs2⟩
      rw [HPS.out] at hs2
      have T2 := Lib.hid hs2.touch
      obtain ⟨ya, yb, yc, rfl, hr⟩ := recs_row hs2.row
      have R := Lib.hid hr
      clear hs2 hr
      go_wp2_with fail
      refine (ref_parse _ _ _ _ N _ _ _ _ _ l _ _ (X.out.touch T2.out) (HI.out.touch T2.out) 32 (by omega) (by omega) (by omega) (by omega)).mono ?_
      rintro e w3 ⟨v3, rfl, hs3⟩
      rw [HPS.out] at hs3
      have T3 := Lib.hid hs3.touch
      obtain ⟨qa, qb, qc, rfl, hr⟩ := recs_row hs3.row
      have R3 := Lib.hid hr
      have HSM := Lib.hid (same_yes ya yb 0 yc qa qb 0 qc ps w3 (R.out.touch T3.out) R3.out (by omega))
      obtain ⟨M, hM⟩ : ∃ M, ps.length = M := ⟨_, rfl⟩
      rw [hM] at hsome HSM ⊢
      have g1 : decide ((0 : Int) < (M : Int)) = true := by simp; omega
      clear hs3 hr hM
      go_wp2_with fail
      refine HSM.out.mono ?_
      rintro e w4 ⟨rfl, m, rfl⟩
      go_wp2_with fail
      refine (known_walk _).mono ?_
      rintro e w5 ⟨rfl, ht5⟩
      go_wp2_with fail
      go_ret
      exact ⟨rfl, ((((ht.trans T2.out).trans T3.out).drewN m).trans ht5).owned⟩
theorem MatchNear_law (w : World) (a0 : Option Addr) (b0 o0 l0 c0 : Nat) (z0 : Nat → Int) (w0 : IntsIn .u8 w a0 b0 o0 l0 c0 z0) (a1 : Int) (w1 : (Lit.int .i64 a1).wf = true) :
    Calls Try.prog 8 #[.slice a0 l0 c0, .int .i64 a1] w fun e w' => e = .returned (.bool true) ∧ Below w.heap.size w w' := by
  have hc : l0 < 4 ∨ (4 ≤ l0 ∧ 30 < l0) ∨ (4 ≤ l0 ∧ l0 ≤ 30 ∧ a1 < 2) ∨ (4 ≤ l0 ∧ l0 ≤ 30 ∧ 2 ≤ a1 ∧ 8 < a1) ∨ (4 ≤ l0 ∧ l0 ≤ 30 ∧ ∃ n : Nat, a1 = n ∧ 2 ≤ n ∧ n ≤ 8) := by
    by_cases h1 : l0 < 4
    · exact .inl h1
    by_cases h2 : 30 < l0
    · exact .inr (.inl ⟨by omega, h2⟩)
    by_cases h3 : a1 < 2
    · exact .inr (.inr (.inl ⟨by omega, by omega, h3⟩))
    by_cases h4 : 8 < a1
    · exact .inr (.inr (.inr (.inl ⟨by omega, by omega, by omega, h4⟩)))
    · exact .inr (.inr (.inr (.inr ⟨by omega, by omega, a1.toNat, by omega, by omega, by omega⟩)))
  rcases hc with h | ⟨h, h'⟩ | ⟨h, h', h1⟩ | ⟨h, h', h1, h2⟩ | ⟨h, h', n, rfl, h1, h2⟩
  rotate_left 4
  · exact MatchNear_in w a0 b0 o0 l0 c0 z0 w0 h h' n h1 h2
  all_goals
    clear w0 w1
    go_enter Try.func8, Try.ntmps8
    go_wp2_with fail
    go_ret
    exact ⟨rfl, Below.refl _ _⟩
end Go.Proofs.Ytmhmbepohcapnaa
