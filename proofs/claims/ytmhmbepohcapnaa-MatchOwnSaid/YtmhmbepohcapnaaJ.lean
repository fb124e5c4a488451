/- match: Clone, Expand. -/
import Derived.Test.YtmhmbepohcapnaaI
namespace Go.Proofs.Ytmhmbepohcapnaa
open Go.RowKit Go.WideShapes
set_option linter.unusedVariables false
set_option linter.unusedSimpArgs false
set_option maxRecDepth 100000

theorem eqlIn_nil (w : World) (d : Nat) (a : Option Addr) (l c : Nat) : (Op.equalIn (d + 1) 22 (.slice a l c) (.slice none 0 0)).run Try.prog w = .ok a.isNone w := by
  cases a <;> simp [Op.equalIn, run_underlying Try.underlying22]
theorem equal_nil (w : World) (a : Option Addr) (l c : Nat) : (Op.equal 22 (.slice a l c) (.slice none 0 0)).run Try.prog w = .ok a.isNone w := eqlIn_nil w 9999 a l c
theorem eql_nil (w : World) (a : Option Addr) (l c : Nat) : (binOp .eql 22 (.slice a l c) (.slice none 0 0)).run Try.prog w = .ok (.bool a.isNone) w := by
  simp [binOp, equal_nil w a l c]
theorem clone_walk (w : World) (a : Option Addr) (b off n c : Nat) (z : Nat → Int) (h : Ints .u8 w a b off n z) (hn : n ≤ 1000000) :
    Calls Try.prog 23 #[.slice a n c] w fun e w' => ∃ v, e = .returned v ∧ w'.ownsRow 0 5 1 v n (cellsZ .u8 z n) ∧ OwnB w.heap.size v ∧ Touch (fun _ => False) w w' := by
  obtain ⟨j0, hj, hj0, hj1, hj2⟩ := info_parts Try.info5
  have H := Lib.hid h
  have en := fun w => eql_nil w a n c
  rcases a with _ | a
  · have h0 : n = 0 := by
      rcases Nat.eq_zero_or_pos n with e | e
      · exact e
      · have := h.at_ e; cases this
    subst h0
    clear h
    go_enter Try.func23, Try.ntmps23
    go_wp2_with fail
    go_ret
    exact ⟨_, rfl, World.ownsRow_nil _ _ _ _, OwnB.nil _, Touch.refl _ _⟩
  · clear h
    go_enter Try.func23, Try.ntmps23
    go_wp2_with (refine wpList_append_mine rfl (.tmp 5) (.tmp 6) 22 22 rfl 5 j0 (.int .u8 0) 1 1 Try.underlying22 hj hj0 hj1 hj2 rfl (.slice (some ⟨w.heap.size, 0, none⟩) 0 0) 0 [] rfl (row_of_tab (m := 0) (F := fun _ => .int .u8 0) (heap_alloc_new _ _) (by unfold maxLen; omega)) _ n _ rfl (src_ints c Try.underlying22 (H.out.touch (Touch.new w _))) (by unfold maxLen; omega) (by omega) ?_; intro a5 c5 w2 hown ht hf _; simp only [Nat.zero_add, List.nil_append] at hown hf ⊢)
    have t2 := own_app (Touch.new w _) (OwnB.here w 0) ht
    have o2 := (OwnB.here w 0).fresh hf (Touch.new w _).size
    go_ret
    exact ⟨_, rfl, hown, o2, t2⟩

theorem row_capV {w : World} {B : Nat} {e : TypeId} {size : Nat} {a : Option Addr} {n c : Nat} {xs : List Value} (h : w.ownsRow B e size (.slice a n c) n xs) : n ≤ c := by
  rcases h.2 with ⟨h, h2⟩ | ⟨g', cap, cur, h, _, _, h2, _⟩
  · cases h; omega
  · cases h; exact h2
/-- Bytes copied from O back. -/
def copyN (all : List Int) (O : Nat) : Nat → List Int
  | 0 => all
  | k + 1 => copyN all O k ++ [(copyN all O k).getD ((copyN all O k).length - O) 0]
theorem copyN_length (all : List Int) (O : Nat) : ∀ k, (copyN all O k).length = all.length + k
  | 0 => rfl
  | k + 1 => by rw [copyN, List.length_append, copyN_length all O k]; rfl
/-- What steps make of a prefix, n bytes z; none: they make nothing. -/
def expF (pre n : Nat) (z : Nat → Int) (most : Int) : List Int → Nat → List (Int × Int × Int) → Option (List Int)
  | all, p, [] => if most < ((all.length + (n - p) : Nat) : Int) - pre then none else some (all ++ seg z p (n - p))
  | all, p, q :: r =>
    if q.1 < 0 ∨ q.2.2 < 0 ∨ ((n - p : Nat) : Int) < q.1 ∨ most - ((all.length : Int) - pre) < q.1 ∨ most - ((all.length : Int) - pre) - q.1 < q.2.2 then none
    else if q.2.1 < 1 ∨ (all.length : Int) + q.1 < q.2.1 then none
    else expF pre n z most (copyN (all ++ seg z p q.1.toNat) q.2.1.toNat q.2.2.toNat) (p + q.1.toNat) r

/-- What Expand gives. -/
def ExpOut (w w' : World) (r : List Int) (pre : Nat) (x : Value) : Prop :=
  ∃ v a c', x = .slice a (r.length - pre) c' ∧ w'.ownsRow 0 5 1 v r.length (vals r) ∧ OwnB w.heap.size v ∧ (0 < r.length - pre → ∃ g, v.ownBlock = some g ∧ a = some ⟨g, pre, none⟩)
def ExpPost (w w' : World) (e : Ending) (pre : Nat) : Option (List Int) → Prop
  | none => e = .returned (.tuple #[.slice none 0 0, .bool false]) ∧ Touch (fun _ => False) w w'
  | some r => ∃ x, e = .returned (.tuple #[x, .bool true]) ∧ ExpOut w w' r pre x ∧ Touch (fun _ => False) w w'

set_option maxHeartbeats 4000000 in
theorem exp_walk (w : World) (a0 : Option Addr) (b0 o0 n0 c0 : Nat) (z0 : Nat → Int) (h0 : Ints .u8 w a0 b0 o0 n0 z0) (hn0 : n0 ≤ 100000)
    (a1 : Option Addr) (b1 o1 n1 c1 : Nat) (z1 : Nat → Int) (h1 : Ints .u8 w a1 b1 o1 n1 z1) (hnc1 : n1 ≤ c1) (hn1 : n1 ≤ 100000)
    (xa : Option Addr) (xb xo xc : Nat) (ps : List (Int × Int × Int)) (hr : Recs w xa xb xo ps) (hps : ps.length ≤ 100000) (most : Int) (hm0 : -1 ≤ most) (hm1 : most ≤ 100000) :
    Calls Try.prog 19 #[.slice a0 n0 c0, .slice a1 n1 c1, .slice xa ps.length xc, .int .i64 most] w fun e w' => ExpPost w w' e n0 (expF n0 n1 z1 most (seg z0 0 n0) 0 ps) := by
  obtain ⟨j0, hj, hj0, hj1, hj2⟩ := info_parts Try.info5
  obtain ⟨R, hR⟩ : ∃ R, expF n0 n1 z1 most (seg z0 0 n0) 0 ps = R := ⟨_, rfl⟩
  obtain ⟨N, hN⟩ : ∃ N, ps.length = N := ⟨_, rfl⟩
  rw [hR]
  rw [hN] at hps ⊢
  have H0 := Lib.hid h0
  have H1 := Lib.hid h1
  have HRc := Lib.hid hr
  have HR := Lib.hid hR
  have HN := Lib.hid hN
  clear h0 h1 hr hR hN
  go_enter Try.func19, Try.ntmps19
  go_wp2_with fail
  refine (clone_walk w a0 b0 o0 n0 c0 z0 H0.out (by omega)).mono ?_
  rintro e w2 ⟨v2, rfl, hown2, ob2, t2⟩
  have hown2' : w2.ownsRow 0 5 1 v2 (seg z0 0 n0).length (vals (seg z0 0 n0)) := by
    rw [seg_length, ← vals_seg]; simpa using hown2
  have HO2 := Lib.hid hown2'
  clear hown2 hown2'
  go_wp2_with fail
  go_loopw [1, 10, 12, 13, 18] (fun s q _ _ i wr => ∃ k p c' : Nat, ∃ a' : Option Addr, ∃ all : List Int, k ≤ N ∧ i = .int .i64 k ∧ s = .slice a' (n1 - p) c' ∧ (0 < n1 - p → a' = some ⟨b1, o1 + p, none⟩) ∧ n1 - p ≤ c' ∧ p ≤ n1 ∧
      n0 ≤ all.length ∧ (all.length = n0 ∨ (all.length : Int) ≤ n0 + most) ∧ expF n0 n1 z1 most all p (ps.drop k) = R ∧ wr.ownsRow 0 5 1 q all.length (vals all) ∧ OwnB w.heap.size q ∧ Touch (fun _ => False) w wr) (fun _ _ _ _ i _ => N - (intOf i).toNat)
  case atStart => exact ⟨0, 0, c1, a1, _, by omega, rfl, rfl, H1.out.at_, by omega, by omega, by rw [seg_length]; omega, .inl (seg_length _ _ _), by simpa using HR.out, HO2.out, ob2, t2⟩
  case round =>
    obtain ⟨k, p, c', a', all, hk, rfl, rfl, ha', hc', hp, hal0, hal1, hexp, hrow, hown, ht⟩ := hrel
    have Hrow := Lib.hid hrow
    obtain ⟨A, hA⟩ : ∃ A, all.length = A := ⟨_, rfl⟩
    have HA := Lib.hid hA
    obtain ⟨qa, qc, rfl⟩ : ∃ qa qc, u10 = .slice qa A qc := by
      rcases row_form hrow with ⟨rfl, hn⟩ | ⟨g, c, rfl⟩
      · exact ⟨none, 0, by rw [← hA, hn]⟩
      · exact ⟨_, c, by rw [← hA]⟩
    rw [hA] at hal0 hal1
    have HrowA : Hid (wr.ownsRow 0 5 1 (.slice qa A qc) A (vals all)) := Lib.hid (by have h := hrow; rw [hA] at h; exact h)
    have hA2 : A ≤ 200000 := by omega
    clear hrow
    by_cases hlt : k < N
    · obtain rfl := HRc.out.at_ (by rw [HN.out]; omega)
      have hk' : k < ps.length := by rw [HN.out]; exact hlt
      rw [List.drop_eq_getElem_cons hk', expF, hA] at hexp
      obtain ⟨k1, k2, k3⟩ := (HRc.out.touch ht).cell k _ (List.getElem?_eq_getElem hk')
      obtain ⟨q, hq⟩ : ∃ q, ps[k] = q := ⟨_, rfl⟩
      rw [hq] at hexp k1 k2 k3
      obtain ⟨L, O, M⟩ := q
      simp only at hexp k1 k2 k3
      clear hq hA
      have f0 : (0 : Int) ≤ (A : Int) - n0 := by omega
      have hc : (L < 0) ∨ (¬ L < 0 ∧ M < 0) ∨ (¬ L < 0 ∧ ¬ M < 0 ∧ ((n1 - p : Nat) : Int) < L) ∨ (¬ L < 0 ∧ ¬ M < 0 ∧ ¬ ((n1 - p : Nat) : Int) < L ∧ most - ((A : Int) - n0) < L) ∨
          (¬ L < 0 ∧ ¬ M < 0 ∧ ¬ ((n1 - p : Nat) : Int) < L ∧ ¬ most - ((A : Int) - n0) < L ∧ most - ((A : Int) - n0) - L < M) ∨ (¬ L < 0 ∧ ¬ M < 0 ∧ ¬ ((n1 - p : Nat) : Int) < L ∧ ¬ most - ((A : Int) - n0) < L ∧ ¬ most - ((A : Int) - n0) - L < M) := by omega
      rcases hc with h | ⟨h, h2⟩ | ⟨h, h2, h3⟩ | ⟨h, h2, h3, h4⟩ | ⟨h, h2, h3, h4, h5⟩ | ⟨h, h2, h3, h4, h5⟩
      rotate_left 5
      · obtain ⟨L, rfl⟩ := Int.eq_ofNat_of_zero_le (show 0 ≤ L by omega)
        obtain ⟨M, rfl⟩ := Int.eq_ofNat_of_zero_le (show 0 ≤ M by omega)
        rw [if_neg (by omega), Int.toNat_natCast, Int.toNat_natCast] at hexp
        have hL : L ≤ n1 - p := by omega
        have hLA : A + L ≤ 300000 := by omega
        have HI : Hid (∀ o, Ints .u8 (wr.alloc o) a' b1 (o1 + p) L (fun i => z1 (p + i))) := Lib.hid fun o => ⟨fun h => ha' (by omega), fun i hi => by
          have := (H1.out.touch (ht.alloc o)).cell (p + i) (by omega)
          rw [← Nat.add_assoc] at this
          exact this⟩
        have HA' := Lib.hid ha'
        have gc1 : L ≤ c' := by omega
        have gd1 : decide ((L : Int) < 0) = false := by simp
        have gd2 : decide ((M : Int) < 0) = false := by simp
        have gd3 : decide (((n1 - p : Nat) : Int) < (L : Int)) = false := by simp; omega
        have gd3' : decide (n1 - p < L) = false := by simp; omega
        have gd4 : decide (most - ((A : Int) - (n0 : Int)) < (L : Int)) = false := by simp; omega
        have gd5 : decide (most - ((A : Int) - (n0 : Int)) - (L : Int) < (M : Int)) = false := by simp; omega
        have gf1 : (L : Int) ≤ 100000 := by omega
        have gf2 : (M : Int) ≤ 200000 := by omega
        have gf3 : most - ((A : Int) - (n0 : Int)) ≤ 100000 := by omega
        have gf4 : (0 : Int) ≤ most - ((A : Int) - (n0 : Int)) := by omega
        clear ha'
        by_cases hO : O < 1 ∨ (A : Int) + L < O
        · rw [if_pos hO] at hexp
          have HE := Lib.hid hexp
          clear hexp
          have hOc : O < 1 ∨ (¬ O < 1 ∧ (A : Int) + L < O) := by omega
          by_cases hcc : c' = L
          all_goals
            rcases hOc with hO1 | ⟨hO1, hO2⟩
            all_goals
              go_wp2_with (refine wpList_append_mine rfl (.tmp 59) (.tmp 63) 22 22 rfl 5 j0 (.int .u8 0) 1 1 Try.underlying22 hj hj0 hj1 hj2 rfl (.slice qa A qc) A _ rfl (row_heap HrowA.out rfl) _ L _ rfl (src_ints _ Try.underlying22 (HI.out _)) (by unfold maxLen; omega) (by omega) ?_; intro a4 c4 w6 hown6 ht6 hf6 _; obtain ⟨bx0, bx1, bx2⟩ := box3 ht6 (own_lt Hrow.out))
              have t6 : Touch (fun k => (Value.slice qa A qc).ownBlock = some k) wr w6 := ((Touch.refl _ wr).alloc _).trans ht6
              have T6 := own_app ht hown t6
              go_ret2
              rw [← HE.out]
              exact ⟨rfl, T6⟩
        · rw [if_neg hO] at hexp
          obtain ⟨O, rfl⟩ := Int.eq_ofNat_of_zero_le (show 0 ≤ O by omega)
          rw [Int.toNat_natCast] at hexp
          have hO1 : 1 ≤ O := by omega
          have hO2 : O ≤ A + L := by omega
          have ge1 : decide ((O : Int) < 1) = false := by simp; omega
          have ge2 : decide ((A : Int) + (L : Int) < (O : Int)) = false := by simp; omega
          have HE := Lib.hid hexp
          clear hexp hO
          by_cases hcc : c' = L
          all_goals
            go_wp2_with (refine wpList_append_mine rfl (.tmp 59) (.tmp 63) 22 22 rfl 5 j0 (.int .u8 0) 1 1 Try.underlying22 hj hj0 hj1 hj2 rfl (.slice qa A qc) A _ rfl (row_heap HrowA.out rfl) _ L _ rfl (src_ints _ Try.underlying22 (HI.out _)) (by unfold maxLen; omega) (by omega) ?_; intro a4 c4 w6 hown6 ht6 hf6 _; obtain ⟨bx0, bx1, bx2⟩ := box3 ht6 (own_lt Hrow.out))
            have t6 : Touch (fun k => (Value.slice qa A qc).ownBlock = some k) wr w6 := ((Touch.refl _ wr).alloc _).trans ht6
            have T6 := Lib.hid (own_app ht hown t6)
            have own6 := hown.fresh hf6 (Nat.le_trans ht.size (by simp))
            rw [vals_seg, ← vals_append] at hown6
            obtain ⟨all1, hall1⟩ : ∃ l, all ++ seg z1 p L = l := ⟨_, rfl⟩
            have hal : all1.length = A + L := by rw [← hall1, List.length_append, seg_length, HA.out]
            rw [hall1, ← hal] at hown6
            have HE2 := HE.out
            rw [hall1] at HE2
            have HE3 := Lib.hid HE2
            have HB := Lib.hid (ht6.heap (heap_alloc_new wr _) (fun h => by have := own_lt Hrow.out _ h; omega))
            have HR6 := Lib.hid hown6
            have hnb : (Value.slice a4 (A + L) c4).ownBlock ≠ some wr.heap.size := fun h => by
              rcases hf6 with hf | ⟨q, hq, hle⟩
              · rw [hf] at h; have := own_lt Hrow.out _ h; omega
              · rw [hq] at h; cases h; rw [World.size_alloc] at hle; omega
            have HAL := Lib.hid hal
            obtain ⟨g, hg⟩ : ∃ g, wr.heap.size = g := ⟨_, rfl⟩
            have hgl : g < w6.heap.size := by have := lt_of_block HB.out; omega
            rw [hg] at HB hnb
            rw [hg]
            clear hown6 hall1 hal HE2 ht6 hf6 t6 bx0 bx1 bx2 hg HE
            go_loopw [10, 81] (fun q i w7 => ∃ j : Nat, j ≤ M ∧ i = .int .i64 j ∧ w7.ownsRow 0 5 1 q (A + L + j) (vals (copyN all1 O j)) ∧ OwnB w.heap.size q ∧ q.ownBlock ≠ some g ∧ w7.heap[g]? = some (.cells #[.int .i64 L, .int .i64 O, .int .i64 M] 29 (0, 0)) ∧ Touch (fun _ => False) w w7) (fun _ i _ => M - (intOf i).toNat)
            case atStart => exact ⟨0, by omega, rfl, by rw [← HAL.out]; exact HR6.out, own6, hnb, HB.out, T6.out⟩
            case round =>
              obtain ⟨j, hjj, rfl, hq, hqo, hqg, hbx, htq⟩ := hrel
              have hcl : (copyN all1 O j).length = A + L + j := by rw [copyN_length, HAL.out]
              obtain ⟨T, hT⟩ : ∃ T, A + L + j = T := ⟨_, rfl⟩
              rw [hT] at hq hcl
              have hOT : O ≤ T := by omega
              have hTB : T ≤ 600000 := by omega
              have HQ := Lib.hid hq
              have HB7 := Lib.hid hbx
              have HTT := Lib.hid hT
              by_cases hjM : j < M
              · obtain ⟨gq, cq, rfl⟩ : ∃ gq cq, u10 = .slice (some ⟨gq, 0, none⟩) T cq := by
                  rcases row_form hq with ⟨_, hn⟩ | ⟨g', c, rfl⟩
                  · omega
                  · exact ⟨_, c, rfl⟩
                have e1 := row_cell (i := T - O) hq rfl (u := .int .u8 ((copyN all1 O j).getD (T - O) 0)) (by unfold vals; rw [List.getElem?_map, List.getD_eq_getElem?_getD, List.getElem?_eq_getElem (by omega)]; rfl)
                have hnx : copyN all1 O (j + 1) = copyN all1 O j ++ [(copyN all1 O j).getD (T - O) 0] := by rw [copyN, hcl]
                obtain ⟨v, hv⟩ : ∃ v, (copyN all1 O j).getD (T - O) 0 = v := ⟨_, rfl⟩
                rw [hv] at e1 hnx
                have b0 := cell_of_row _ _ 0 _ _ _ hbx
                have b1 := cell_of_row _ _ 1 _ _ _ hbx
                have b0' : wr.cell? ⟨g, 1, none⟩ = some (.int .i64 O) := by rw [b1]; rfl
                have f1 : (0 : Int) ≤ (T : Int) - O := by omega
                have f2 : ((T : Int) - (O : Int)).toNat = T - O := by omega
                have f3 : (T : Int) - O < T := by omega
                have HNX := Lib.hid hnx
                have hgw := lt_of_block hbx
                clear hq hbx hcl hT hv hnx b0 b1
                go_wp2_with (refine wpList_append_mine rfl (.tmp 83) (.tmp 92) 22 22 rfl 5 j0 (.int .u8 0) 1 1 Try.underlying22 hj hj0 hj1 hj2 rfl (.slice (some ⟨gq, 0, none⟩) T cq) T _ rfl (row_heap HQ.out rfl) _ 1 [_] rfl (src_at wr.heap.size Try.underlying22 _ rfl _ (heap_alloc_new wr _)) (by unfold maxLen; omega) (by omega) ?_; intro a7 c7 w8 hown8 ht8 hf8 _)
                have t8 : Touch (fun k => (Value.slice (some ⟨gq, 0, none⟩) T cq).ownBlock = some k) wr w8 := ((Touch.refl _ wr).alloc _).trans ht8
                have T8 := own_app htq hqo t8
                have own8 := hqo.fresh hf8 (Nat.le_trans htq.size (by simp))
                have nb8 : (Value.slice a7 (T + 1) c7).ownBlock ≠ some g := fun h => by
                  rcases hf8 with hf | ⟨q, hq, hle⟩
                  · rw [hf] at h; exact hqg h
                  · rw [hq] at h; cases h; rw [World.size_alloc] at hle; omega
                have bx8 := t8.heap HB7.out hqg
                go_roundw
                case rel => exact ⟨j + 1, by omega, by go_num, by rw [show A + L + (j + 1) = T + 1 by have := HTT.out; omega, HNX.out, vals_append]; exact hown8, own8, nb8, bx8, T8⟩
                case measure => simp [intOf]; omega
              · obtain rfl : j = M := by omega
                have hT2 := HTT.out
                go_wp2_with fail
                rw [show n1 - p - L = n1 - (p + L) by omega]
                go_roundw
                case rel => exact ⟨k + 1, p + L, _, _, copyN all1 O j, by omega, by go_num, rfl, fun h => by first | omega | (rw [HA'.out (by omega), ← Nat.add_assoc o1 p L]; first | rfl | exact congrArg some (add_pos rfl _)), by omega, by omega, by rw [hcl]; omega, .inr (by rw [hcl]; omega), HE3.out, by rw [hcl]; exact HQ.out, hqo, htq⟩
                case measure => simp [intOf]; omega
      all_goals
        rw [if_pos (by omega)] at hexp
        have HE := Lib.hid hexp
        clear hexp
        go_wp2_with fail
        go_ret2
        rw [← HE.out]
        exact ⟨rfl, ht.alloc _⟩
    · obtain rfl : k = N := by omega
      have hd : ps.drop k = [] := List.drop_eq_nil_of_le (by rw [HN.out]; omega)
      rw [hd, expF, hA] at hexp
      have HI : Hid (Ints .u8 wr a' b1 (o1 + p) (n1 - p) (fun i => z1 (p + i))) := Lib.hid ⟨ha', fun i hi => by
        have := (H1.out.touch ht).cell (p + i) (by omega)
        rw [← Nat.add_assoc] at this
        exact this⟩
      obtain ⟨T, hT⟩ : ∃ T, A + (n1 - p) = T := ⟨_, rfl⟩
      have HT := Lib.hid hT
      have hTn : n0 ≤ T := by omega
      have hTb : T ≤ 300000 := by omega
      rw [hT] at hexp
      clear hd hA ha' hT
      by_cases hbig : most < (T : Int) - n0
      · rw [if_pos hbig] at hexp
        have HE := Lib.hid hexp
        have gb : decide (most < (T : Int) - (n0 : Int)) = true := by simp; omega
        clear hexp
        go_wp2_with (refine wpList_append_mine rfl (.tmp 96) (.tmp 97) 22 22 rfl 5 j0 (.int .u8 0) 1 1 Try.underlying22 hj hj0 hj1 hj2 rfl (.slice qa A qc) A _ rfl HrowA.out _ (n1 - p) _ rfl (src_ints _ Try.underlying22 HI.out) (by unfold maxLen; omega) (by omega) ?_; intro a4 c4 w6 hown6 ht6 hf6 _; rw [HT.out] at hown6 hf6 ⊢)
        have T6 := own_app ht hown ht6
        go_ret2
        rw [← HE.out]
        exact ⟨rfl, T6⟩
      · rw [if_neg hbig] at hexp
        have HE := Lib.hid hexp
        have gb : decide (most < (T : Int) - (n0 : Int)) = false := by simp; omega
        clear hexp
        go_wp2_with (refine wpList_append_mine rfl (.tmp 96) (.tmp 97) 22 22 rfl 5 j0 (.int .u8 0) 1 1 Try.underlying22 hj hj0 hj1 hj2 rfl (.slice qa A qc) A _ rfl HrowA.out _ (n1 - p) _ rfl (src_ints _ Try.underlying22 HI.out) (by unfold maxLen; omega) (by omega) ?_; intro a4 c4 w6 hown6 ht6 hf6 _; rw [HT.out] at hown6 hf6 ⊢; have hcap := row_capV hown6; by_cases hcn : c4 = n0)
        all_goals
          have T6 := own_app ht hown ht6
          have own6 := hown.fresh hf6 ht.size
          rw [vals_seg, ← vals_append] at hown6
          have hal : (all ++ seg z1 p (n1 - p)).length = T := by rw [List.length_append, seg_length, HA.out]; exact HT.out
          go_ret2
          rw [← HE.out]
          refine ⟨_, rfl, ⟨.slice a4 T c4, _, _, by rw [hal]; rfl, by rw [hal]; exact hown6, own6, fun h => ?_⟩, T6⟩
          rw [hal] at h
          rcases row_form hown6 with ⟨_, hn⟩ | ⟨g', c, hv⟩
          · omega
          · cases hv
            exact ⟨g', rfl, by first | omega | exact (congrArg some (add_pos (a := ⟨g', 0, none⟩) rfl n0)).trans (by rw [Nat.zero_add])⟩
end Go.Proofs.Ytmhmbepohcapnaa
