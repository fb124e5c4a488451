/- The law BitsBack, walked. -/
import Derived.Test.YtefkeofbhjmahaaG
namespace Go.Proofs.Ytefkeofbhjmahaa
open Go.RowKit Go.WideShapes
set_option linter.unusedVariables false

theorem Try.info31 : (Try.prog.info? 31).map (fun i => (i.zero, i.size, i.bytes)) = some (some (.agg #[.int .i64 0, .int .i64 0]), 2, 16) := by kernel_rfl

/-- The numbers that were put, in order: what is written; what the list holds. -/
def catL (ps : List (Nat × Nat)) : List Bool := ps.flatMap fun p => digits p.1 p.2
def recL (ps : List (Nat × Nat)) : List Value := ps.flatMap fun p => [.int .i64 p.1, .int .i64 p.2]
theorem catL_snoc (ps : List (Nat × Nat)) (p : Nat × Nat) : catL (ps ++ [p]) = catL ps ++ digits p.1 p.2 := by simp [catL]
theorem recL_snoc (ps : List (Nat × Nat)) (p : Nat × Nat) : recL (ps ++ [p]) = recL ps ++ [.int .i64 p.1, .int .i64 p.2] := by simp [recL]
theorem recL_length (ps : List (Nat × Nat)) : (recL ps).length = ps.length * 2 := by
  induction ps with
  | nil => rfl
  | cons p r ih => simp [recL] at ih ⊢; omega
theorem recL_get (ps : List (Nat × Nat)) (j : Nat) (p : Nat × Nat) (h : ps[j]? = some p) : (recL ps)[j * 2]? = some (.int .i64 p.1) ∧ (recL ps)[j * 2 + 1]? = some (.int .i64 p.2) := by
  induction ps generalizing j with
  | nil => simp at h
  | cons q r ih =>
    cases j with
    | zero => simp at h; subst h; simp [recL]
    | succ j =>
      simp at h
      have := ih j h
      simp only [recL, List.flatMap_cons, List.cons_append, List.nil_append] at this ⊢
      rw [show (j + 1) * 2 = j * 2 + 1 + 1 by omega, show (j * 2 + 1 + 1) + 1 = (j * 2 + 1) + 1 + 1 by omega]
      simpa using this

theorem own_app {w w1 w2 : World} {v : Value} (h : Touch (fun _ => False) w w1) (hv : OwnB w.heap.size v) (k : Touch (fun k => v.ownBlock = some k) w1 w2) : Touch (fun _ => False) w w2 :=
  h.then k fun i hi hh => by have := hv i hh; omega
theorem src_rec {P : Program} (w : World) {tx e : TypeId} (hk : P.underlying tx = some (.slice e)) (x y : Value) (hx : x.oneCell' = true) (hy : y.oneCell' = true) (w1 : World) (hw : w1.heap = w.heap.push (.cells #[x, y] e (0, 0))) :
    Src P 2 tx (.slice (some ⟨w.heap.size, 0, none⟩) 1 1) 1 [x, y] w1 :=
  Src.ofSlice w1 hk _ 1 1 [x, y] rfl (fun j u hj => by
    match j, hj with
    | 0, hj => simp at hj; subst hj; simp [Addr.add, World.cell?, hw]
    | 1, hj => simp at hj; subst hj; simp [Addr.add, World.cell?, hw]
    | j + 2, hj => simp at hj) (by intro u hu; simp at hu; rcases hu with rfl | rfl <;> assumption)

/-- A list of one's own beside a writer. -/
structure Apart (b : Nat) (vp q : Value) : Prop where
  h1 : q.ownBlock ≠ some b
  h2 : ∀ k, q.ownBlock = some k → vp.ownBlock ≠ some k
theorem Apart.left {n b : Nat} {vp vp' q : Value} (h : Apart b vp q) (hq : ∀ k, q.ownBlock = some k → k < n) (hf : Fresh n vp vp') : Apart b vp' q := by
  refine ⟨h.h1, fun k hk e => ?_⟩
  rcases hf with hf | ⟨m, hm, hle⟩
  · exact h.h2 k hk (by rw [← hf]; exact e)
  · rw [hm] at e; cases e; have := hq _ hk; omega
theorem Apart.right {n b : Nat} {vp q q' : Value} (h : Apart b vp q) (hb : b < n) (hp : ∀ k, vp.ownBlock = some k → k < n) (hf : Fresh n q q') : Apart b vp q' := by
  rcases hf with hf | ⟨m, hm, hle⟩
  · exact ⟨by rw [hf]; exact h.h1, fun k hk => h.h2 k (by rw [← hf]; exact hk)⟩
  · exact ⟨by rw [hm]; intro e; cases e; omega, fun k hk e => by rw [hm] at hk; cases hk; have := hp _ e; omega⟩
theorem row_recs {w : World} {q : Value} {ps : List (Nat × Nat)} (h : w.ownsRow 0 31 2 q ps.length (recL ps)) : ∃ a c g, q = .slice a ps.length c ∧ (0 < ps.length → a = some ⟨g, 0, none⟩) ∧ (ps.length = 0 → a = none ∨ True) ∧
    ∀ j p, ps[j]? = some p → w.cell? ⟨g, j * 2, none⟩ = some (.int .i64 p.1) ∧ w.cell? ⟨g, j * 2 + 1, none⟩ = some (.int .i64 p.2) := by
  rcases row_form h with ⟨hq, hn⟩ | ⟨g, c, hq⟩
  · refine ⟨none, 0, 0, by rw [hq, hn], fun h => by omega, fun _ => .inl rfl, fun j p hj => ?_⟩
    have : ps = [] := List.eq_nil_of_length_eq_zero hn
    subst this; simp at hj
  · refine ⟨_, c, g, hq, fun _ => rfl, fun _ => .inr trivial, fun j p hj => ?_⟩
    obtain ⟨h1, h2⟩ := recL_get ps j p hj
    have c1 := h.cells (g := g) (by rw [hq]; rfl) _ _ h1
    have c2 := h.cells (g := g) (by rw [hq]; rfl) _ _ h2
    have e : ∀ i, (⟨g, 0, none⟩ : Addr).add i = ⟨g, i, none⟩ := fun i => by unfold Addr.add; split <;> simp_all
    rw [e] at c1 c2
    exact ⟨c1, c2⟩

set_option maxRecDepth 100000 in
set_option maxHeartbeats 2000000 in
theorem BitsBack_in (w : World) (a0 : Option Addr) (b0 o0 l0 c0 : Nat) (z0 : Nat → Nat → Int) (w0 : RecsIn 2 w a0 b0 o0 l0 c0 z0) (hl : l0 ≤ 200) :
    Calls Try.prog 11 #[.slice a0 l0 c0] w fun e w' => e = .returned (.bool true) ∧ Below w.heap.size w w' := by
  have d0 : decide ((200 : Int) < (l0 : Int)) = false := by simp; omega
  have Hat := Lib.hid w0.at_
  obtain ⟨i0, hi, hz0, hz1, hz2⟩ := info_parts Try.info31
  go_enter Try.func11, Try.ntmps11
  go_wp2_with fail
  refine (wnew_walk _).mono ?_
  rintro e w1 ⟨rfl, hw1, ht1, hs1⟩
  have Hw1 := Lib.hid hw1
  clear hw1 hs1
  go_wp2_with fail
  go_loopw [4, 5] (fun q i wr => ∃ k : Nat, ∃ ps : List (Nat × Nat), ∃ vp : Value, k ≤ l0 ∧ i = .int .i64 k ∧ Wr wr 53 w.heap.size vp (catL ps) ∧ wr.ownsRow 0 31 2 q ps.length (recL ps) ∧ OwnB w.heap.size vp ∧ OwnB w.heap.size q ∧
      Apart w.heap.size vp q ∧ ps.length ≤ k ∧ (catL ps).length ≤ 24 * k ∧ (∀ p ∈ ps, p.2 ≤ 24 ∧ p.1 < 2 ^ p.2) ∧ Touch (fun _ => False) w wr) (fun _ i _ => l0 - (intOf i).toNat)
  case atStart => exact ⟨0, [], _, by omega, rfl, Hw1.out, World.ownsRow_nil _ _ _ _, OwnB.nil _, OwnB.nil _, ⟨by simp [Value.ownBlock], by simp [Value.ownBlock]⟩, by simp, by simp [catL], by simp, ht1⟩
  case round =>
    obtain ⟨k, ps, vp, hk, rfl, hp, hrow, ho1, ho2, hap, hlen, hcl, hps, ht⟩ := hrel
    have Hp := Lib.hid hp
    have Hrow := Lib.hid hrow
    have Hap := Lib.hid hap
    have Hps := Lib.hid hps
    clear hp hrow hap hps Hw1
    by_cases hlt : k < l0
    · obtain rfl := Hat.out (by omega)
      obtain ⟨e0, e1⟩ := rec2 w0 ht.none hlt
      go_wp2_with fail
      cases hok : putOk (z0 k 0) (z0 k 1) with
      | false =>
        go_region_held3 (fun wx => wx.cell? ⟨b0, o0 + k * 2, none⟩ = some (.int .i64 (z0 k 0)) ∧ wx.cell? ⟨b0, o0 + k * 2 + 1, none⟩ = some (.int .i64 (z0 k 1))) (first | exact ⟨e0, e1⟩) (first | (go_at_call 15; refine (put_no _ _ _ _ hok).mono ?_; rintro e w3 ⟨rfl, rfl⟩))
        go_wp2_with fail
        go_roundw
        case rel => exact ⟨k + 1, ps, vp, by omega, by go_num, Hp.out.drew, Hrow.out.drew, ho1, ho2, Hap.out, by omega, by omega, Hps.out, ht.drew⟩
        case measure => simp [intOf]; omega
      | true =>
        obtain ⟨a, n, ha, hn, hn24, hal⟩ := putOk_yes hok
        have hm : putL (z0 k 0) (z0 k 1) (catL ps) = catL (ps ++ [(a, n)]) := by
          rw [catL_snoc]; unfold putL; rw [hok, ha, hn]; simp
        have Ha := Lib.hid ha
        have Hn := Lib.hid hn
        clear ha hn
        go_region_held3 (fun wx => wx.cell? ⟨b0, o0 + k * 2, none⟩ = some (.int .i64 (z0 k 0)) ∧ wx.cell? ⟨b0, o0 + k * 2 + 1, none⟩ = some (.int .i64 (z0 k 1))) (first | exact ⟨e0, e1⟩ | exact rec2 w0 T3.none hlt) (first | (go_at_call 15; refine (put_is _ _ _ _ _ _ _ true Hp.out.drew (by omega) hok hm).mono ?_; rintro e w3 ⟨rfl, vp3, hp3, ht3, hf3⟩; have T3 := foot_owns ht.drew (Nat.le_refl _) ho1 ht3))
        have hq0 : ∀ k, (_ : Value).ownBlock = some k → k < wr.heap.size := fun k hk => (Hrow.out.lt k hk).2
        have Hap3 := Lib.hid (Hap.out.left hq0 hf3)
        have Hrow3 := Lib.hid (ht3.row Hrow.out.drew (fun i hi hh => by
          rcases hh with hh | hh
          · exact Hap.out.h1 (by rw [hi, hh])
          · exact Hap.out.h2 _ hi hh))
        have Hp3 := Lib.hid hp3
        have ho3 := ho1.fresh hf3 ht.size
        clear hp3 ht3 hf3 e0 e1 hok hm
        go_wp2_with (refine wpList_append_mine rfl (.tmp 35) (.tmp 40) 22 22 rfl 31 i0 (.agg #[.int .i64 0, .int .i64 0]) 2 16 Try.underlying22 hi hz0 hz1 hz2 rfl u4 _ _ rfl (row_heap Hrow3.out rfl) _ 1 [.int .i64 (z0 k 0), .int .i64 (z0 k 1)] rfl (src_rec w3 Try.underlying22 _ _ rfl rfl _ rfl) (by unfold maxLen; omega) (by omega) ?_; intro a4 c4 w4 hown ht4 hf4 _)
        have t4 : Touch (fun k => u4.ownBlock = some k) w3 w4 := ((Touch.refl _ w3).alloc _).trans ht4
        have Hp4 := Lib.hid (Hp3.out.touch t4 Hap3.out.h1 (fun k hk hh => Hap3.out.h2 k hh hk))
        have Hap4 := Lib.hid (Hap3.out.right (n := w3.heap.size + 1) (by have := Hp3.out.lt.1; omega) (fun k hk => by have := Hp3.out.lt.2 k hk; omega) (by simpa using hf4))
        have T4 := Lib.hid (own_app T3 ho2 t4)
        have ho4 := ho2.fresh hf4 (by have := T3.size; simp; omega)
        have Hown := Lib.hid hown
        clear hown t4 ht4 hf4 T3
        go_wp2_with fail
        go_roundw
        case rel => exact ⟨k + 1, ps ++ [(a, n)], vp3, by omega, by go_num, Hp4.out, by rw [recL_snoc, List.length_append, ← Ha.out, ← Hn.out]; exact Hown.out, ho3, ho4, Hap4.out, by simp; omega, by rw [catL_snoc, List.length_append, digits_length]; omega, by intro p hp; rw [List.mem_append] at hp; rcases hp with hp | hp; exact Hps.out p hp; simp at hp; subst hp; exact ⟨hn24, hal⟩, T4.out⟩
        case measure => simp [intOf]; omega
    · obtain rfl : k = l0 := by omega
      obtain ⟨a, c, g, hq, hat, _, hcs⟩ := row_recs Hrow.out
      subst hq
      have Hcs := Lib.hid hcs
      have Hat2 := Lib.hid hat
      obtain ⟨l, hl⟩ : ∃ l, catL ps = l := ⟨_, rfl⟩
      rw [hl] at Hp hcl
      have Hl := Lib.hid hl
      clear hcs hat hl Hrow Hap ho1 ho2 d0
      go_wp2_with fail
      refine (bytes_walk _ _ _ _ Hp.out (by omega)).mono ?_
      rintro e w4 ⟨rfl, hb4, ht4⟩
      go_wp2_with fail
      refine (newr_back _ _ l _ hb4 (by omega)).mono ?_
      rintro e w5 ⟨rfl, v5, hr5, ht5, hf5⟩
      have HR5 := Lib.hid hr5
      have HP5 := Lib.hid ((Hp.out.touch ht4 id (fun _ _ => id)).touch ht5 id (fun _ _ => id))
      have S4 := Lib.hid ht4.size
      have T5 := Lib.hid (ht4.trans ht5)
      clear hb4 hr5 ht4 ht5 hf5 Hp
      go_wp2_with fail
      refine (left_walk _ _ _ _ HR5.out).mono ?_
      rintro e w6 ⟨rfl, rfl⟩
      go_wp2_with fail
      refine (len_walk _ _ _ _ HP5.out).mono ?_
      rintro e w6 ⟨rfl, rfl⟩
      go_wp2_with fail
      go_loopw [8, 9, 10] (fun i _ _ wx => ∃ j : Nat, ∃ v : Value, j ≤ ps.length ∧ i = .int .i64 ((j : Int) - 1) ∧ Wr wx 56 w4.heap.size v (catL (ps.take j)) ∧ Touch (fun _ => False) wr wx) (fun i _ _ _ => (intOf i + 1).toNat)
      case atStart => exact ⟨ps.length, v5, by omega, rfl, by rw [List.take_of_length_le (Nat.le_refl _), Hl.out]; exact HR5.out, T5.out⟩
      case round =>
        obtain ⟨j, v, hj, rfl, hr, htt⟩ := hrel
        have HR := Lib.hid hr
        clear hr HR5 HP5 T5
        by_cases hlt : 0 < j
        · obtain ⟨j, rfl⟩ : ∃ i, j = i + 1 := ⟨j - 1, by omega⟩
          obtain ⟨p, hp⟩ : ∃ p, ps[j]? = some p := ⟨ps[j], by simp⟩
          have hpm : p ∈ ps := List.mem_of_getElem? hp
          obtain ⟨hp24, hp2⟩ := Hps.out p hpm
          obtain ⟨c1, c2⟩ := Hcs.out j p hp
          have ha := Hat2.out (by omega)
          subst ha
          have htk : catL (ps.take (j + 1)) = catL (ps.take j) ++ digits p.1 p.2 := by rw [List.take_add_one, hp]; exact catL_snoc _ _
          have htake := taken_app (catL (ps.take j)) p.1 p.2 hp2 hp24
          rw [← htk] at htake
          have hlen1 : (catL (ps.take (j + 1))).length ≤ 1000000 := by
            have : (catL (ps.take (j + 1))).length ≤ (catL ps).length := by
              have := congrArg (fun x => (catL x).length) (List.take_append_drop (j + 1) ps)
              simp only [catL, List.flatMap_append, List.length_append] at this ⊢
              omega
            rw [Hl.out] at this; omega
          have hj1 : ((j + 1 : Nat) : Int) - 1 = j := by omega
          rw [hj1]
          have k2 := htt.cell c2 id
          have C1 := Lib.hid c1
          have Htake := Lib.hid htake
          obtain ⟨x, hx⟩ : ∃ x, p.1 = x := ⟨_, rfl⟩
          obtain ⟨n, hn⟩ : ∃ n, p.2 = n := ⟨_, rfl⟩
          rw [hx] at Htake C1
          rw [hn] at Htake k2 hp24
          clear c1 c2 htk htake hj1 hp hpm hp2 hx hn
          go_wp2_with fail
          refine (take_walk _ _ _ n _ HR.out hlen1).mono ?_
          rintro e w8 ⟨rfl, v8, hr8, _, ht8⟩
          rw [Htake.out.1, Htake.out.2.2]
          rw [Htake.out.2.1] at hr8
          have HR8 := Lib.hid hr8
          have T8 := Lib.hid (htt.then ht8 (fun i hi hh => by have := S4.out; omega))
          have k1 := T8.out.cell C1.out id
          clear hr8 ht8 k2
          go_wp2_with fail
          go_roundw
          case rel => exact ⟨j, v8, by omega, rfl, HR8.out, T8.out⟩
          case measure => simp [intOf]
        · obtain rfl : j = 0 := by omega
          go_wp2_with fail
          refine (left_walk _ _ _ _ HR.out).mono ?_
          rintro e w8 ⟨rfl, rfl⟩
          rw [show ((catL (List.take 0 ps)).length : Int) = 0 by simp [catL]]
          go_wp2_with fail
          refine (known_walk _).mono ?_
          rintro e w9 ⟨rfl, ht9⟩
          go_wp2_with fail
          go_ret
          exact ⟨rfl, ((ht.trans htt).trans ht9).owned⟩

theorem BitsBack_law (w : World) (a0 : Option Addr) (b0 o0 l0 c0 : Nat) (z0 : Nat → Nat → Int) (w0 : RecsIn 2 w a0 b0 o0 l0 c0 z0) :
    Calls Try.prog 11 #[.slice a0 l0 c0] w fun e w' => e = .returned (.bool true) ∧ Below w.heap.size w w' := by
  by_cases hl : 200 < l0
  · go_enter Try.func11, Try.ntmps11
    go_wp2_with fail
    go_ret
    exact ⟨rfl, Below.refl _ _⟩
  · exact BitsBack_in w a0 b0 o0 l0 c0 z0 w0 (by omega)
end Go.Proofs.Ytefkeofbhjmahaa
