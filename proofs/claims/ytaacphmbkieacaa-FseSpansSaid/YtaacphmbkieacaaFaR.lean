/- fse: Encode: a loop over an iterator. -/
import Derived.Test.YtaacphmbkieacaaFaQ
import Derived.Deep.RegionHeld3
namespace Go.Proofs.Ytaacphmbkieacaa
open Go.RowKit Go.WideShapes Go.Shelf Fs
set_option linter.unusedVariables false
set_option linter.unusedSimpArgs false
set_option maxRecDepth 100000
attribute [local go_sem] Oper.semAt_some

/-! ### A drawn region in a round -/
theorem rows_wide {n : Nat} {P : Program} {row : String} {args : Array Value} {w : World} {R : Value → World → Prop} (h : Go.Rows P row args w R) : Go.RowsIn Fence.wide n P row args w R :=
  fun c cs _ => let ⟨v, w', r, s⟩ := h c cs; ⟨v, w', r, stepsIn_wide.2 s⟩
theorem wpOp_round {P : Program} {ops : Array Oper} {Q : Exit → Act → World → Prop} {i l n : Nat} {K : Act → World → Prop} {a : Act} {w : World} (hd : ∀ (j : Nat) o c, ops[j]? = some o → o.op ≠ .defer c) (hQ : ¬ LetsOut Q) (h : wpOp P ops Q i K a w) :
    wpOpIn (Fence.wide.inRound l) n P ops Q i K a w := by
  unfold wpOp at h
  unfold wpOpIn
  cases ho : ops[i]? with
  | none => simpa only [ho] using h
  | some o =>
    simp only [ho] at h ⊢
    by_cases hw : Region.wanted o (yielded ops a.tmps) = true
    · rw [if_pos hw] at h ⊢
      have h1 := h.resolve_right (fun x => hQ x.2)
      refine ⟨fun _ _ => trivial, ?_⟩
      rw [Fence.inRound_round, Oper.semAt_some l _ o (fun c => hd i o c ho)]
      unfold Oper.wp at h1
      generalize (execOp a.eval o).run P w = r at h1 ⊢
      cases r with
      | ok x w' =>
        cases x <;> simp only [Oper.upon, Oper.uponIn] at h1 ⊢ <;>
          first
            | exact h1
            | exact ⟨fun hh => (by cases hh), CallsIn.inRound l (callsIn_wide.2 h1)⟩
            | exact ⟨fun hh => (by cases hh), rows_wide h1⟩
      | halt x w' => cases x <;> simp only [Oper.upon, Oper.uponIn] at h1 ⊢ <;> exact h1
    · rw [if_neg hw] at h ⊢
      exact ⟨fun _ _ => trivial, h⟩
theorem wpAny_round {P : Program} {md : Region.Mode} {ops : Array Oper} {Q : Exit → Act → World → Prop} {l n : Nat} (hd : ∀ (j : Nat) o c, ops[j]? = some o → o.op ≠ .defer c) (hQ : ¬ LetsOut Q) :
    ∀ (fuel : Nat) (listed : Array Bool) (a : Act) (w : World), wpAny P md ops Q fuel listed a w → wpAnyIn (Fence.wide.inRound l) n P md ops Q fuel listed a w
  | 0, _, _, _, h => h
  | fuel + 1, _, _, _, h => ⟨h.1, fun i hi => wpOp_round hd hQ (wpOp_mono (wpAny_round hd hQ fuel _) (h.2 i hi))⟩
theorem region_round {P : Program} {id : Nat} {ops : Array Oper} {Q : Exit → Act → World → Prop} {S : World → Prop} {a : Act} {w : World} {l n : Nat} (hm : P.follows .mixedOrders = true) (hd : ∀ (j : Nat) o c, ops[j]? = some o → o.op ≠ .defer c) (hQ : ¬ LetsOut Q) (hS : S w.drew)
    (h : S w.drew → wpAnyH P .any ops Q S ops.size (Array.replicate ops.size false) a w.drew) : (Code.region id ops true).wpIn (Fence.wide.inRound l) n P Q a w :=
  wpIn_region_any hm (wpAny_round hd hQ _ _ _ _ (wpAny_of_held _ _ _ _ (h hS)))

/-! ### What the loop keeps -/
theorem not_row {W : World} {row : Option Nat} {B : Nat} (hr : ∀ r, row = some r → B ≤ r ∧ ∃ o : Obj, W.heap[r]? = some o ∧ o.isCells = false) {k : Nat} {cur : Array Value} {e : TypeId} {fr : Nat × Nat} (h : W.heap[k]? = some (.cells cur e fr)) : ¬ row = some k := by
  intro e'
  obtain ⟨_, o, ho, hc⟩ := hr k e'
  rw [h] at ho; cases ho; cases hc
theorem row_touch {X Y : World} {row : Option Nat} (hg : X.grownBy Y row) : Touch (fun k => row = some k) X Y := (Touch.refl _ X).grown hg (fun k e _ => e)
theorem keeps_touch {T : Nat → Prop} {W W' : World} (ht : Touch T W W') (hT : ∀ k o, T k → W.heap[k]? = some o → o.isCells = true) : KeepsOthers W W' :=
  ⟨ht.size, fun k o hk ho => (ht.block k (lt_of_block hk) (fun h => by rw [hT k o h hk] at ho; cases ho)).trans hk⟩
theorem foot_cells {W : World} {t : TypeId} {b : Nat} {v : Value} {l : List Bool} (hw : Wr W t b v l) {k : Nat} {o : Obj} (h : Foot b v k) (hk : W.heap[k]? = some o) : o.isCells = true := by
  rcases h with rfl | hv
  · rw [hw.cell] at hk; cases hk; rfl
  · rcases hw.row.2 with ⟨rfl, _⟩ | ⟨g', cap, cur', rfl, _, hg, _⟩
    · cases hv
    · obtain rfl : g' = k := by simpa [Value.ownBlock] using hv
      rw [hg] at hk; cases hk; rfl
theorem foot_box {W : World} {t : TypeId} {b k : Nat} {v u : Value} {l : List Bool} {e : TypeId} (hw : Wr W t b v l) (h : Boxed W k e u) (h1 : t ≠ e) (h2 : (4 : TypeId) ≠ e) : ¬ Foot b v k := foot_not hw h h1 h2

section
variable (w : World) (P6 P7 P8 B P10 P11 P12 g N : Nat) (V12 : Value) (Sy Bi : Nat → Nat) (Ba : Nat → Int)
structure EncI (pre : List (Int × Int)) (W : World) (t : Nat) (l : List Bool) (v : Value) : Prop where
  enc : encF N Sy Bi Ba (pre.map (·.2)) = some (t, l)
  b6 : Boxed W P6 37 (.slice none 0 0)
  b7 : Boxed W P7 4 (.bool false)
  b8 : Boxed W P8 29 (.slice (some ⟨g, 0, none⟩) N N)
  b10 : Boxed W P10 51 (.pointer (some ⟨B, 0, none⟩))
  b11 : Boxed W P11 3 (.int .i64 t)
  b12 : Boxed W P12 22 V12
  wr : Wr W 82 B v l
  own : OwnB B v
  tab : TabAt W g N Sy Bi Ba
  touch : Touch (fun _ => False) w W
def EncJ (pre : List (Int × Int)) (W : World) : Prop := ∃ t l v, EncI w P6 P7 P8 B P10 P11 P12 g N V12 Sy Bi Ba pre W t l v
def EncX (c : Code) (pre : List (Int × Int)) (W : World) : Prop := c = .ret ∧ encF N Sy Bi Ba (pre.map (·.2)) = none ∧ Boxed W P6 37 (.slice none 0 0) ∧ Boxed W P7 4 (.bool false) ∧ Touch (fun _ => False) w W
theorem encI_touch {pre : List (Int × Int)} {W W' : World} {t : Nat} {l : List Bool} {v : Value} (h : EncI w P6 P7 P8 B P10 P11 P12 g N V12 Sy Bi Ba pre W t l v) (ht : Touch (fun _ => False) W W') : EncI w P6 P7 P8 B P10 P11 P12 g N V12 Sy Bi Ba pre W' t l v :=
  ⟨h.enc, ht.heap h.b6 id, ht.heap h.b7 id, ht.heap h.b8 id, ht.heap h.b10 id, ht.heap h.b11 id, ht.heap h.b12 id, h.wr.touch ht id (fun _ _ => id), h.own, RowAt.touch h.tab ht id, h.touch.trans ht⟩
theorem encJ_own {D : Nat} (hD : w.heap.size ≤ D) : OwnFrom D (EncJ w P6 P7 P8 B P10 P11 P12 g N V12 Sy Bi Ba) := by
  rintro s X Y row ⟨t, l, v, h⟩ hg hr
  have ht := row_touch hg
  refine ⟨t, l, v, h.enc, ht.heap h.b6 (not_row hr h.b6), ht.heap h.b7 (not_row hr h.b7), ht.heap h.b8 (not_row hr h.b8), ht.heap h.b10 (not_row hr h.b10), ht.heap h.b11 (not_row hr h.b11), ht.heap h.b12 (not_row hr h.b12), h.wr.touch ht (not_row hr h.wr.cell) ?_, h.own, ?_, h.touch.grown hg ?_⟩
  · intro k hk
    rcases h.wr.row.2 with ⟨rfl, _⟩ | ⟨g', cap, cur', rfl, _, hg', _⟩
    · cases hk
    · obtain rfl : g' = k := by simpa [Value.ownBlock] using hk
      exact not_row hr hg'
  · obtain ⟨cur, hc, _⟩ := h.tab
    exact RowAt.touch h.tab ht (not_row hr hc)
  · intro k e hk
    have := (hr k e).1
    omega
theorem encX_own {D : Nat} (hD : w.heap.size ≤ D) (c : Code) : OwnFrom D (EncX w P6 P7 N Sy Bi Ba c) := by
  rintro s X Y row ⟨h1, h2, b6, b7, t⟩ hg hr
  have ht := row_touch hg
  refine ⟨h1, h2, ht.heap b6 (not_row hr b6), ht.heap b7 (not_row hr b7), t.grown hg ?_⟩
  intro k e hk
  have := (hr k e).1
  omega
variable {w P6 P7 P8 B P10 P11 P12 g N V12 Sy Bi Ba}
theorem box_far {W : World} {k : Nat} {t : TypeId} {v : Value} (h : Boxed W k t v) {T : Nat → Prop} {W' : World} (ht : Touch T W W') (hk : ¬ T k) : Boxed W' k t v := ht.heap h hk
theorem touch_set (W : World) (k : Nat) (u : Value) : Touch (· = k) W (W.setCell ⟨k, 0, none⟩ u) := (Touch.refl (· = k) W).setCell (p := ⟨k, 0, none⟩) (fun _ => rfl) u
theorem encI_step {pre : List (Int × Int)} {W W3 : World} {t u : Nat} {l l3 : List Bool} {v v3 : Value} {x : Int × Int} (h : EncI w P6 P7 P8 B P10 P11 P12 g N V12 Sy Bi Ba pre W t l v) (n6 : P6 ≠ P11) (n7 : P7 ≠ P11) (n8 : P8 ≠ P11) (n10 : P10 ≠ P11) (n12 : P12 ≠ P11) (nB : B ≠ P11) (n7B : P7 < B) (hB : w.heap.size ≤ B) (h11 : w.heap.size ≤ P11)
    (t3 : Touch (Foot B v) W.drew W3) (hw3 : Wr W3 82 B v3 l3) (f3 : Fresh W.drew.heap.size v v3) (he : encF N Sy Bi Ba ((pre ++ [x]).map (·.2)) = some (u, l3)) :
    EncI w P6 P7 P8 B P10 P11 P12 g N V12 Sy Bi Ba (pre ++ [x]) (W3.setCell ⟨P11, 0, none⟩ (.int .i64 u)) u l3 v3 := by
  have hwd := h.wr.drew
  have b11 : Boxed W3 P11 3 (.int .i64 t) := box_far (W := W.drew) h.b11 t3 (foot_box hwd h.b11 (by decide) (by decide))
  have hf7 : ¬ Foot B v P7 := by
    rintro (h' | h')
    · omega
    · have := h.own _ h'; omega
  have hf11 : ¬ Foot B v3 P11 := foot_box hw3 b11 (by decide) (by decide)
  refine ⟨he, (box_far (W := W.drew) h.b6 t3 (foot_box hwd h.b6 (by decide) (by decide))).other n6 _, (box_far (W := W.drew) h.b7 t3 hf7).other n7 _, (box_far (W := W.drew) h.b8 t3 (foot_box hwd h.b8 (by decide) (by decide))).other n8 _,
    (box_far (W := W.drew) h.b10 t3 (foot_box hwd h.b10 (by decide) (by decide))).other n10 _, b11.set _, (box_far (W := W.drew) h.b12 t3 (foot_box hwd h.b12 (by decide) (by decide))).other n12 _,
    hw3.touch (touch_set _ _ _) nB (fun k hk e => hf11 (Or.inr (by rw [hk, e]))), h.own.fresh f3 (Nat.le_of_lt (lt_of_block h.wr.cell)), ?_, (foot_owns h.touch.drew hB (h.own.mono hB) t3).setCell (fun h => absurd h (Nat.not_lt.2 h11)) _⟩
  · have h1 : TabAt W3 g N Sy Bi Ba := RowAt.touch (RowAt.drewI h.tab) t3 (foot_tab hwd (RowAt.drewI h.tab) (by decide))
    refine RowAt.touch h1 (touch_set _ _ _) ?_
    rintro rfl
    obtain ⟨cur, hc, _⟩ := h1
    rw [show W3.heap[g]? = _ from b11] at hc
    simp at hc
theorem encI_keeps {pre : List (Int × Int)} {W W2 W3 : World} {t u b2 ns D : Nat} {l : List Bool} {v : Value} (h : EncI w P6 P7 P8 B P10 P11 P12 g N V12 Sy Bi Ba pre W t l v) (n12 : P12 ≠ P11) (hB : w.heap.size ≤ B) (h11 : w.heap.size ≤ P11) (hb2 : 0 < ns → b2 < w.heap.size)
    (t2 : Touch (fun _ => False) W W2) (t3 : Touch (Foot B v) W2.drew W3) :
    KeepsFrom D W (W3.setCell ⟨P11, 0, none⟩ (.int .i64 u)) ∧ KeepAt (fun k => k = P12 ∨ (0 < ns ∧ k = b2)) W (W3.setCell ⟨P11, 0, none⟩ (.int .i64 u)) := by
  have ht : Touch (fun k => Foot B v k ∨ k = P11) W (W3.setCell ⟨P11, 0, none⟩ (.int .i64 u)) :=
    ((t2.drew.none).trans (t3.mono fun k _ h => Or.inl h)).trans ((touch_set _ _ _).mono fun k _ h => Or.inr h)
  refine ⟨(keeps_touch ht ?_).from _, KeepAt.of_touch ht ?_⟩
  · rintro k o (hk | rfl) ho
    · exact foot_cells h.wr hk ho
    · rw [show W.heap[k]? = _ from h.b11] at ho; cases ho; rfl
  · rintro k (rfl | ⟨hn, rfl⟩)
    · refine ⟨h.b12.lt, ?_⟩
      rintro (h' | h')
      · exact foot_box h.wr h.b12 (by decide) (by decide) h'
      · exact n12 h'
    · have := hb2 hn
      refine ⟨Nat.lt_of_lt_of_le this h.touch.size, ?_⟩
      rintro ((h' | h') | h')
      · omega
      · have := h.own _ h'; omega
      · omega
theorem enc_fin {pre : List (Int × Int)} {W W3 W4 : World} {t D : Nat} {l : List Bool} {v : Value} {cur : Array Value} (h : EncI w P6 P7 P8 B P10 P11 P12 g N V12 Sy Bi Ba pre W t l v) (hB : w.heap.size ≤ B) (h6 : w.heap.size ≤ P6) (h7 : w.heap.size ≤ P7) (h67 : P6 ≠ P7) (n7B : P7 < B) (hD : w.heap.size ≤ D) (hK : W.heap[D]? = some (.deferred (some [])))
    (t3 : Touch (Foot B v) W W3) (t4 : Touch (fun _ => False) W3 W4) (hh4 : W4.heap[W3.heap.size]? = some (.cells cur 5 (0, 0))) (s : Value) :
    (W4.cell? ⟨P6, 0, none⟩ = some (.slice none 0 0) ∧ W4.frozen? ⟨P6, 0, none⟩ = false ∧ W4.cell? ⟨P7, 0, none⟩ = some (.bool false) ∧ W4.frozen? ⟨P7, 0, none⟩ = false) ∧
    ((W4.setCell ⟨P6, 0, none⟩ s).setCell ⟨P7, 0, none⟩ (.bool true)).heap[D]? = some (.deferred (some [])) ∧
    (((W4.setCell ⟨P6, 0, none⟩ s).setCell ⟨P7, 0, none⟩ (.bool true)).putObj D (.deferred none)).cell? ⟨P6, 0, none⟩ = some s ∧
    (((W4.setCell ⟨P6, 0, none⟩ s).setCell ⟨P7, 0, none⟩ (.bool true)).putObj D (.deferred none)).cell? ⟨P7, 0, none⟩ = some (.bool true) ∧
    Touch (fun _ => False) w (((W4.setCell ⟨P6, 0, none⟩ s).setCell ⟨P7, 0, none⟩ (.bool true)).putObj D (.deferred none)) ∧
    (((W4.setCell ⟨P6, 0, none⟩ s).setCell ⟨P7, 0, none⟩ (.bool true)).putObj D (.deferred none)).heap[W3.heap.size]? = some (.cells cur 5 (0, 0)) := by
  have hf6 : ¬ Foot B v P6 := foot_box h.wr h.b6 (by decide) (by decide)
  have hf7 : ¬ Foot B v P7 := by
    rintro (h' | h')
    · omega
    · have := h.own _ h'; omega
  have hfD : ¬ Foot B v D := fun h' => by have := foot_cells h.wr h' hK; cases this
  have b6 := box_far (box_far h.b6 t3 hf6) t4 id
  have b7 := box_far (box_far h.b7 t3 hf7) t4 id
  have hK4 := t4.heap (t3.heap hK hfD) id
  have l6 : P6 < W3.heap.size := (box_far h.b6 t3 hf6).lt
  have l7 : P7 < W3.heap.size := (box_far h.b7 t3 hf7).lt
  have lD : D < W3.heap.size := lt_of_block (t3.heap hK hfD)
  have d6 : D ≠ P6 := fun e => by rw [e, show W4.heap[P6]? = _ from b6] at hK4; cases hK4
  have d7 : D ≠ P7 := fun e => by rw [e, show W4.heap[P7]? = _ from b7] at hK4; cases hK4
  have hK5 := (touch_set (W4.setCell ⟨P6, 0, none⟩ s) P7 (.bool true)).heap ((touch_set W4 P6 s).heap hK4 d6) d7
  have hg5 := (touch_set (W4.setCell ⟨P6, 0, none⟩ s) P7 (.bool true)).heap ((touch_set W4 P6 s).heap hh4 (by omega)) (by omega)
  have B6 := (b6.set s).other h67 (.bool true)
  have B7 := (b7.other (Ne.symm h67) s).set (.bool true)
  have hp := grownBy_putObj' ((W4.setCell ⟨P6, 0, none⟩ s).setCell ⟨P7, 0, none⟩ (.bool true)) D (.deferred none)
  refine ⟨⟨b6.cell, b6.frozen, b7.cell, b7.frozen⟩, hK5, cell_kept B6.cell hp (fun r e => by cases e; exact ⟨_, hK5, rfl⟩), cell_kept B7.cell hp (fun r e => by cases e; exact ⟨_, hK5, rfl⟩), ?_, ?_⟩
  · refine Touch.grown (((((foot_owns h.touch hB (h.own.mono hB) t3).trans t4).setCell (p := ⟨P6, 0, none⟩) (fun h => absurd h (Nat.not_lt.2 h6)) _).setCell (p := ⟨P7, 0, none⟩) (fun h => absurd h (Nat.not_lt.2 h7)) _)) hp ?_
    intro k e hk
    cases e; omega
  · exact (hp.block _ (lt_of_block hg5) (fun e => by cases e; omega)).trans hg5
end
end Go.Proofs.Ytaacphmbkieacaa
