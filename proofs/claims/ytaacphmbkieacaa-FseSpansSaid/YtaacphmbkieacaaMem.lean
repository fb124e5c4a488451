/- Memory of the call's own: what a call may turn (Touch), rows that are owned, append onto them out of whatever source, as a step of a walk and of a region. Over any program. -/
import Derived.WalkKit
import Derived.Deep.AppendSrc
import Derived.Deep.Upon
import Derived.Deep.QuietTactic
import Derived.BigQuiet
import Derived.Deep.LoopGhost
import Derived.Deep.RegionLaw
import Derived.Deep.RegionHeld3
import Derived.OpenShut
import Derived.Outline
import Derived.Lib.Hide
namespace Go.Proofs.Ytaacphmbkieacaa
open Go.RowKit

theorem ret_bool {a b : Bool} (h : a = b) : Ending.returned (.bool a) = .returned (.bool b) := by rw [h]
theorem ret_int {k : IntKind} {a b : Int} (h : a = b) : Ending.returned (.int k a) = .returned (.int k b) := by rw [h]
theorem quiet_same {P : Program} {f : FuncId} {args : Array Value} {w : World} {n : Nat} {v : Value}
    (h : Calls P f args (w.drewN n) fun e w' => e = .returned v ∧ w.drewN n = w') : Calls P f args (w.drewN n) fun e w'' => e = .returned v ∧ ∃ m, w'' = w.drewN m :=
  h.mono fun _ _ ⟨he, hm⟩ => ⟨he, n, hm.symm⟩

/-- From w to w' only blocks of S, of those that were there, may have turned. -/
structure Touch (S : Nat → Prop) (w w' : World) : Prop where
  os : w'.os = w.os
  tape : w'.tape = w.tape
  output : w'.output = w.output
  size : w.heap.size ≤ w'.heap.size
  block : ∀ k, k < w.heap.size → ¬ S k → w'.heap[k]? = w.heap[k]?

theorem Touch.refl (S : Nat → Prop) (w : World) : Touch S w w := ⟨rfl, rfl, rfl, Nat.le_refl _, fun _ _ _ => rfl⟩
theorem Touch.trans {S : Nat → Prop} {a b c : World} (h : Touch S a b) (k : Touch S b c) : Touch S a c :=
  ⟨k.os.trans h.os, k.tape.trans h.tape, k.output.trans h.output, Nat.le_trans h.size k.size, fun i hi hs => (k.block i (Nat.lt_of_lt_of_le hi h.size) hs).trans (h.block i hi hs)⟩
/-- .. where what the second step may turn is told of blocks that were there at the first. -/
theorem Touch.then {S T : Nat → Prop} {a b c : World} (h : Touch S a b) (k : Touch T b c) (hs : ∀ i, i < a.heap.size → T i → S i) : Touch S a c :=
  ⟨k.os.trans h.os, k.tape.trans h.tape, k.output.trans h.output, Nat.le_trans h.size k.size, fun i hi hn => (k.block i (Nat.lt_of_lt_of_le hi h.size) (fun ht => hn (hs i hi ht))).trans (h.block i hi hn)⟩
theorem Touch.mono {S S' : Nat → Prop} {a b : World} (h : Touch S a b) (hs : ∀ k, k < a.heap.size → S k → S' k) : Touch S' a b :=
  ⟨h.os, h.tape, h.output, h.size, fun i hi hn => h.block i hi fun hk => hn (hs i hi hk)⟩
theorem Touch.none {S : Nat → Prop} {a b : World} (h : Touch (fun _ => False) a b) : Touch S a b := h.mono fun _ _ h => h.elim
theorem Touch.drewN {S : Nat → Prop} {a b : World} (h : Touch S a b) (n : Nat) : Touch S a (b.drewN n) := h.trans ⟨rfl, rfl, rfl, Nat.le_refl _, fun _ _ _ => rfl⟩
theorem Touch.drew {S : Nat → Prop} {a b : World} (h : Touch S a b) : Touch S a b.drew := h.trans ⟨rfl, rfl, rfl, Nat.le_refl _, fun _ _ _ => rfl⟩
theorem Touch.of_drew {S : Nat → Prop} {a b : World} (h : Touch S a.drew b) : Touch S a b := (Touch.refl S a).drew.trans h
theorem Touch.of_drewN {S : Nat → Prop} {a b : World} {n : Nat} (h : Touch S (a.drewN n) b) : Touch S a b := ((Touch.refl S a).drewN n).trans h
theorem Touch.alloc {S : Nat → Prop} {a b : World} (h : Touch S a b) (o : Obj) : Touch S a (b.alloc o) :=
  h.trans ⟨rfl, rfl, rfl, by simp, fun k hk _ => Below.heap_alloc _ _ _ hk⟩
theorem Touch.setCell {S : Nat → Prop} {a b : World} (h : Touch S a b) {p : Addr} (hp : p.block < a.heap.size → S p.block) (u : Value) : Touch S a (b.setCell p u) :=
  ⟨h.os, h.tape, h.output, by simpa [World.setCell] using h.size, fun k hk hs => (Below.heap_setCell _ _ _ _ (by rintro rfl; exact hs (hp hk))).trans (h.block k hk hs)⟩
theorem Touch.below {B : Nat} {a b : World} (h : Touch (fun k => B ≤ k) a b) (hB : B ≤ a.heap.size) : Below B a b :=
  ⟨h.os, h.tape, h.output, h.size, fun k hk => h.block k (by omega) (by omega)⟩
theorem Touch.of_below {B : Nat} {S : Nat → Prop} {a b : World} (h : Below B a b) (hs : ∀ k, B ≤ k → k < a.heap.size → S k) : Touch S a b :=
  ⟨h.os, h.tape, h.output, h.size, fun k hk hn => h.block k (Nat.lt_of_not_le fun e => hn (hs k e hk))⟩
theorem Touch.grown {S : Nat → Prop} {a b c : World} {r : Option Nat} (h : Touch S a b) (hg : b.grownBy c r) (hr : ∀ k, r = some k → k < a.heap.size → S k) : Touch S a c :=
  ⟨hg.os.trans h.os, hg.tape.trans h.tape, hg.output.trans h.output, Nat.le_trans h.size hg.size, fun k hk hs => (hg.block k (Nat.lt_of_lt_of_le hk h.size) (fun e => hs (hr k e.symm hk))).trans (h.block k hk hs)⟩
theorem Touch.cell {S : Nat → Prop} {a b : World} (h : Touch S a b) {p : Addr} {v : Value} (hp : a.cell? p = some v) (hs : ¬ S p.block) : b.cell? p = some v := by
  rw [World.cell?_of_block (w := a) (h.block p.block (World.block_lt_of_cell? _ _ hp) hs)]; exact hp
theorem Touch.heap {S : Nat → Prop} {a b : World} (h : Touch S a b) {k : Nat} {o : Obj} (hp : a.heap[k]? = some o) (hs : ¬ S k) : b.heap[k]? = some o := by
  rw [h.block k (lt_of_block hp) hs]; exact hp
theorem Touch.row {S : Nat → Prop} {a b : World} (h : Touch S a b) {B : Nat} {e : TypeId} {size : Nat} {v : Value} {n : Nat} {xs : List Value} (ho : a.ownsRow B e size v n xs) (hs : ∀ k, v.ownBlock = some k → ¬ S k) : b.ownsRow B e size v n xs := by
  refine ⟨ho.1, ?_⟩
  rcases ho.2 with h2 | ⟨g, cap, cur, rfl, hb, hg, r⟩
  · exact .inl h2
  · exact .inr ⟨g, cap, cur, rfl, hb, h.heap hg (hs g rfl), r⟩

/-- The block of v is the one of u, or one from n on. -/
def Fresh (n : Nat) (u v : Value) : Prop := v.ownBlock = u.ownBlock ∨ ∃ k, v.ownBlock = some k ∧ n ≤ k

theorem heap_setCell_same {w : World} {g o : Nat} {cur : Array Value} {e : TypeId} {fr : Nat × Nat} (h : w.heap[g]? = some (.cells cur e fr)) (u : Value) :
    (w.setCell ⟨g, o, none⟩ u).heap[g]? = some (.cells (cur.setIfInBounds o u) e fr) := by
  have hlt := lt_of_block h
  have h' : w.heap[g] = .cells cur e fr := by simpa [Array.getElem?_eq_getElem hlt] using h
  show (w.heap.modify g _)[g]? = _
  rw [Array.getElem?_eq_getElem (by simpa using hlt), Array.getElem_modify_self, h']
  rfl

theorem heap_setCells {g : Nat} {e : TypeId} {fr : Nat × Nat} : ∀ (vs : List Value) (o : Nat) (w : World) (cur : Array Value), w.heap[g]? = some (.cells cur e fr) → o + vs.length ≤ cur.size →
    ∃ cur' : Array Value, (w.setCells g o vs).heap[g]? = some (.cells cur' e fr) ∧ cur'.size = cur.size ∧ cur'.toList.take (o + vs.length) = cur.toList.take o ++ vs
  | [], o, w, cur, h, _ => ⟨cur, h, rfl, by simp⟩
  | v :: r, o, w, cur, h, hl => by
    simp only [List.length_cons] at hl
    obtain ⟨cur', h1, h2, h3⟩ := heap_setCells r (o + 1) (w.setCell ⟨g, o, none⟩ v) (cur.setIfInBounds o v) (heap_setCell_same h v) (by simp; omega)
    refine ⟨cur', h1, by simpa using h2, ?_⟩
    simp only [List.length_cons]
    rw [show o + (r.length + 1) = o + 1 + r.length by omega, h3]
    have : (cur.setIfInBounds o v).toList.take (o + 1) = cur.toList.take o ++ [v] := by
      have ho : o < cur.toList.length := by rw [Array.length_toList]; omega
      rw [Array.toList_setIfInBounds, List.take_add_one, List.take_set_of_le (Nat.le_refl _), List.getElem?_set_self ho]
      rfl
    rw [this]; simp

theorem touch_setCells (g : Nat) : ∀ (vs : List Value) (o : Nat) (w : World), Touch (· = g) w (w.setCells g o vs)
  | [], _, w => Touch.refl _ w
  | v :: r, o, w => ((Touch.refl (· = g) w).setCell (p := ⟨g, o, none⟩) (fun _ => rfl) v).trans (touch_setCells g r (o + 1) _)

theorem Touch.grownBy {w w' : World} {r : Option Nat} (h : Touch (fun k => r = some k) w w') : w.grownBy w' r :=
  ⟨h.os, h.tape, h.output, h.size, fun k hk hn => h.block k hk (fun e => hn e.symm)⟩

section
variable {P : Program}

theorem fits_row {w : World} {e : TypeId} {size : Nat} {g cap : Nat} {cur : Array Value} (hg : w.heap[g]? = some (.cells cur e (0, 0))) (hcs : cur.size = cap * size) (k : Nat) (hk : k < cap * size) :
    (w.cell? ⟨g, k, none⟩).isSome = true ∧ w.frozen? ⟨g, k, none⟩ = false := by
  refine ⟨?_, by simp [World.frozen?, hg]⟩
  simp [World.cell?, hg]; omega

/-- append onto a row of the call's own, out of whatever source. -/
theorem run_append_mine (w : World) (t tx ty e : TypeId) (i : TypeInfo) (z : Value) (size bytes : Nat) (ht : P.underlying t = some (.slice e)) (hi : P.info? e = some i) (hz : i.zero = some z)
    (hsize : i.size = size) (hby : i.bytes = bytes) (hzs : z.cells.size = size) (v : Value) (n : Nat) (xs : List Value) (hown : w.ownsRow 0 e size v n xs)
    (x : Value) (m : Nat) (news : List Value) (hs : Src P size tx x m news w) (h63 : n + m ≤ maxLen) (hbytes : (n + m) * bytes ≤ 140737488355328) :
    ∃ a' c' w', (Builtin.append_ #[t, tx] ty #[v, x]).run P w = .ok (.slice a' (n + m) c') w' ∧ w'.ownsRow 0 e size (.slice a' (n + m) c') (n + m) (xs ++ news) ∧ Touch (fun k => v.ownBlock = some k) w w' ∧ Fresh w.heap.size v (.slice a' (n + m) c') ∧ (v.ownBlock ≠ none ∨ 0 < m → a' ≠ none) := by
  subst hsize
  subst hby
  have hsmall : n + m ≤ 9223372036854775807 := by simp only [maxLen] at h63; omega
  have hlen : (xs ++ news).length = (n + m) * i.size := by rw [List.length_append, hown.1, hs.newsLen, Nat.add_mul]
  have grow : ∀ (base : Option Addr) (sCap : Nat), (Builtin.firstCells i.size n (.slice base n sCap)).run P w.drew = .ok xs.toArray w.drew → sCap < n + m → v = .slice base n sCap →
      ∃ a' c' w', (Builtin.append_ #[t, tx] ty #[v, x]).run P w = .ok (.slice a' (n + m) c') w' ∧ w'.ownsRow 0 e i.size (.slice a' (n + m) c') (n + m) (xs ++ news) ∧ Touch (fun k => v.ownBlock = some k) w w' ∧ Fresh w.heap.size v (.slice a' (n + m) c') ∧ (v.ownBlock ≠ none ∨ 0 < m → a' ≠ none) := by
    intro base sCap hold hg hv
    subst hv
    have hr := run_append_grow_src (P := P) w t tx ty e i z ht hi hz base n sCap xs hold x m news hs hg (by omega) (growslice_fits (by omega) hbytes)
    refine ⟨_, _, _, hr, ⟨hlen, .inr ⟨w.heap.size, _, _, rfl, Nat.zero_le _, heap_alloc_new w.drew _, grownCap_ge w (n + m) sCap e, grownCap_le_maxLen w (n + m) sCap e h63, ?_, ?_⟩⟩, ((Touch.refl _ w).drew).alloc _, .inr ⟨w.heap.size, rfl, Nat.le_refl _⟩, fun _ => by simp⟩
    · simp only [Array.size_append, List.size_toArray, size_zeroCells, hzs, hlen, ← Nat.add_mul]
      congr 1
      have := grownCap_ge w (n + m) sCap e
      omega
    · rw [Array.toList_append, ← hlen]
      exact List.take_left
  rcases hown.2 with ⟨hv, hn⟩ | ⟨g, cap, cur, hv, _, hg, hnc, hcm, hcs, htake⟩
  · have hx : xs = [] := List.eq_nil_of_length_eq_zero (by simpa [hn] using hown.1)
    by_cases hm : m = 0
    · subst hm hv hn
      have hnews : news = [] := List.eq_nil_of_length_eq_zero (by simpa using hs.newsLen)
      subst hnews hx
      exact ⟨_, _, _, run_append_nothing w t tx ty e i ht hi none 0 0 (Nat.le_refl _) x hs, World.ownsRow_nil w 0 e i.size, Touch.refl _ w, .inl rfl, fun h => by rcases h with h | h; (exact absurd rfl h); omega⟩
    · exact grow none 0 (by rw [hx, hn]; exact run_firstCells_none w.drew i.size 0 0 0) (by omega) (by rw [hv, hn])
  · by_cases hroom : n + m ≤ cap
    · subst hv
      have hfit : n * i.size + news.length ≤ cap * i.size := by rw [hs.newsLen, ← Nat.add_mul]; exact Nat.mul_le_mul_right _ hroom
      have hr := run_append_room_src (P := P) w t tx ty e i ht hi g 0 n cap x m news hs hroom
        (fun j hj => by rw [Nat.zero_add]; exact (fits_row hg hcs _ (by omega)).1) (fun j hj => by rw [Nat.zero_add]; exact (fits_row hg hcs _ (by omega)).2)
      rw [Nat.zero_add] at hr
      obtain ⟨cur', k1, k2, k3⟩ := heap_setCells news (n * i.size) w cur hg (by rw [hcs]; exact hfit)
      refine ⟨_, _, _, hr, ⟨hlen, .inr ⟨g, cap, cur', rfl, Nat.zero_le _, k1, hroom, hcm, by rw [k2, hcs], ?_⟩⟩, (touch_setCells g _ _ _).mono (fun k _ e => by simp [Value.ownBlock, e]), .inl rfl, fun _ => by simp⟩
      rw [Nat.add_mul, ← hs.newsLen, k3, htake]
    · have holds : ∀ j u, xs[j]? = some u → w.drew.cell? ((⟨g, 0, none⟩ : Addr).add j) = some u := by rw [hv] at hown; exact hown.cells (g := g) rfl
      exact grow (some ⟨g, 0, none⟩) cap (run_firstCells_some w.drew i.size n ⟨g, 0, none⟩ n cap xs hown.1 holds) (by omega) hv

theorem wp_append_mine {w : World} {o : Oper} {a : Act} {K : Act → World → Prop} {Q : Exit → Act → World → Prop} (s x : Operand) (t tx : TypeId)
    (ho : o.op = .call { callee := .builtin .append, args := #[s, x], argTypes := #[t, tx] })
    (e : TypeId) (i : TypeInfo) (z : Value) (size bytes : Nat) (ht : P.underlying t = some (.slice e)) (hi : P.info? e = some i) (hz : i.zero = some z)
    (hsize : i.size = size) (hby : i.bytes = bytes) (hzs : z.cells.size = size) (v : Value) (n : Nat) (xs : List Value) (hv : a.eval s = v) (hown : w.ownsRow 0 e size v n xs)
    (xv : Value) (m : Nat) (news : List Value) (hx : a.eval x = xv) (hs : Src P size tx xv m news w) (h63 : n + m ≤ maxLen) (hbytes : (n + m) * bytes ≤ 140737488355328)
    (h : ∀ a' c' w', w'.ownsRow 0 e size (.slice a' (n + m) c') (n + m) (xs ++ news) → Touch (fun k => v.ownBlock = some k) w w' → Fresh w.heap.size v (.slice a' (n + m) c') → (v.ownBlock ≠ none ∨ 0 < m → a' ≠ none) → K (a.put o.dst (.slice a' (n + m) c')) w') : o.wp P a w K Q := by
  obtain ⟨a', c', w', hr, h2, h3, h4, h5⟩ := run_append_mine (P := P) w t tx o.type e i z size bytes ht hi hz hsize hby hzs v n xs hown xv m news hs h63 hbytes
  unfold Oper.wp execOp
  simp only [ho, resolve, invoke, builtin, Sem.run_bind, Sem.run_pure, Result.andThen_ok, List.map_toArray, List.map_cons, List.map_nil, hv, hx, hr]
  exact h a' c' w' h2 h3 h4 h5

/-- .. in a walk. -/
theorem wpList_append_mine {w : World} {ops : Array Oper} {rest : List Oper} {o : Oper} {a : Act} {Q : Exit → Act → World → Prop} (hgd : o.guard = none) (s x : Operand) (t tx : TypeId)
    (ho : o.op = .call { callee := .builtin .append, args := #[s, x], argTypes := #[t, tx] })
    (e : TypeId) (i : TypeInfo) (z : Value) (size bytes : Nat) (ht : P.underlying t = some (.slice e)) (hi : P.info? e = some i) (hz : i.zero = some z)
    (hsize : i.size = size) (hby : i.bytes = bytes) (hzs : z.cells.size = size) (v : Value) (n : Nat) (xs : List Value) (hv : a.eval s = v) (hown : w.ownsRow 0 e size v n xs)
    (xv : Value) (m : Nat) (news : List Value) (hx : a.eval x = xv) (hs : Src P size tx xv m news w) (h63 : n + m ≤ maxLen) (hbytes : (n + m) * bytes ≤ 140737488355328)
    (h : ∀ a' c' w', w'.ownsRow 0 e size (.slice a' (n + m) c') (n + m) (xs ++ news) → Touch (fun k => v.ownBlock = some k) w w' → Fresh w.heap.size v (.slice a' (n + m) c') → (v.ownBlock ≠ none ∨ 0 < m → a' ≠ none) → wpList P ops Q rest (a.put o.dst (.slice a' (n + m) c')) w') : wpList P ops Q (o :: rest) a w :=
  wpList_plain hgd fun _ hK => wp_append_mine s x t tx ho e i z size bytes ht hi hz hsize hby hzs v n xs hv hown xv m news hx hs h63 hbytes fun a' c' w' h2 h3 h4 h5 => hK _ _ (h a' c' w' h2 h3 h4 h5)

/-- .. in a region that draws its order. -/
theorem step_append_mine {w : World} {ops : Array Oper} {o : Oper} {a : Act} {K : Act → World → Prop} {Q : Exit → Act → World → Prop} {E : Prop} (hg : o.guard = none) (s x : Operand) (t tx : TypeId)
    (ho : o.op = .call { callee := .builtin .append, args := #[s, x], argTypes := #[t, tx] })
    (e : TypeId) (i : TypeInfo) (z : Value) (size bytes : Nat) (ht : P.underlying t = some (.slice e)) (hi : P.info? e = some i) (hz : i.zero = some z)
    (hsize : i.size = size) (hby : i.bytes = bytes) (hzs : z.cells.size = size) (v : Value) (n : Nat) (xs : List Value) (hv : a.eval s = v) (hown : w.ownsRow 0 e size v n xs)
    (xv : Value) (m : Nat) (news : List Value) (hx : a.eval x = xv) (hs : Src P size tx xv m news w) (h63 : n + m ≤ maxLen) (hbytes : (n + m) * bytes ≤ 140737488355328)
    (h : ∀ a' c' w', w'.ownsRow 0 e size (.slice a' (n + m) c') (n + m) (xs ++ news) → Touch (fun k => v.ownBlock = some k) w w' → Fresh w.heap.size v (.slice a' (n + m) c') → (v.ownBlock ≠ none ∨ 0 < m → a' ≠ none) → K (a.put o.dst (.slice a' (n + m) c')) w') :
    if Region.wanted o (yielded ops a.tmps) = true then Oper.wp P o a w K Q else E := by
  have hw : Region.wanted o (yielded ops a.tmps) = true := by simp [Region.wanted, hg]
  rw [if_pos hw]
  exact wp_append_mine s x t tx ho e i z size bytes ht hi hz hsize hby hzs v n xs hv hown xv m news hx hs h63 hbytes h

/-- One element, as the slice that the translation lays for it. -/
theorem src_one (w : World) {tx e : TypeId} (hk : P.underlying tx = some (.slice e)) (u : Value) (hu : u.oneCell' = true) (w1 : World) (hw : w1.heap = w.heap.push (.cells #[u] e (0, 0))) : Src P 1 tx (.slice (some ⟨w.heap.size, 0, none⟩) 1 1) 1 [u] w1 :=
  Src.ofSlice w1 hk _ 1 1 [u] rfl (fun j x hj => by
    match j, hj with
    | 0, hj => simp at hj; subst hj; simp [Addr.add, World.cell?, hw]
    | j + 1, hj => simp at hj) (by intro x hx; simp at hx; subst hx; exact hu)
end

theorem row_heap {w w1 : World} {B : Nat} {e : TypeId} {size : Nat} {v : Value} {n : Nat} {xs : List Value} (h : w.ownsRow B e size v n xs) {o : Obj} (hw : w1.heap = w.heap.push o) : w1.ownsRow B e size v n xs := by
  refine ⟨h.1, ?_⟩
  rcases h.2 with h2 | ⟨g, cap, cur, rfl, hb, hg, r⟩
  · exact .inl h2
  · have hlt := lt_of_block hg
    exact .inr ⟨g, cap, cur, rfl, hb, by rw [hw, Array.getElem?_push, if_neg (by omega)]; exact hg, r⟩
theorem touch_heap {S : Nat → Prop} {w w1 w2 : World} {o : Obj} (hw : w1.heap = w.heap.push o) (ho : w1.os = w.os) (ht : w1.tape = w.tape) (hu : w1.output = w.output) (h : Touch S w1 w2) : Touch S w w2 :=
  (⟨ho, ht, hu, by simp [hw], fun k hk _ => by rw [hw, Array.getElem?_push, if_neg (by omega)]⟩ : Touch S w w1).trans h

/-! ### Rows told by a function -/
def tab (m : Nat) (F : Nat → Value) : Array Value := ((List.range m).map F).toArray
theorem tab_size (m : Nat) (F : Nat → Value) : (tab m F).size = m := by simp [tab]
theorem tab_get {m i : Nat} (F : Nat → Value) (h : i < m) : (tab m F)[i]? = some (F i) := by simp [tab, h]
theorem tab_set (m i : Nat) (F : Nat → Value) (u : Value) : (tab m F).setIfInBounds i u = tab m (fun k => if k = i then u else F k) := by
  apply Array.ext_getElem?
  intro j
  rw [Array.getElem?_setIfInBounds]
  by_cases hj : j < m
  · rw [tab_get _ hj, tab_get _ hj]
    by_cases e : i = j
    · subst e; simp [tab_size, hj]
    · simp [e, Ne.symm e]
  · have h1 : ∀ G, (tab m G)[j]? = none := fun G => by simp [tab]; omega
    rw [h1, h1]
    by_cases e : i = j
    · subst e; simp [tab_size, hj]
    · simp [e]
theorem tab_congr {m : Nat} {F G : Nat → Value} (h : ∀ i, i < m → F i = G i) : tab m F = tab m G := by
  unfold tab; rw [List.map_congr_left (fun i hi => h i (List.mem_range.1 hi))]
theorem tab_made (z : Value) (n : Nat) : madeCells #[z] n = tab n (fun _ => z) := by
  apply Array.ext'
  rw [toList_madeCells_one]
  symm; rw [List.eq_replicate_iff]; simp [tab]
theorem tab_cell {w : World} {g m : Nat} {F : Nat → Value} {e : TypeId} {fr : Nat × Nat} (h : w.heap[g]? = some (.cells (tab m F) e fr)) {i : Nat} (hi : i < m) : w.cell? ⟨g, i, none⟩ = some (F i) := by
  simp only [World.cell?, h]; simpa using tab_get F hi
theorem tab_free {w : World} {g m : Nat} {F : Nat → Value} {e : TypeId} (h : w.heap[g]? = some (.cells (tab m F) e (0, 0))) (i : Nat) : w.frozen? ⟨g, i, none⟩ = false := by simp [World.frozen?, h]
theorem tab_store {w : World} {g m : Nat} {F : Nat → Value} {e : TypeId} {fr : Nat × Nat} (h : w.heap[g]? = some (.cells (tab m F) e fr)) (i : Nat) (u : Value) :
    (w.setCell ⟨g, i, none⟩ u).heap[g]? = some (.cells (tab m (fun k => if k = i then u else F k)) e fr) := by
  rw [heap_setCell_same h, tab_set]
/-- A row's cells, read by index. -/
theorem row_cell {w : World} {B : Nat} {e : TypeId} {v : Value} {n : Nat} {xs : List Value} (h : w.ownsRow B e 1 v n xs) {g c : Nat} {k : Nat} (hv : v = .slice (some ⟨g, 0, none⟩) k c) {i : Nat} {u : Value} (hi : xs[i]? = some u) : w.cell? ⟨g, i, none⟩ = some u := by
  have := h.cells (g := g) (by rw [hv]; rfl) i u hi
  have e : (⟨g, 0, none⟩ : Addr).add i = ⟨g, i, none⟩ := by unfold Addr.add; split <;> simp_all
  rwa [e] at this
theorem row_form {w : World} {B : Nat} {e : TypeId} {size : Nat} {v : Value} {n : Nat} {xs : List Value} (h : w.ownsRow B e size v n xs) : (v = .slice none 0 0 ∧ n = 0) ∨ ∃ g c, v = .slice (some ⟨g, 0, none⟩) n c := by
  rcases h.2 with h | ⟨g, cap, cur, rfl, _⟩
  · exact .inl h
  · exact .inr ⟨g, cap, rfl⟩
theorem row_of_tab {w : World} {g m : Nat} {F : Nat → Value} {e : TypeId} (h : w.heap[g]? = some (.cells (tab m F) e (0, 0))) (hm : m ≤ maxLen) : w.ownsRow 0 e 1 (.slice (some ⟨g, 0, none⟩) m m) m ((List.range m).map F) :=
  ⟨by simp, .inr ⟨g, m, _, rfl, Nat.zero_le _, h, Nat.le_refl _, hm, by simp [tab_size], by show List.take (m * 1) ((List.range m).map F) = _; exact List.take_of_length_le (by simp)⟩⟩

/-! ### Numbers by their digits -/
def ofBits (f : Nat → Bool) : Nat → Nat
  | 0 => 0
  | n + 1 => ofBits f n + if f n then 2 ^ n else 0
theorem ofBits_lt (f : Nat → Bool) (n : Nat) : ofBits f n < 2 ^ n := by
  induction n with
  | zero => simp [ofBits]
  | succ n ih => simp only [ofBits]; rw [Nat.pow_succ]; split <;> omega
theorem ofBits_testBit (f : Nat → Bool) (n j : Nat) : (ofBits f n).testBit j = (decide (j < n) && f j) := by
  induction n with
  | zero => simp [ofBits]
  | succ n ih =>
    simp only [ofBits]
    have hlt := ofBits_lt f n
    by_cases hf : f n
    · rw [if_pos hf, Nat.add_comm]
      rcases Nat.lt_trichotomy j n with h | h | h
      · rw [Nat.testBit_two_pow_add_gt h, ih]; simp [h, Nat.lt_succ_of_lt h]
      · subst h; rw [Nat.testBit_two_pow_add_eq, ih]; simp [hf]
      · have : 2 ^ n + ofBits f n < 2 ^ j := by
          have h2 : 2 ^ (n + 1) ≤ 2 ^ j := Nat.pow_le_pow_right (by omega) h
          rw [Nat.pow_succ] at h2; omega
        rw [Nat.testBit_lt_two_pow this]; simp; omega
    · rw [if_neg hf, Nat.add_zero, ih]
      by_cases h : j = n
      · subst h; simp [hf]
      · have : (j < n + 1) = (j < n) := by simp; omega
        simp [this]
theorem ofBits_congr {f g : Nat → Bool} {n : Nat} (h : ∀ j, j < n → f j = g j) : ofBits f n = ofBits g n := by
  induction n with
  | zero => rfl
  | succ n ih => simp only [ofBits]; rw [ih (fun j hj => h j (by omega)), h n (by omega)]
theorem ofBits_id {v n : Nat} (h : v < 2 ^ n) : ofBits v.testBit n = v := by
  apply Nat.eq_of_testBit_eq
  intro j
  rw [ofBits_testBit]
  by_cases hj : j < n
  · simp [hj]
  · rw [Nat.testBit_lt_two_pow (Nat.lt_of_lt_of_le h (Nat.pow_le_pow_right (by omega) (by omega)))]; simp [hj]
end Go.Proofs.Ytaacphmbkieacaa
