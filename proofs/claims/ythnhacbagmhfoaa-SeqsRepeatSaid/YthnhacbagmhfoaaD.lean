/- seqs: offsets as values. -/
import Derived.Test.YthnhacbagmhfoaaC
namespace Go.Proofs.Ythnhacbagmhfoaa
open Go.RowKit Go.WideShapes
set_option linter.unusedVariables false
set_option maxRecDepth 100000

theorem Try.info3 : (Try.prog.info? 3).map (fun i => (i.zero, i.size, i.bytes)) = some (some (.int .i64 0), 1, 8) := by kernel_rfl

/-- Three whole numbers that lie in a block of their own. -/
def Arr (w : World) (b : Nat) (h : H3) : Prop := w.heap[b]? = some (.cells #[.int .i64 h.a, .int .i64 h.b, .int .i64 h.c] 31 (0, 0))
theorem Arr.cells {w : World} {b : Nat} {h : H3} (k : Arr w b h) : w.cell? ⟨b, 0, none⟩ = some (.int .i64 h.a) ∧ w.cell? ⟨b, 1, none⟩ = some (.int .i64 h.b) ∧ w.cell? ⟨b, 2, none⟩ = some (.int .i64 h.c) := by
  unfold Arr at k
  simp [World.cell?, k]
theorem Arr.free {w : World} {b : Nat} {h : H3} (k : Arr w b h) (i : Nat) : w.frozen? ⟨b, i, none⟩ = false := by
  unfold Arr at k
  simp [World.frozen?, k]
theorem Arr.touch {w w' : World} {b : Nat} {h : H3} {S : Nat → Prop} (k : Arr w b h) (ht : Touch S w w') (hs : ¬ S b) : Arr w' b h := ht.heap k hs
/-- Three whole numbers stored. -/
def put3 (w : World) (b : Nat) (h : H3) : World := ((w.setCell ⟨b, 0, none⟩ (.int .i64 h.a)).setCell ⟨b, 1, none⟩ (.int .i64 h.b)).setCell ⟨b, 2, none⟩ (.int .i64 h.c)
theorem Arr.put {w : World} {b : Nat} {h : H3} (k : Arr w b h) (h' : H3) : Arr (put3 w b h') b h' := by
  have h1 := heap_setCell_same (o := 0) k (.int .i64 h'.a)
  have h2 := heap_setCell_same (o := 1) h1 (.int .i64 h'.b)
  have h3 := heap_setCell_same (o := 2) h2 (.int .i64 h'.c)
  exact h3
theorem touch_put3 (w : World) (b : Nat) (h : H3) : Touch (· = b) w (put3 w b h) :=
  (((Touch.refl (· = b) w).setCell (p := ⟨b, 0, none⟩) (fun _ => rfl) _).setCell (p := ⟨b, 1, none⟩) (fun _ => rfl) _).setCell (p := ⟨b, 2, none⟩) (fun _ => rfl) _
theorem size_put3 (w : World) (b : Nat) (h : H3) : (put3 w b h).heap.size = w.heap.size := by simp [put3, World.setCell]
/-- What lies in a block of one cell, as what is appended. -/
theorem src_at {P : Program} (g : Nat) {tx e e' : TypeId} (hk : P.underlying tx = some (.slice e')) (u : Value) (hu : u.oneCell' = true) (w1 : World) (hw : w1.heap[g]? = some (.cells #[u] e (0, 0))) : Src P 1 tx (.slice (some ⟨g, 0, none⟩) 1 1) 1 [u] w1 :=
  Src.ofSlice w1 hk _ 1 1 [u] rfl (fun j x hj => by
    match j, hj with
    | 0, hj => simp at hj; subst hj; simp [Addr.add, World.cell?, hw]
    | j + 1, hj => simp at hj) (by intro x hx; simp at hx; subst hx; exact hu)
theorem put3_new (w : World) (b : Nat) (h : H3) (o : Obj) : ((put3 w b h).alloc o).heap[w.heap.size]? = some o := by
  have := heap_alloc_new (put3 w b h) o
  rwa [size_put3] at this
theorem Arr.load {w : World} {b : Nat} {h : H3} (k : Arr w b h) : (loadVar 31 ⟨b, 0, none⟩).run Try.prog w = .ok h.val w := load31 k
theorem results_cell2 {fn : Func} {s a : Tmp} {t : TypeId} (h : fn.results = #[.tmp s, .cell a t]) (tmps : Array Value) (P : Program) (w : World) (p : Addr) (v : Value) (hp : tmps.getD a undef = .pointer (some p)) (hl : (loadVar t p).run P w = .ok v w) :
    (results fn tmps).run P w = .ok (.tuple #[tmps.getD s undef, v]) w := by
  have hp' : tmps[a]?.getD undef = .pointer (some p) := by simpa using hp
  simp [results, h, hp', asAddr, hl]

/-- Whole numbers of a function, as cells. -/
def cellsZ (k : IntKind) (z : Nat → Int) (n : Nat) : List Value := (List.range n).map fun i => .int k (z i)
theorem cellsZ_succ (k : IntKind) (z : Nat → Int) (n : Nat) : cellsZ k z (n + 1) = cellsZ k z n ++ [.int k (z n)] := by simp [cellsZ, List.range_succ]
theorem cellsZ_length (k : IntKind) (z : Nat → Int) (n : Nat) : (cellsZ k z n).length = n := by simp [cellsZ]
theorem cellsZ_get {k : IntKind} {z : Nat → Int} {n i : Nat} (h : i < n) : (cellsZ k z n)[i]? = some (.int k (z i)) := by simp [cellsZ, h]

/-- What v leads to is a block from n on. -/
def OwnB (n : Nat) (v : Value) : Prop := ∀ k, v.ownBlock = some k → n ≤ k
theorem OwnB.fresh {n m : Nat} {u v : Value} (h : OwnB n u) (hf : Fresh m u v) (hm : n ≤ m) : OwnB n v := by
  intro k hk
  rcases hf with hf | ⟨q, hq, hle⟩
  · exact h k (by rw [← hf]; exact hk)
  · rw [hq] at hk; cases hk; omega
theorem OwnB.nil (n : Nat) : OwnB n (.slice none 0 0) := fun k hk => by cases hk
theorem OwnB.mono {n m : Nat} {v : Value} (h : OwnB n v) (hm : m ≤ n) : OwnB m v := fun k hk => Nat.le_trans hm (h k hk)
theorem own_app {w w1 w2 : World} {v : Value} (h : Touch (fun _ => False) w w1) (hv : OwnB w.heap.size v) (k : Touch (fun k => v.ownBlock = some k) w1 w2) : Touch (fun _ => False) w w2 :=
  h.then k fun i hi hh => by have := hv i hh; omega

/-- An offset's value; the last three behind the first k. -/
def valH (h : H3) (off : Int) : Int := if idxH h off < 0 then off + 2 else idxH h off
def histO (z : Nat → Int) (h : H3) : Nat → H3
  | 0 => h
  | k + 1 => frontH (histO z h k) (valH (histO z h k) (z k)) (z k)
def valO (z : Nat → Int) (h : H3) (k : Nat) : Int := valH (histO z h k) (z k)

theorem rec3 {w : World} {a : Option Addr} {b o l c : Nat} {z : Nat → Nat → Int} (h : RecsIn 3 w a b o l c z) {w' : World} (ht : Touch (fun _ => False) w w') {i : Nat} (hi : i < l) :
    w'.cell? ⟨b, o + i * 3, none⟩ = some (.int .i64 (z i 0)) ∧ w'.cell? ⟨b, o + i * 3 + 1, none⟩ = some (.int .i64 (z i 1)) ∧ w'.cell? ⟨b, o + i * 3 + 2, none⟩ = some (.int .i64 (z i 2)) :=
  ⟨ht.cell (h.cell i hi 0 (by omega)) id, ht.cell (h.cell i hi 1 (by omega)) id, ht.cell (h.cell i hi 2 (by omega)) id⟩

/-- What Offsets and Back give. -/
structure OutO (w w' : World) (v : Value) (n : Nat) (z : Nat → Int) : Prop where
  row : w'.ownsRow 0 3 1 v n (cellsZ .i64 z n)
  own : OwnB w.heap.size v
  touch : Touch (fun _ => False) w w'

set_option maxHeartbeats 2000000 in
theorem offsets_walk (w : World) (a0 : Option Addr) (b0 o0 l0 c0 : Nat) (z0 : Nat → Nat → Int) (w0 : RecsIn 3 w a0 b0 o0 l0 c0 z0) (h : H3) (hl : l0 ≤ 100000) (hz : ∀ i, i < l0 → 0 ≤ z0 i 1 ∧ z0 i 1 ≤ 1073741824) :
    Calls Try.prog 27 #[.slice a0 l0 c0, h.val] w fun e w' => ∃ v, e = .returned (.tuple #[v, (histO (fun i => z0 i 1) h l0).val]) ∧ OutO w w' v l0 (valO (fun i => z0 i 1) h) := by
  obtain ⟨i0, hi, hz0, hz1, hz2⟩ := info_parts Try.info3
  have Hz := Lib.hid hz
  have W0 := Lib.hid w0
  clear hz w0
  unfold H3.val arr3
  go_enter Try.func27, Try.ntmps27
  go_wp2_with fail
  go_loopw [6, 8, 9, 12] (fun q _ _ i wr => ∃ k : Nat, k ≤ l0 ∧ i = .int .i64 k ∧ Arr wr w.heap.size (histO (fun i => z0 i 1) h k) ∧ Arr wr (w.heap.size + 1) ⟨0, 0, 0⟩ ∧ wr.ownsRow 0 3 1 q k (cellsZ .i64 (valO (fun i => z0 i 1) h) k) ∧ OwnB (w.heap.size + 2) q ∧ Touch (fun _ => False) w wr) (fun _ _ _ i _ => l0 - (intOf i).toNat)
  case atStart => exact ⟨0, by omega, rfl, Arr.touch (h := h) (heap_alloc_new w _) ((Touch.refl (fun _ => False) _).alloc _) id, heap_alloc_2 _ _ _, World.ownsRow_nil _ _ _ _, OwnB.nil _, ((Touch.refl _ _).alloc _).alloc _⟩
  case round =>
    obtain ⟨k, hk, rfl, hA, hB, hrow, hown, ht⟩ := hrel
    have HA := Lib.hid hA
    have HB := Lib.hid hB
    have Hrow := Lib.hid hrow
    clear hA hB hrow
    by_cases hlt : k < l0
    · obtain rfl := W0.out.at_ (by omega)
      obtain ⟨e0, e1, e2⟩ := rec3 W0.out ht hlt
      obtain ⟨x0, x1⟩ := Hz.out k hlt
      obtain ⟨hk3, hhk⟩ : ∃ hk3, histO (fun i => z0 i 1) h k = hk3 := ⟨_, rfl⟩
      rw [hhk] at HA
      obtain ⟨off, hoff⟩ : ∃ off, z0 k 1 = off := ⟨_, rfl⟩
      rw [hoff] at e1 x0 x1
      have dd : ∀ o n, Arr ((wr.alloc o).drewN n) w.heap.size hk3 := fun o n => HA.out.touch (((Touch.refl (fun _ => False) wr).alloc o).drewN n) id
      obtain ⟨x, hx⟩ : ∃ x, idxH hk3 off = x := ⟨_, rfl⟩
      have hix : ∀ o n, Calls Try.prog 57 #[.slice (some ⟨w.heap.size, 0, none⟩) 3 3, .int .i64 off] ((wr.alloc o).drewN n) fun e w' => e = .returned (.int .i64 x) ∧ (wr.alloc o).drewN n = w' := fun o n => by
        have := index_walk hk3 w.heap.size off _ (dd o n).cells.1 (dd o n).cells.2.1 (dd o n).cells.2.2
        rwa [hx] at this
      have Hix := Lib.hid hix
      have d0 := fun o n => (dd o n).cells.1
      have d1 := fun o n => (dd o n).cells.2.1
      have d2 := fun o n => (dd o n).cells.2.2
      have Dd := Lib.hid dd
      obtain ⟨vv, hvv⟩ : ∃ vv, valH hk3 off = vv := ⟨_, rfl⟩
      have hvx : vv = if x < 0 then off + 2 else x := by rw [← hvv, ← hx]; rfl
      have hval : valO (fun i => z0 i 1) h k = vv := by unfold valO; rw [hhk]; show valH hk3 (z0 k 1) = vv; rw [hoff, hvv]
      have hst : histO (fun i => z0 i 1) h (k + 1) = frontH hk3 vv off := by simp only [histO]; rw [hhk, hoff, hvv]
      obtain ⟨fh, hfh⟩ : ∃ fh, frontH hk3 vv off = fh := ⟨_, rfl⟩
      have Hmv := Lib.hid (show ∀ w, Calls Try.prog 58 #[hk3.val, .int .i64 vv, .int .i64 off] w fun e w' => e = .returned fh.val ∧ Touch (fun _ => False) w w' from fun w => by rw [← hfh]; exact moved_walk hk3 vv off w)
      rw [hfh] at hst
      have Hval := Lib.hid hval
      have Hst := Lib.hid hst
      have hsz := lt_of_block HB.out
      have hcase : (x < 0 ∧ off + 2 = vv) ∨ (¬ x < 0 ∧ x = vv) := by
        by_cases hneg : x < 0
        · rw [if_pos hneg] at hvx; exact .inl ⟨hneg, hvx.symm⟩
        · rw [if_neg hneg] at hvx; exact .inr ⟨hneg, hvx.symm⟩
      clear hix dd hx hvv hval hst hhk hoff hfh hvx
      rcases hcase with ⟨hneg, hvx⟩ | ⟨hneg, rfl⟩
      all_goals
        go_wp2_with fail
        go_quiet ((go_at_call 57; exact quiet_same (Hix.out _ _)))
        go_wp2_with fail
        refine (Hmv.out _).mono ?_
        rintro e w5 ⟨rfl, ht5⟩
        have t5 := (((Touch.refl (fun _ => False) wr).alloc _).drewN _).trans ht5
        have hA5 := HA.out.touch t5 id
        have HA8 := Lib.hid (hA5.put fh)
        have t8 := (t5.mono (S' := (· = w.heap.size)) (fun _ _ h => h.elim)).trans (touch_put3 w5 w.heap.size fh)
        have HB8 := Lib.hid (HB.out.touch t8 (by omega))
        have Hrow8 := Lib.hid (t8.row Hrow.out (fun i hi e => by have := hown i hi; omega))
        have T8 := Lib.hid (ht.then t8 (fun i hi e => by omega))
        obtain ⟨f0, f1, f2⟩ := hA5.cells
        have g0 := hA5.free 0
        have g1 := hA5.free 1
        have g2 := hA5.free 2
        clear t8 t5 ht5 hA5 d0 d1 d2
        unfold H3.val arr3
        go_wp2_with (refine wpList_append_mine rfl (.tmp 30) (.tmp 32) 43 43 rfl 3 i0 (.int .i64 0) 1 8 Try.underlying43 hi hz0 hz1 hz2 rfl u6 _ _ rfl (row_heap Hrow8.out rfl) _ 1 [_] rfl (src_at w5.heap.size Try.underlying43 _ rfl _ (put3_new w5 w.heap.size fh _)) (by unfold maxLen; omega) (by omega) ?_; intro a4 c4 w9 hown9 ht9 hf9 _)
        have t9 : Touch (fun k => u6.ownBlock = some k) (put3 w5 w.heap.size fh) w9 := ((Touch.refl _ (put3 w5 w.heap.size fh)).alloc _).trans ht9
        have HA9 := HA8.out.touch t9 (fun e => by have := hown _ e; omega)
        have HB9 := HB8.out.touch t9 (fun e => by have := hown _ e; omega)
        have T9 := own_app T8.out (hown.mono (by omega)) t9
        have own9 := hown.fresh hf9 (Nat.le_trans (lt_of_block HB8.out) ((Touch.refl (fun _ => False) _).alloc _).size)
        go_wp2_with fail
        go_roundw
        case rel => exact ⟨k + 1, by omega, by go_num, by rw [Hst.out]; exact HA9, HB9, by rw [cellsZ_succ, Hval.out]; exact hown9, own9, T9⟩
        case measure => simp [intOf]; omega
    · obtain rfl : k = l0 := by omega
      obtain ⟨hk3, hhk⟩ : ∃ hk3, histO (fun i => z0 i 1) h k = hk3 := ⟨_, rfl⟩
      rw [hhk] at HA
      have Hhk := Lib.hid hhk
      clear hhk
      obtain ⟨c0', c1', c2'⟩ := HA.out.cells
      obtain ⟨f0, f1, f2⟩ := HB.out.cells
      have g0 := HB.out.free 0
      have g1 := HB.out.free 1
      have g2 := HB.out.free 2
      go_wp2_with fail
      go_region
      all_goals
        go_wp2_with fail
        have ha := HB.out.put hk3
        have hr := (touch_put3 wr (w.heap.size + 1) hk3).row Hrow.out (fun i hi e => by have := hown i hi; omega)
        have ht' := ht.then (touch_put3 wr (w.heap.size + 1) hk3) (fun i hi e => by omega)
        refine bodyPost_ret (results_cell2 rfl _ _ _ _ _ rfl (Arr.load (h := hk3) (b := w.heap.size + 1) ha)) rfl ?_
        exact ⟨u6, by rw [Hhk.out]; rfl, hr, hown.mono (by omega), ht'.drew⟩
end Go.Proofs.Ythnhacbagmhfoaa
