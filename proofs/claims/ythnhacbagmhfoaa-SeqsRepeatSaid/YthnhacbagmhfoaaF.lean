/- seqs: values as offsets. -/
import Derived.Test.YthnhacbagmhfoaaE
namespace Go.Proofs.Ythnhacbagmhfoaa
open Go.RowKit Go.WideShapes
set_option linter.unusedVariables false
set_option maxRecDepth 100000

/-- Whole numbers that can be read. -/
structure Ints (w : World) (a : Option Addr) (b off len : Nat) (z : Nat → Int) : Prop where
  at_ : 0 < len → a = some ⟨b, off, none⟩
  cell : ∀ i, i < len → w.cell? ⟨b, off + i, none⟩ = some (.int .i64 (z i))
theorem Ints.touch {w w' : World} {a : Option Addr} {b off len : Nat} {z : Nat → Int} (h : Ints w a b off len z) (ht : Touch (fun _ => False) w w') : Ints w' a b off len z :=
  ⟨h.at_, fun i hi => ht.cell (h.cell i hi) id⟩
theorem ints_of {w : World} {a : Option Addr} {b off len cap : Nat} {z : Nat → Int} (h : IntsIn .i64 w a b off len cap z) : Ints w a b off len z := ⟨h.at_, h.cell⟩
theorem ints_row {w : World} {v : Value} {n : Nat} {z : Nat → Int} (h : w.ownsRow 0 3 1 v n (cellsZ .i64 z n)) : ∃ a b c, v = .slice a n c ∧ Ints w a b 0 n z := by
  rcases row_form h with ⟨rfl, hn⟩ | ⟨g, c, rfl⟩
  · exact ⟨none, 0, 0, by rw [hn], fun h => by omega, fun i hi => by omega⟩
  · exact ⟨_, g, c, rfl, fun _ => rfl, fun i hi => by rw [Nat.zero_add]; exact row_cell h rfl (cellsZ_get hi)⟩

/-- A value's offset. -/
def offB (h : H3) (v : Int) : Int := if v = 0 then h.a else if v = 1 then h.b else if v = 2 then h.c else v - 2
def histB (z : Nat → Int) (h : H3) : Nat → H3
  | 0 => h
  | k + 1 => frontH (histB z h k) (max (z k) 0) (offB (histB z h k) (max (z k) 0))
def valB (z : Nat → Int) (h : H3) (k : Nat) : Int := offB (histB z h k) (max (z k) 0)
theorem off_cases (h : H3) (v : Int) (hv : 0 ≤ v) : (v = 0 ∧ h.a = offB h v) ∨ (v = 1 ∧ h.b = offB h v) ∨ (v = 2 ∧ h.c = offB h v) ∨ (3 ≤ v ∧ v - 2 = offB h v) := by
  unfold offB
  by_cases h0 : v = 0
  · exact .inl ⟨h0, by rw [if_pos h0]⟩
  by_cases h1 : v = 1
  · exact .inr (.inl ⟨h1, by rw [if_neg h0, if_pos h1]⟩)
  by_cases h2 : v = 2
  · exact .inr (.inr (.inl ⟨h2, by rw [if_neg h0, if_neg h1, if_pos h2]⟩))
  · exact .inr (.inr (.inr ⟨by omega, by rw [if_neg h0, if_neg h1, if_neg h2]⟩))

set_option maxHeartbeats 4000000 in
theorem back_walk (w : World) (a0 : Option Addr) (b0 o0 l0 c0 : Nat) (z0 : Nat → Int) (w0 : Ints w a0 b0 o0 l0 z0) (h : H3) (hl : l0 ≤ 100000) (hz : ∀ i, i < l0 → z0 i ≤ 1073741824) :
    Calls Try.prog 30 #[.slice a0 l0 c0, h.val] w fun e w' => ∃ v, e = .returned (.tuple #[v, (histB z0 h l0).val]) ∧ OutO w w' v l0 (valB z0 h) := by
  obtain ⟨i0, hi, hz0, hz1, hz2⟩ := info_parts Try.info3
  have Hz := Lib.hid hz
  have W0 := Lib.hid w0
  clear hz w0
  unfold H3.val arr3
  go_enter Try.func30, Try.ntmps30
  go_wp2_with fail
  go_loopw [6, 8, 9, 12] (fun q _ _ i wr => ∃ k : Nat, k ≤ l0 ∧ i = .int .i64 k ∧ Arr wr w.heap.size (histB z0 h k) ∧ Arr wr (w.heap.size + 1) ⟨0, 0, 0⟩ ∧ wr.ownsRow 0 3 1 q k (cellsZ .i64 (valB z0 h) k) ∧ OwnB (w.heap.size + 2) q ∧ Touch (fun _ => False) w wr) (fun _ _ _ i _ => l0 - (intOf i).toNat)
  case atStart => exact ⟨0, by omega, rfl, Arr.touch (h := h) (heap_alloc_new w _) ((Touch.refl (fun _ => False) _).alloc _) id, heap_alloc_2 _ _ _, World.ownsRow_nil _ _ _ _, OwnB.nil _, ((Touch.refl _ _).alloc _).alloc _⟩
  case round =>
    obtain ⟨k, hk, rfl, hA, hB, hrow, hown, ht⟩ := hrel
    have HA := Lib.hid hA
    have HB := Lib.hid hB
    have Hrow := Lib.hid hrow
    clear hA hB hrow
    by_cases hlt : k < l0
    · obtain rfl := W0.out.at_ (by omega)
      have e0 := ht.cell (W0.out.cell k hlt) id
      have x1 := Hz.out k hlt
      obtain ⟨hk3, hhk⟩ : ∃ hk3, histB z0 h k = hk3 := ⟨_, rfl⟩
      rw [hhk] at HA
      obtain ⟨vm, hvm⟩ : ∃ vm, max (z0 k) 0 = vm := ⟨_, rfl⟩
      have hm0 : 0 ≤ vm := by omega
      have hm1 : vm ≤ 1073741824 := by omega
      have hcase := off_cases hk3 vm hm0
      obtain ⟨off, hoff⟩ : ∃ off, offB hk3 vm = off := ⟨_, rfl⟩
      have hval : valB z0 h k = off := by unfold valB; rw [hhk, hvm, hoff]
      have hst : histB z0 h (k + 1) = frontH hk3 vm off := by simp only [histB]; rw [hhk, hvm, hoff]
      have Hmv := Lib.hid (show ∀ w, Calls Try.prog 58 #[hk3.val, .int .i64 vm, .int .i64 off] w fun e w' => e = .returned (frontH hk3 vm off).val ∧ Touch (fun _ => False) w w' from fun w => moved_walk hk3 vm off w)
      obtain ⟨fh, hfh⟩ : ∃ fh, frontH hk3 vm off = fh := ⟨_, rfl⟩
      rw [hfh] at hst Hmv
      rw [hoff] at hcase
      have Hval := Lib.hid hval
      have Hst := Lib.hid hst
      have hsz := lt_of_block HB.out
      have hmx : max (z0 k) 0 = vm := by omega
      obtain ⟨c0', c1', c2'⟩ := HA.out.cells
      clear hval hst hhk hoff hfh hvm
      rcases hcase with ⟨rfl, rfl⟩ | ⟨rfl, rfl⟩ | ⟨rfl, rfl⟩ | ⟨hm3, hoff⟩
      all_goals
        go_wp2_with fail
        refine (Hmv.out _).mono ?_
        rintro e w5 ⟨rfl, ht5⟩
        have hA5 := HA.out.touch ht5 id
        have HA8 := Lib.hid (hA5.put fh)
        have t8 := (ht5.mono (S' := (· = w.heap.size)) (fun _ _ h => h.elim)).trans (touch_put3 w5 w.heap.size fh)
        have HB8 := Lib.hid (HB.out.touch t8 (by omega))
        have Hrow8 := Lib.hid (t8.row Hrow.out (fun i hi e => by have := hown i hi; omega))
        have T8 := Lib.hid (ht.then t8 (fun i hi e => by omega))
        obtain ⟨f0, f1, f2⟩ := hA5.cells
        have g0 := hA5.free 0
        have g1 := hA5.free 1
        have g2 := hA5.free 2
        clear t8 ht5 hA5 c0' c1' c2' e0
        unfold H3.val arr3
        go_wp2_with (refine wpList_append_mine rfl (.tmp 29) (.tmp 31) 43 43 rfl 3 i0 (.int .i64 0) 1 8 Try.underlying43 hi hz0 hz1 hz2 rfl u6 _ _ rfl (row_heap Hrow8.out rfl) _ 1 [_] rfl (src_at w5.heap.size Try.underlying43 _ rfl _ (put3_new w5 w.heap.size fh _)) (by unfold maxLen; omega) (by omega) ?_; intro a4 c4 w9 hown9 ht9 hf9 _)
        have t9 : Touch (fun k => u6.ownBlock = some k) (put3 w5 w.heap.size fh) w9 := ((Touch.refl _ (put3 w5 w.heap.size fh)).alloc _).trans ht9
        have HA9 := HA8.out.touch t9 (fun e => by have := hown _ e; omega)
        have HB9 := HB8.out.touch t9 (fun e => by have := hown _ e; omega)
        have T9 := own_app T8.out (hown.mono (by omega)) t9
        have own9 := hown.fresh hf9 (Nat.le_trans (lt_of_block HB8.out) ((Touch.refl (fun _ => False) _).alloc _).size)
        go_wp2_with fail
        go_roundw
        case rel => exact ⟨k + 1, by omega, by go_num, by rw [Hst.out]; exact HA9, HB9, by rw [cellsZ_succ, Hval.out]; exact hown9, own9, T9⟩
        case measure => simp [intOf]; omega
    · obtain rfl : k = l0 := by omega
      obtain ⟨hk3, hhk⟩ : ∃ hk3, histB z0 h k = hk3 := ⟨_, rfl⟩
      rw [hhk] at HA
      have Hhk := Lib.hid hhk
      clear hhk
      obtain ⟨c0', c1', c2'⟩ := HA.out.cells
      obtain ⟨f0, f1, f2⟩ := HB.out.cells
      have g0 := HB.out.free 0
      have g1 := HB.out.free 1
      have g2 := HB.out.free 2
      go_wp2_with fail
      go_region
      all_goals
        go_wp2_with fail
        have ha := HB.out.put hk3
        have hr := (touch_put3 wr (w.heap.size + 1) hk3).row Hrow.out (fun i hi e => by have := hown i hi; omega)
        have ht' := ht.then (touch_put3 wr (w.heap.size + 1) hk3) (fun i hi e => by omega)
        refine bodyPost_ret (results_cell2 rfl _ _ _ _ _ rfl (Arr.load (h := hk3) (b := w.heap.size + 1) ha)) rfl ?_
        exact ⟨u6, by rw [Hhk.out]; rfl, hr, hown.mono (by omega), ht'.drew⟩

set_option maxHeartbeats 4000000 in
theorem ref_back (w : World) (a0 : Option Addr) (b0 o0 l0 c0 : Nat) (z0 : Nat → Int) (w0 : Ints w a0 b0 o0 l0 z0) (h : H3) (hl : l0 ≤ 100000) (hz : ∀ i, i < l0 → z0 i ≤ 1073741824) :
    Calls Try.prog 31 #[.slice a0 l0 c0, h.val] w fun e w' => ∃ v, e = .returned (.tuple #[v, (histB z0 h l0).val]) ∧ OutO w w' v l0 (valB z0 h) := by
  obtain ⟨i0, hi, hz0, hz1, hz2⟩ := info_parts Try.info3
  have Hz := Lib.hid hz
  have W0 := Lib.hid w0
  clear hz w0
  unfold H3.val arr3
  go_enter Try.func31, Try.ntmps31
  go_wp2_with fail
  go_loopw [6, 7, 8, 9] (fun q i _ _ wr => ∃ k : Nat, k ≤ l0 ∧ i = .int .i64 k ∧ Arr wr w.heap.size (histB z0 h k) ∧ Arr wr (w.heap.size + 1) ⟨0, 0, 0⟩ ∧ wr.ownsRow 0 3 1 q k (cellsZ .i64 (valB z0 h) k) ∧ OwnB (w.heap.size + 2) q ∧ Touch (fun _ => False) w wr) (fun _ i _ _ _ => l0 - (intOf i).toNat)
  case atStart => exact ⟨0, by omega, rfl, Arr.touch (h := h) (heap_alloc_new w _) ((Touch.refl (fun _ => False) _).alloc _) id, heap_alloc_2 _ _ _, World.ownsRow_nil _ _ _ _, OwnB.nil _, ((Touch.refl _ _).alloc _).alloc _⟩
  case round =>
    obtain ⟨k, hk, rfl, hA, hB, hrow, hown, ht⟩ := hrel
    have HA := Lib.hid hA
    have HB := Lib.hid hB
    have Hrow := Lib.hid hrow
    clear hA hB hrow
    by_cases hlt : k < l0
    · obtain rfl := W0.out.at_ (by omega)
      have e0 := ht.cell (W0.out.cell k hlt) id
      have x1 := Hz.out k hlt
      obtain ⟨hk3, hhk⟩ : ∃ hk3, histB z0 h k = hk3 := ⟨_, rfl⟩
      rw [hhk] at HA
      obtain ⟨vm, hvm⟩ : ∃ vm, max (z0 k) 0 = vm := ⟨_, rfl⟩
      have hm0 : 0 ≤ vm := by omega
      have hm1 : vm ≤ 1073741824 := by omega
      have hcase := off_cases hk3 vm hm0
      obtain ⟨off, hoff⟩ : ∃ off, offB hk3 vm = off := ⟨_, rfl⟩
      have hval : valB z0 h k = off := by unfold valB; rw [hhk, hvm, hoff]
      have hst : histB z0 h (k + 1) = frontH hk3 vm off := by simp only [histB]; rw [hhk, hvm, hoff]
      have Hmv := Lib.hid (show ∀ w, Calls Try.prog 59 #[hk3.val, .int .i64 vm, .int .i64 off] w fun e w' => e = .returned (frontH hk3 vm off).val ∧ Touch (fun _ => False) w w' from fun w => front_walk hk3 vm off w)
      obtain ⟨fh, hfh⟩ : ∃ fh, frontH hk3 vm off = fh := ⟨_, rfl⟩
      rw [hfh] at hst Hmv
      rw [hoff] at hcase
      have Hval := Lib.hid hval
      have Hst := Lib.hid hst
      have hsz := lt_of_block HB.out
      have hmx : max 0 (z0 k) = vm := by omega
      obtain ⟨c0', c1', c2'⟩ := HA.out.cells
      clear hval hst hhk hoff hfh hvm
      rcases hcase with ⟨rfl, rfl⟩ | ⟨rfl, rfl⟩ | ⟨rfl, rfl⟩ | ⟨hm3, hoff⟩
      all_goals
        go_wp2_with (refine wpList_append_mine rfl (.tmp 28) (.tmp 30) 43 43 rfl 3 i0 (.int .i64 0) 1 8 Try.underlying43 hi hz0 hz1 hz2 rfl u6 _ _ rfl (row_heap Hrow.out rfl) _ 1 [_] rfl (src_at wr.heap.size Try.underlying43 _ rfl _ (heap_alloc_new wr _)) (by unfold maxLen; omega) (by omega) ?_; intro a4 c4 w6 hown6 ht6 hf6 _; obtain ⟨c0'', c1'', c2''⟩ := (HA.out.touch (((Touch.refl (fun k => u6.ownBlock = some k) wr).alloc _).trans ht6) (fun e => by have := hown _ e; omega)).cells)
        have t6 : Touch (fun k => u6.ownBlock = some k) wr w6 := ((Touch.refl _ wr).alloc _).trans ht6
        have HA6 := HA.out.touch t6 (fun e => by have := hown _ e; omega)
        have HB6 := HB.out.touch t6 (fun e => by have := hown _ e; omega)
        have T6 := own_app ht (hown.mono (by omega)) t6
        have own6 := hown.fresh hf6 (Nat.le_trans (lt_of_block HB.out) ((Touch.refl (fun _ => False) _).alloc _).size)
        have Hown6 := Lib.hid hown6
        clear ht6 hf6 hown6
        refine (Hmv.out _).mono ?_
        rintro e w7 ⟨rfl, ht7⟩
        have hA7 := HA6.touch ht7 id
        have t8 := (ht7.mono (S' := (· = w.heap.size)) (fun _ _ h => h.elim)).trans (touch_put3 w7 w.heap.size fh)
        have HA8 := Lib.hid (hA7.put fh)
        have HB8 := Lib.hid (HB6.touch t8 (by omega))
        have Hrow8 := Lib.hid (t8.row Hown6.out (fun i hi e => by have := own6 i hi; omega))
        have T8 := Lib.hid (T6.then t8 (fun i hi e => by omega))
        obtain ⟨f0, f1, f2⟩ := hA7.cells
        have g0 := hA7.free 0
        have g1 := hA7.free 1
        have g2 := hA7.free 2
        clear t8 ht7 hA7 c0' c1' c2' c0'' c1'' c2'' e0 t6
        unfold H3.val arr3
        go_wp2_with fail
        go_roundw
        case rel => exact ⟨k + 1, by omega, by go_num, by rw [Hst.out]; exact HA8.out, HB8.out, by rw [cellsZ_succ, Hval.out]; exact Hrow8.out, own6, T8.out⟩
        case measure => simp [intOf]; omega
    · obtain rfl : k = l0 := by omega
      obtain ⟨hk3, hhk⟩ : ∃ hk3, histB z0 h k = hk3 := ⟨_, rfl⟩
      rw [hhk] at HA
      have Hhk := Lib.hid hhk
      clear hhk
      obtain ⟨c0', c1', c2'⟩ := HA.out.cells
      obtain ⟨f0, f1, f2⟩ := HB.out.cells
      have g0 := HB.out.free 0
      have g1 := HB.out.free 1
      have g2 := HB.out.free 2
      go_wp2_with fail
      go_region
      all_goals
        go_wp2_with fail
        have ha := HB.out.put hk3
        have hr := (touch_put3 wr (w.heap.size + 1) hk3).row Hrow.out (fun i hi e => by have := hown i hi; omega)
        have ht' := ht.then (touch_put3 wr (w.heap.size + 1) hk3) (fun i hi e => by omega)
        refine bodyPost_ret (results_cell2 rfl _ _ _ _ _ rfl (Arr.load (h := hk3) (b := w.heap.size + 1) ha)) rfl ?_
        exact ⟨u6, by rw [Hhk.out]; rfl, hr, hown.mono (by omega), ht'.drew⟩
end Go.Proofs.Ythnhacbagmhfoaa
