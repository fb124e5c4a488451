/- seqs: the document's offsets as values. -/
import Derived.Test.YthnhacbagmhfoaaD
namespace Go.Proofs.Ythnhacbagmhfoaa
open Go.RowKit Go.WideShapes
set_option linter.unusedVariables false
set_option maxRecDepth 100000

/-- What is found from the last on. -/
def valR (h : H3) (off : Int) : Nat → Int
  | 0 => if h.a = off then 0 else if h.b = off then 1 else if h.c = off then 2 else off + 2
  | 1 => if h.b = off then 1 else if h.c = off then 2 else off + 2
  | 2 => if h.c = off then 2 else off + 2
  | _ => off + 2
theorem valR_is (h : H3) (off : Int) : valR h off 0 = valH h off := by
  unfold valR valH idxH
  by_cases h1 : h.a = off
  · simp [h1]
  · by_cases h2 : h.b = off
    · simp [h1, h2]
    · by_cases h3 : h.c = off <;> simp [h1, h2, h3]
theorem Touch.eq_drewN (w : World) (n : Nat) {S : Nat → Prop} : Touch S w (w.drewN n) := (Touch.refl S w).drewN n

set_option maxHeartbeats 4000000 in
theorem ref_offsets (w : World) (a0 : Option Addr) (b0 o0 l0 c0 : Nat) (z0 : Nat → Nat → Int) (w0 : RecsIn 3 w a0 b0 o0 l0 c0 z0) (h : H3) (hl : l0 ≤ 100000) (hz : ∀ i, i < l0 → 0 ≤ z0 i 1 ∧ z0 i 1 ≤ 1073741824) :
    Calls Try.prog 29 #[.slice a0 l0 c0, h.val] w fun e w' => ∃ v, e = .returned (.tuple #[v, (histO (fun i => z0 i 1) h l0).val]) ∧ OutO w w' v l0 (valO (fun i => z0 i 1) h) := by
  obtain ⟨i0, hi, hz0, hz1, hz2⟩ := info_parts Try.info3
  have Hz := Lib.hid hz
  have W0 := Lib.hid w0
  clear hz w0
  unfold H3.val arr3
  go_enter Try.func29, Try.ntmps29
  go_wp2_with fail
  go_loopw [6, 7, 8, 9] (fun q i _ _ wr => ∃ k : Nat, k ≤ l0 ∧ i = .int .i64 k ∧ Arr wr w.heap.size (histO (fun i => z0 i 1) h k) ∧ Arr wr (w.heap.size + 1) ⟨0, 0, 0⟩ ∧ wr.ownsRow 0 3 1 q k (cellsZ .i64 (valO (fun i => z0 i 1) h) k) ∧ OwnB (w.heap.size + 2) q ∧ Touch (fun _ => False) w wr) (fun _ i _ _ _ => l0 - (intOf i).toNat)
  case atStart => exact ⟨0, by omega, rfl, Arr.touch (h := h) (heap_alloc_new w _) ((Touch.refl (fun _ => False) _).alloc _) id, heap_alloc_2 _ _ _, World.ownsRow_nil _ _ _ _, OwnB.nil _, ((Touch.refl _ _).alloc _).alloc _⟩
  case round =>
    obtain ⟨k, hk, rfl, hA, hB, hrow, hown, ht⟩ := hrel
    have HA := Lib.hid hA
    have HB := Lib.hid hB
    have Hrow := Lib.hid hrow
    clear hA hB hrow
    by_cases hlt : k < l0
    · obtain rfl := W0.out.at_ (by omega)
      obtain ⟨e0, e1, e2⟩ := rec3 W0.out ht hlt
      obtain ⟨x0, x1⟩ := Hz.out k hlt
      obtain ⟨hk3, hhk⟩ : ∃ hk3, histO (fun i => z0 i 1) h k = hk3 := ⟨_, rfl⟩
      rw [hhk] at HA
      obtain ⟨off, hoff⟩ : ∃ off, z0 k 1 = off := ⟨_, rfl⟩
      have Hoff := Lib.hid hoff
      rw [hoff] at e1 x0 x1
      obtain ⟨vv, hvv⟩ : ∃ vv, valH hk3 off = vv := ⟨_, rfl⟩
      have hval : valO (fun i => z0 i 1) h k = vv := by unfold valO; rw [hhk]; show valH hk3 (z0 k 1) = vv; rw [hoff, hvv]
      have hst : histO (fun i => z0 i 1) h (k + 1) = frontH hk3 vv off := by simp only [histO]; rw [hhk, hoff, hvv]
      obtain ⟨fh, hfh⟩ : ∃ fh, frontH hk3 vv off = fh := ⟨_, rfl⟩
      have Hmv := Lib.hid (show ∀ w, Calls Try.prog 59 #[hk3.val, .int .i64 vv, .int .i64 off] w fun e w' => e = .returned fh.val ∧ Touch (fun _ => False) w w' from fun w => by rw [← hfh]; exact front_walk hk3 vv off w)
      rw [hfh] at hst
      have Hval := Lib.hid hval
      have Hst := Lib.hid hst
      have hr0 : valR hk3 off 0 = vv := by rw [valR_is, hvv]
      have Hr0 := Lib.hid hr0
      have hsz := lt_of_block HB.out
      clear hval hst hhk hoff hfh hvv hr0
      have e1d : ∀ n, (wr.drewN n).cell? ⟨b0, o0 + k * 3 + 1, none⟩ = some (.int .i64 off) := fun n => (Touch.eq_drewN (S := fun _ => False) wr n).cell e1 id
      have d0 : ∀ n, (wr.drewN n).cell? ⟨w.heap.size, 0, none⟩ = some (.int .i64 hk3.a) := fun n => (Touch.eq_drewN (S := fun _ => False) wr n).cell HA.out.cells.1 id
      have d1 : ∀ n, (wr.drewN n).cell? ⟨w.heap.size, 1, none⟩ = some (.int .i64 hk3.b) := fun n => (Touch.eq_drewN (S := fun _ => False) wr n).cell HA.out.cells.2.1 id
      have d2 : ∀ n, (wr.drewN n).cell? ⟨w.heap.size, 2, none⟩ = some (.int .i64 hk3.c) := fun n => (Touch.eq_drewN (S := fun _ => False) wr n).cell HA.out.cells.2.2 id
      go_wp2_with fail
      go_loopw [8, 9] (fun v j wx => ∃ n m : Nat, ∃ jj : Int, n ≤ 3 ∧ jj = (n : Int) - 1 ∧ j = .int .i64 jj ∧ v = .int .i64 (valR hk3 off n) ∧ wx = wr.drewN m) (fun _ j _ => (intOf j + 1).toNat)
      case atStart => exact ⟨3, 0, 2, by omega, rfl, rfl, rfl, rfl⟩
      case round =>
        obtain ⟨n, m, jj, hn, hjj, rfl, rfl, rfl⟩ := hrel
        have hnc : n = 0 ∨ n = 1 ∨ n = 2 ∨ n = 3 := by omega
        rcases hnc with rfl | rfl | rfl | rfl
        · have hj : jj = -1 := by omega
          clear hjj
          subst hj
          rw [Hr0.out]
          have hrow0 := (Touch.eq_drewN (S := fun _ => False) wr m).row Hrow.out (fun _ _ => id)
          have hA0 := HA.out.touch (Touch.eq_drewN (S := fun _ => False) wr m) id
          have hB0 := HB.out.touch (Touch.eq_drewN (S := fun _ => False) wr m) id
          have ht0 := ht.drewN m
          have Hrow0 := Lib.hid hrow0
          have HA0 := Lib.hid hA0
          have HB0 := Lib.hid hB0
          clear hrow0 hA0 hB0 d0 d1 d2 e0 e1 e2 e1d
          go_wp2_with (refine wpList_append_mine rfl (.tmp 36) (.tmp 38) 43 43 rfl 3 i0 (.int .i64 0) 1 8 Try.underlying43 hi hz0 hz1 hz2 rfl u6 _ _ rfl (row_heap Hrow0.out rfl) _ 1 [_] rfl (src_at wr.heap.size Try.underlying43 _ rfl _ (heap_alloc_new (wr.drewN m) _)) (by unfold maxLen; omega) (by omega) ?_; intro a4 c4 w6 hown6 ht6 hf6 _)
          have t6 : Touch (fun k => u6.ownBlock = some k) (wr.drewN m) w6 := ((Touch.refl _ (wr.drewN m)).alloc _).trans ht6
          have hA6 := (HA0.out.touch t6 (fun e => by have := hown _ e; omega)).touch ((Touch.refl (fun _ => False) w6).drew) id
          have HB6 := HB0.out.touch t6 (fun e => by have := hown _ e; omega)
          have T6 := own_app ht0 (hown.mono (by omega)) t6
          have own6 := hown.fresh hf6 (Nat.le_trans (lt_of_block HB0.out) ((Touch.refl (fun _ => False) _).alloc _).size)
          have Hown6 := Lib.hid hown6
          have e1' := (rec3 W0.out T6.drew hlt).2.1
          rw [Hoff.out] at e1'
          obtain ⟨c0', c1', c2'⟩ := hA6.cells
          have HA6 := Lib.hid hA6
          clear ht6 hf6 hown6 hA6
          go_wp2_with fail
          go_region_law (go_simp; go_at_call 59; refine (Hmv.out _).mono ?_; rintro e w7 ⟨rfl, ht7⟩; have hA7 := HA6.out.touch ht7 id; obtain ⟨f0, f1, f2⟩ := hA7.cells; have g0 := hA7.free 0; have g1 := hA7.free 1; have g2 := hA7.free 2; unfold H3.val arr3)
          all_goals
            have t8 := (((Touch.refl (· = w.heap.size) w6).drew).trans (ht7.mono (fun _ _ h => h.elim))).trans (touch_put3 w7 w.heap.size fh)
            have HA8 := Lib.hid (hA7.put fh)
            have HB8 := Lib.hid (HB6.touch t8 (by omega))
            have Hrow8 := Lib.hid (t8.row Hown6.out (fun i hi e => by have := own6 i hi; omega))
            have T8 := Lib.hid (T6.then t8 (fun i hi e => by omega))
            clear hA7 f0 f1 f2 g0 g1 g2 t8 ht7
            go_wp2_with fail
            go_roundw
            case rel => exact ⟨k + 1, by omega, by go_num, by rw [Hst.out]; exact HA8.out, HB8.out, by rw [cellsZ_succ, Hval.out]; exact Hrow8.out, own6, T8.out⟩
            case measure => simp [intOf]; omega
        · have hj : jj = 0 := by omega
          clear hjj
          subst hj
          by_cases he : hk3.a = off
          · have hb : (hk3.a == off) = true := by simpa using he
            go_wp2_with fail
            go_quiet (fail)
            go_wp2_with fail
            go_roundw
            case rel => exact ⟨0, _, _, by omega, rfl, rfl, by simp only [valR]; rw [if_pos he], rfl⟩
            case measure => simp [intOf]
          · have hb : (hk3.a == off) = false := by simpa using he
            go_wp2_with fail
            go_quiet (fail)
            go_wp2_with fail
            go_roundw
            case rel => exact ⟨0, _, _, by omega, rfl, rfl, by simp only [valR]; rw [if_neg he], rfl⟩
            case measure => simp [intOf]
        · have hj : jj = 1 := by omega
          clear hjj
          subst hj
          by_cases he : hk3.b = off
          · have hb : (hk3.b == off) = true := by simpa using he
            go_wp2_with fail
            go_quiet (fail)
            go_wp2_with fail
            go_roundw
            case rel => exact ⟨1, _, _, by omega, rfl, rfl, by simp only [valR]; rw [if_pos he], rfl⟩
            case measure => simp [intOf]
          · have hb : (hk3.b == off) = false := by simpa using he
            go_wp2_with fail
            go_quiet (fail)
            go_wp2_with fail
            go_roundw
            case rel => exact ⟨1, _, _, by omega, rfl, rfl, by simp only [valR]; rw [if_neg he], rfl⟩
            case measure => simp [intOf]
        · have hj : jj = 2 := by omega
          clear hjj
          subst hj
          by_cases he : hk3.c = off
          · have hb : (hk3.c == off) = true := by simpa using he
            go_wp2_with fail
            go_quiet (fail)
            go_wp2_with fail
            go_roundw
            case rel => exact ⟨2, _, _, by omega, rfl, rfl, by simp only [valR]; rw [if_pos he], rfl⟩
            case measure => simp [intOf]
          · have hb : (hk3.c == off) = false := by simpa using he
            go_wp2_with fail
            go_quiet (fail)
            go_wp2_with fail
            go_roundw
            case rel => exact ⟨2, _, _, by omega, rfl, rfl, by simp only [valR]; rw [if_neg he], rfl⟩
            case measure => simp [intOf]
    · obtain rfl : k = l0 := by omega
      obtain ⟨hk3, hhk⟩ : ∃ hk3, histO (fun i => z0 i 1) h k = hk3 := ⟨_, rfl⟩
      rw [hhk] at HA
      have Hhk := Lib.hid hhk
      clear hhk
      obtain ⟨c0', c1', c2'⟩ := HA.out.cells
      obtain ⟨f0, f1, f2⟩ := HB.out.cells
      have g0 := HB.out.free 0
      have g1 := HB.out.free 1
      have g2 := HB.out.free 2
      go_wp2_with fail
      go_region
      all_goals
        go_wp2_with fail
        have ha := HB.out.put hk3
        have hr := (touch_put3 wr (w.heap.size + 1) hk3).row Hrow.out (fun i hi e => by have := hown i hi; omega)
        have ht' := ht.then (touch_put3 wr (w.heap.size + 1) hk3) (fun i hi e => by omega)
        refine bodyPost_ret (results_cell2 rfl _ _ _ _ _ rfl (Arr.load (h := hk3) (b := w.heap.size + 1) ha)) rfl ?_
        exact ⟨u6, by rw [Hhk.out]; rfl, hr, hown.mono (by omega), ht'.drew⟩
end Go.Proofs.Ythnhacbagmhfoaa
