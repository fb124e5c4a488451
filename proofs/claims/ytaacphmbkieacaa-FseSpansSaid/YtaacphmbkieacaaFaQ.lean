/- fse: slices.Backward: what its iterator gives. -/
import Derived.RangeFuncNested
import Derived.RangeFuncBound
import Derived.RangeFuncCalls
import Derived.RangeFuncLeaves
import Derived.Shelf.Abstract
import Derived.Shelf.RegionOpen
import Derived.WalkKit
import Derived.OwnWalkIn
import Derived.TacticsInMore
import Derived.LoopNIn
import Derived.LoopIn
import Derived.Test.YtaacphmbkieacaaFaP
namespace Go.Proofs.Ytaacphmbkieacaa
open Go.RowKit Go.WideShapes Go.Shelf Fs
set_option linter.unusedVariables false
set_option linter.unusedSimpArgs false
set_option maxRecDepth 100000
attribute [local go_sem] Oper.semAt_some

/-- What an iterator over memory wants kept: some blocks. -/
def KeepAt (S : Nat → Prop) (A B : World) : Prop := ∀ k, S k → B.heap[k]? = A.heap[k]?
theorem KeepAt.trans {S : Nat → Prop} {A B C : World} (h : KeepAt S A B) (k : KeepAt S B C) : KeepAt S A C := fun i hi => (k i hi).trans (h i hi)
theorem KeepAt.refl (S : Nat → Prop) (A : World) : KeepAt S A A := fun _ _ => rfl
theorem KeepAt.of_touch {S T : Nat → Prop} {A B : World} (h : Touch T A B) (hs : ∀ k, S k → k < A.heap.size ∧ ¬ T k) : KeepAt S A B := fun k hk => h.block k (hs k hk).1 (hs k hk).2
theorem KeepAt.cell {S : Nat → Prop} {A B : World} (h : KeepAt S A B) {p : Addr} {v : Value} (hp : A.cell? p = some v) (hs : S p.block) : B.cell? p = some v :=
  (World.cell?_of_block (h p.block hs)).trans hp
theorem keepAt_b {S : Nat → Prop} {w : World} (hS : ∀ k, S k → k < w.heap.size) (W : World) (l : Nat) (o o' : Obj) (hl : w.heap.size ≤ l) (h : W.heap[l]? = some o) (_ : o.isCells = false) (_ : o.isWalk = false) : KeepAt S W (W.putObj l o') :=
  fun k hk => World.putObj_heap_other (by have := hS k hk; omega)

/-- The last k of n, the last one first, each with its place. -/
def bwd (y : Nat → Int) (n k : Nat) : List (Int × Int) := (List.range k).map fun j => (((n - 1 - j : Nat) : Int), y (n - 1 - j))
theorem bwd_succ (y : Nat → Int) (n k : Nat) : bwd y n (k + 1) = bwd y n k ++ [(((n - 1 - k : Nat) : Int), y (n - 1 - k))] := by simp [bwd, List.range_succ]
theorem bwd_len (y : Nat → Int) (n k : Nat) : (bwd y n k).length = k := by simp [bwd]
theorem bwd_snd (y : Nat → Int) (n k : Nat) : (bwd y n k).map (·.2) = backL y n k := by simp [bwd, backL]

set_option maxHeartbeats 2000000 in
theorem back1_in (F : Fence) (n : Nat) (h55 : F.fn 55) (hro : F.round = none) (hn : 1 ≤ n) (l Bs b off len cap : Nat) (y : Nat → Int) (a : Option Addr) (ha : 0 < len → a = some ⟨b, off, none⟩) (hlen : len ≤ 100000) (J Jx : List (Int × Int) → World → Prop)
    (hY : ∀ pre x W, J pre W → pre.length < len → YieldAt F (n - 1) Try.prog l #[.int .i64 x.1, .int .i64 x.2] W fun e W' =>
      (e = .returned (.bool true) ∧ J (pre ++ [x]) W' ∧ KeepAt (fun k => k = Bs ∨ (0 < len ∧ k = b)) W W') ∨ (e = .returned (.bool false) ∧ Jx (pre ++ [x]) W'))
    (W : World) (hBs : W.cell? ⟨Bs, 0, none⟩ = some (.slice a len cap)) (hc : ∀ j, j < len → W.cell? ⟨b, off + j, none⟩ = some (.int .i64 (y j))) (h0 : J [] W) :
    CallsIn F n Try.prog 55 #[.func (.yield l) #[] #[], .pointer (some ⟨Bs, 0, none⟩)] W fun e W' => (∃ v, e = .returned v) ∧
      ((∃ ys, ys = bwd y len len ∧ J ys W') ∨ (∃ pre, (∃ k, k ≤ len ∧ pre = bwd y len k) ∧ Jx pre W')) := by
  refine callsIn_of_wp Try.func55 rfl h55 ?_ hro
  simp only [Try.ntmps55, List.size_toArray, List.length_cons, List.length_nil, Nat.reduceAdd, Nat.reduceSub, Array.replicate_succ, Array.replicate_zero, List.push_toArray, List.append_toArray, List.nil_append, List.cons_append]
  have hpre := wrap_pred (j := len) hlen
  gi_wp2
  gi_loopw [3] (fun i wr => ∃ (j : Nat) (ii : Int), j ≤ len ∧ ii = (j : Int) - 1 ∧ i = .int .i64 ii ∧ J (bwd y len (len - j)) wr ∧ KeepAt (fun k => k = Bs ∨ (0 < len ∧ k = b)) W wr)
    (fun i _ => (intOf i + 1).toNat)
  case atStart => exact ⟨len, _, Nat.le_refl _, rfl, by first | rfl | go_num, by rw [Nat.sub_self]; exact h0, KeepAt.refl _ _⟩
  case round =>
    obtain ⟨j, ii, hj, hii, rfl, hJs, hnx⟩ := hrel
    have hbs := hnx.cell hBs (Or.inl rfl)
    clear hpre
    cases j with
    | zero =>
      have hneg : ii < 0 := by rw [hii]; decide
      have hnd : decide ((0 : Int) ≤ ii) = false := by simpa using hneg
      rw [Nat.sub_zero] at hJs
      clear hii
      gi_wp2
      go_end0
      exact ⟨⟨_, rfl⟩, .inl ⟨_, rfl, hJs⟩⟩
    | succ j =>
      obtain rfl : ii = (j : Int) := by rw [hii]; push_cast; omega
      obtain rfl := ha (by omega)
      have hcx := hnx.cell (hc j (by omega)) (Or.inr ⟨by omega, rfl⟩)
      obtain ⟨s, hs⟩ : ∃ s, y j = s := ⟨_, rfl⟩
      rw [hs] at hcx
      have hb1 : bwd y len (len - j) = bwd y len (len - (j + 1)) ++ [((j : Int), s)] := by
        rw [show len - j = (len - (j + 1)) + 1 by omega, bwd_succ, show len - 1 - (len - (j + 1)) = j by omega, hs]
      have hpre := wrap_pred (j := j) (by omega)
      obtain ⟨fn, tmps, assign, body, hy, hR⟩ := hY _ ((j : Int), s) wr hJs (by rw [bwd_len]; omega)
      dsimp only at hy
      have hltj : j < len := by omega
      have HB1 := Lib.hid hb1
      have hm : ((intOf (Value.int .i64 ((j : Int) - 1))) + 1).toNat < ((intOf (Value.int .i64 (j : Int))) + 1).toNat := by simp [intOf]
      have HM := Lib.hid hm
      clear hii hb1 hs hm
      gi_wp2
      refine hR.mono ?_
      rintro e W3 (⟨rfl, hJ3, hk3⟩ | ⟨rfl, hJx3⟩)
      · rw [← HB1.out] at hJ3
        gi_wp2
        go_roundw
        case rel => exact ⟨j, _, by omega, rfl, by first | rfl | go_num, hJ3, hnx.trans hk3⟩
        case measure => exact HM.out
      · rw [← HB1.out] at hJx3
        gi_wp2
        refine bodyPost_ret (results_none rfl _ _ _) rfl ?_
        exact ⟨⟨_, rfl⟩, .inr ⟨_, ⟨len - j, by omega, rfl⟩, hJx3⟩⟩

theorem back_in (F : Fence) (n : Nat) (h39 : F.fn 39) (hro : F.round = none) (a : Option Addr) (len cap : Nat) (w : World) :
    CallsIn F n Try.prog 39 #[.slice a len cap] w fun e w' => e = .returned (.func (.func 55) #[] #[.pointer (some ⟨w.heap.size, 0, none⟩)]) ∧ w' = w.alloc (.cells #[.slice a len cap] 22) := by
  refine callsIn_of_wp Try.func39 rfl h39 ?_ hro
  simp only [Try.ntmps39, List.size_toArray, List.length_cons, List.length_nil, Nat.reduceAdd, Nat.reduceSub, Array.replicate_succ, Array.replicate_zero, List.push_toArray, List.append_toArray, List.nil_append, List.cons_append]
  gi_wp2
  go_ret
  exact ⟨rfl, rfl⟩

theorem back_stops (F : Fence) (n : Nat) (h55 : F.fn 55) (hro : F.round = none) (hn : 1 ≤ n) (Bs b off len cap : Nat) (y : Nat → Int) (a : Option Addr) (hlen : len ≤ 100000) (w : World) (hBs : Bs < w.heap.size)
    (hcb : w.cell? ⟨Bs, 0, none⟩ = some (.slice a len cap)) (hI : Ints .i64 w a b off len y) (hb : 0 < len → b < w.heap.size) :
    SeqStopsK F n Try.prog 55 #[.pointer (some ⟨Bs, 0, none⟩)] (fun x : Int × Int => #[Value.int .i64 x.1, Value.int .i64 x.2]) (KeepAt (fun k => k = Bs ∨ (0 < len ∧ k = b))) (fun ys => ys = bwd y len len)
      (fun pre => ∃ k, k ≤ len ∧ pre = bwd y len k) len w := fun l J Jx W hW _ _ hY h0 =>
  back1_in F n h55 hro hn l Bs b off len cap y a hI.at_ hlen J Jx hY W ((hW.cell (p := ⟨Bs, 0, none⟩) hBs).trans hcb) (fun j hj => (hW.cell (p := ⟨b, off + j, none⟩) (hb (by omega))).trans (hI.cell j hj)) h0
end Go.Proofs.Ytaacphmbkieacaa
