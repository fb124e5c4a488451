/- fse: Decode. -/
import Derived.Test.YtaacphmbkieacaaFaT
namespace Go.Proofs.Ytaacphmbkieacaa
open Go.RowKit Go.WideShapes Fs
set_option linter.unusedVariables false
set_option linter.unusedSimpArgs false
set_option maxRecDepth 100000

/-- The digits that bytes hold, if they hold any. -/
def bitsIn (z : Nat → Nat) : Nat → Option (List Bool)
  | 0 => none
  | m + 1 => if z m = 0 then none else some (readBits z (8 * m + Nat.log2 (z m)))
theorem bitsIn_len {z : Nat → Nat} {len : Nat} {l : List Bool} (hz : ∀ i, z i < 256) (h : bitsIn z len = some l) : l.length ≤ 8 * len := by
  cases len with
  | zero => cases h
  | succ m =>
    simp only [bitsIn] at h
    split at h
    · cases h
    · cases h
      have := log2_lt8 (z m) (hz m)
      rw [readBits_length]; omega
def NewPost (w : World) (r : Option (List Bool)) (e : Ending) (w' : World) : Prop :=
  match r with
  | none => e = .returned (.tuple #[.pointer none, .bool false]) ∧ w = w'
  | some l => e = .returned (.tuple #[.pointer (some ⟨w.heap.size, 0, none⟩), .bool true]) ∧ ∃ v, Wr w' 84 w.heap.size v l ∧ Touch (fun _ => False) w w' ∧ Fresh w.heap.size (.slice none 0 0) v
theorem newr_any (a : Option Addr) (b off len cap : Nat) (z : Nat → Nat) (w : World) (hz : Seen w a b off len z) (hlen : len ≤ 100000) : Calls Try.prog 47 #[.slice a len cap] w (NewPost w (bitsIn z len)) := by
  cases len with
  | zero => exact newr_none a cap w
  | succ m =>
    obtain rfl := hz.at_ (by omega)
    simp only [bitsIn]
    by_cases h : z m = 0
    · rw [if_pos h]
      exact newr_zero b off m cap w (by omega) (by have := hz.cell m (by omega); rwa [h] at this)
    · rw [if_neg h]
      exact newr_yes b off m cap z w hz h (by omega)

theorem cells_list (o : List Nat) : cellsZ .i64 (fun i => ((o.getD i 0 : Nat) : Int)) o.length = o.map fun (x : Nat) => Value.int .i64 (x : Int) := by
  apply List.ext_getElem?
  intro i
  by_cases h : i < o.length
  · rw [cellsZ_get h]; simp [h]
  · rw [List.getElem?_eq_none (by rw [cellsZ_length]; omega), List.getElem?_eq_none (by simp; omega)]
theorem own_ne {w : World} {B : Nat} {e e' : TypeId} {size n g : Nat} {v : Value} {xs : List Value} {cur : Array Value} (h : w.ownsRow B e size v n xs) (hg : w.heap[g]? = some (.cells cur e' (0, 0))) (hne : e ≠ e') : v.ownBlock ≠ some g := by
  intro hv
  rcases h.2 with ⟨rfl, _⟩ | ⟨g', cap, cur', rfl, _, hg', _⟩
  · cases hv
  · obtain rfl : g' = g := by simpa [Value.ownBlock] using hv
    rw [hg'] at hg; simp at hg; exact hne hg.2
theorem own_at {w : World} {B : Nat} {e : TypeId} {size n k : Nat} {v : Value} {xs : List Value} (h : w.ownsRow B e size v n xs) (hk : v.ownBlock = some k) : ∃ cur, w.heap[k]? = some (.cells cur e (0, 0)) := by
  rcases h.2 with ⟨rfl, _⟩ | ⟨g', cap, cur', rfl, _, hg', _⟩
  · cases hk
  · obtain rfl : g' = k := by simpa [Value.ownBlock] using hk
    exact ⟨_, hg'⟩

/-- What Decode hands back. -/
def DecPost (w : World) (r : Option (List Nat)) (e : Ending) (w' : World) : Prop :=
  (match r with
  | none => e = .returned (.tuple #[.slice none 0 0, .bool false])
  | some o => ∃ a b c, e = .returned (.tuple #[.slice a o.length c, .bool true]) ∧ Ints .i64 w' a b 0 o.length (fun i => ((o.getD i 0 : Nat) : Int)))
  ∧ Touch (fun _ => False) w w'

set_option maxHeartbeats 1000000 in
theorem dec_no (a ab : Option Addr) (b off n c bb ob lb cb : Nat) (z : Nat → Int) (zb : Nat → Nat) (log q : Int) (w : World) (h : Ints .i64 w a b off n z) (hb : Seen w ab bb ob lb zb) (hlb : lb ≤ 100000) (hn : n ≤ 100000) (hno : isOk z n log = false) :
    Calls Try.prog 26 #[.slice a n c, .int .i64 log, .slice ab lb cb, .int .i64 q] w fun e w' => e = .returned (.tuple #[.slice none 0 0, .bool false]) ∧ Touch (fun _ => False) w w' := by
  have H := Lib.hid h
  have HB := Lib.hid hb
  have HN := Lib.hid hno
  clear h hno hb
  obtain ⟨r, hr⟩ : ∃ r, bitsIn zb lb = r := ⟨_, rfl⟩
  have hnew := fun w (h : Seen w ab bb ob lb zb) => newr_any ab bb ob lb cb zb w h hlb
  rw [hr] at hnew
  have HNEW := Lib.hid hnew
  clear hr hnew
  cases r with
  | none =>
    go_enter Try.func26, Try.ntmps26
    go_wp2_with fail
    refine (table_no a b off n c z log _ H.out hn HN.out).mono ?_
    rintro e w1 ⟨rfl, t1⟩
    have T1 := Lib.hid t1
    clear t1
    go_wp2_with fail
    refine (HNEW.out _ (HB.out.touch T1.out id)).mono ?_
    rintro e w2 ⟨rfl, rfl⟩
    go_wp2_with fail
    go_ret2
    exact ⟨rfl, T1.out⟩
  | some l =>
    go_enter Try.func26, Try.ntmps26
    go_wp2_with fail
    refine (table_no a b off n c z log _ H.out hn HN.out).mono ?_
    rintro e w1 ⟨rfl, t1⟩
    have T1 := Lib.hid t1
    clear t1
    go_wp2_with fail
    refine (HNEW.out _ (HB.out.touch T1.out id)).mono ?_
    rintro e w2 ⟨rfl, v, _, t2, _⟩
    have T2 := Lib.hid (T1.out.trans t2)
    clear t2
    go_wp2_with fail
    go_ret2
    exact ⟨rfl, T2.out⟩
end Go.Proofs.Ytaacphmbkieacaa
