/- seqs: readers, Unpack of the program and of the document, steps come back, the laws SeqsLast and SeqsTurned. No condition. -/
import Derived.Test.YthnhacbagmhfoaaM4
import Derived.Test.YthnhacbagmhfoaaM2
import Derived.Lib.Bytes
/- seqs: bytes that are read: take, two. -/
namespace Go.Proofs.Ythnhacbagmhfoaa
open Go.RowKit Go.WideShapes Go.Shelf Fs
set_option linter.unusedVariables false
set_option linter.unusedSimpArgs false
set_option maxRecDepth 100000

/-- A reader: the bytes that are left; does it err? -/
structure Cur (w : World) (t : TypeId) (r G : Nat) (bad : Bool) (l : List Nat) : Prop where
  out : ∃ a b off c, w.heap[r]? = some (.cells #[.slice a l.length c, .bool bad] t (0, 0)) ∧ BytesAt w a b off l ∧ l.length ≤ c ∧ (0 < l.length → b < G) ∧ G ≤ r
theorem Cur.touch {w w' : World} {t : TypeId} {r G : Nat} {bad : Bool} {l : List Nat} {S : Nat → Prop} (h : Cur w t r G bad l) (ht : Touch S w w') (hr : ¬ S r) (hS : ∀ q, S q → G ≤ q) : Cur w' t r G bad l := by
  obtain ⟨a, b, off, c, hh, hb, hc, hlt, hG⟩ := h.out
  exact ⟨a, b, off, c, ht.heap hh hr, Ints.touchS hb ht (fun hp e => by have := hlt hp; have := hS _ e; omega), hc, hlt, hG⟩
theorem two_cells {w : World} {g : Nat} {u v : Value} {t : TypeId} (h : w.heap[g]? = some (.cells #[u, v] t (0, 0))) : w.cell? ⟨g, 0, none⟩ = some u ∧ w.cell? ⟨g, 1, none⟩ = some v := by simp [World.cell?, h]
theorem two_free {w : World} {g : Nat} {u v : Value} {t : TypeId} (h : w.heap[g]? = some (.cells #[u, v] t (0, 0))) (i : Nat) : w.frozen? ⟨g, i, none⟩ = false := by simp [World.frozen?, h]
def TakePost (t : TypeId) (r G : Nat) (bad : Bool) (l : List Nat) (n : Nat) (w : World) (e : Ending) (w' : World) : Prop :=
  Touch (· = r) w w' ∧
  ((bad = true ∨ l.length < n) → e = .returned (.slice none 0 0) ∧ Cur w' t r G true l) ∧
  ((bad = false ∧ n ≤ l.length) → ∃ a b off c, e = .returned (.slice a n c) ∧ BytesAt w' a b off (l.take n) ∧ n ≤ c ∧ (0 < n → b < G) ∧ Cur w' t r G false (l.drop n))
theorem take_bad {w : World} {t : TypeId} {r G : Nat} {bad : Bool} {l : List Nat} {n : Nat} {a : Option Addr} {b off c : Nat} (hbad : bad = true ∨ l.length < n) (hh : w.heap[r]? = some (.cells #[.slice a l.length c, .bool bad] t (0, 0))) (hb : BytesAt w a b off l) (hc : l.length ≤ c) (hlt : 0 < l.length → b < G) (hG : G ≤ r) :
    TakePost t r G bad l n w (.returned (.slice none 0 0)) (w.setCell ⟨r, 1, none⟩ (.bool true)) := by
  have tc := touch_cell w r 1 (.bool true)
  refine ⟨tc, fun _ => ⟨rfl, a, b, off, c, heap_setCell_same (o := 1) hh (.bool true), Ints.touchS hb tc (fun hp e => by have := hlt hp; omega), hc, hlt, hG⟩, fun h => ?_⟩
  rcases hbad with hb | hb
  · rw [h.1] at hb; cases hb
  · omega
theorem bytes_take {w : World} {a : Option Addr} {b off n : Nat} {l : List Nat} (h : BytesAt w a b off l) (hn : n ≤ l.length) : BytesAt w a b off (l.take n) := by
  have hl : (l.take n).length = n := by rw [List.length_take]; omega
  refine ⟨fun hp => h.at_ (by omega), fun i hi => ?_⟩
  rw [hl] at hi
  rw [h.cell i (by omega)]
  simp [hi]
theorem bytes_drop {w : World} {a : Option Addr} {b off n : Nat} {l : List Nat} (h : BytesAt w a b off l) (hn : n ≤ l.length) : BytesAt w (Option.map (fun x => x.add n) a) b (off + n) (l.drop n) := by
  refine ⟨fun hp => ?_, fun i hi => ?_⟩
  · rw [List.length_drop] at hp
    rw [h.at_ (by omega)]; simp [Addr.add]
  · rw [List.length_drop] at hi
    have := h.cell (n + i) (by omega)
    rw [← Nat.add_assoc] at this
    rw [this]; simp
theorem take_ok {w : World} {t : TypeId} {r G : Nat} {l : List Nat} {n m : Nat} {a : Option Addr} {b off c : Nat} {v : Value} (hnm : n ≤ m) (hnc : n ≤ c) (hm : l.length = m) (hh : w.heap[r]? = some (.cells #[.slice a l.length c, .bool false] t (0, 0))) (hb : BytesAt w a b off l) (hlt : 0 < l.length → b < G) (hG : G ≤ r)
    (hv : ∃ a', v = .slice a' (m - n) (c - n) ∧ (0 < m - n → a' = Option.map (fun x => x.add n) a)) (hmc : m ≤ c) :
    TakePost t r G false l n w (.returned (.slice a n c)) (w.setCell ⟨r, 0, none⟩ v) := by
  obtain ⟨a', rfl, ha'⟩ := hv
  have tc := touch_cell w r 0 (.slice a' (m - n) (c - n))
  subst hm
  have hl : (l.take n).length = n := by rw [List.length_take]; omega
  have hd : (l.drop n).length = l.length - n := by rw [List.length_drop]
  refine ⟨tc, fun h => ?_, fun _ => ⟨a, b, off, c, rfl, Ints.touchS (bytes_take hb hnm) tc (fun hp e => by have := hlt (by omega); omega), hnc, fun hp => hlt (by omega), a', b, off + n, c - n, ?_, ?_, ?_, ?_, hG⟩⟩
  · rcases h with h | h
    · cases h
    · omega
  · rw [hd]; exact heap_setCell_same (o := 0) hh _
  · refine ⟨fun hp => ?_, (Ints.touchS (bytes_drop hb hnm) tc (fun hp e => by have := hlt (by omega); omega)).cell⟩
    have := (bytes_drop hb hnm).at_ hp
    rw [ha' (by omega)]; exact this
  · omega
  · intro hp; exact hlt (by omega)
/-- A number in two bytes; what is left. -/
def twoP : List Nat → Option (Nat × List Nat)
  | a :: b :: l => some (a + 256 * b, l)
  | _ => none
def TwoPost (t : TypeId) (r G : Nat) (bad : Bool) (l : List Nat) (w : World) (e : Ending) (w' : World) : Prop :=
  Touch (· = r) w w' ∧
  match (if bad = true then none else twoP l) with
  | none => e = .returned (.int .i64 0) ∧ Cur w' t r G true l
  | some (k, l') => e = .returned (.int .i64 k) ∧ Cur w' t r G false l'
theorem two_bad {t : TypeId} {r G : Nat} {bad : Bool} {l : List Nat} {w w' : World} (hb : bad = true ∨ l.length < 2) (t1 : Touch (· = r) w w') (hc : Cur w' t r G true l) : TwoPost t r G bad l w (.returned (.int .i64 0)) w' := by
  refine ⟨t1, ?_⟩
  have : (if bad = true then none else twoP l) = none := by
    rcases hb with rfl | hb
    · rfl
    · match l, hb with
      | [], _ => simp [twoP]
      | [x], _ => simp [twoP]
  rw [this]
  exact ⟨rfl, hc⟩
theorem i64_byte {x : Nat} (h : x < 256) : IntKind.i64.wrap (x : Int) = x := IntWalk.i64_in _ (by omega)
theorem two_shl {y : Nat} (h : y < 256) : IntKind.i64.wrap ((y : Int) * 256) = ((256 * y : Nat) : Int) := by rw [IntWalk.i64_in _ (by omega)]; omega
theorem two_or {x y : Nat} (hx : x < 256) (hy : y < 256) : bits BinOp.or IntKind.i64 (x : Int) (256 * (y : Int)) = ((x + 256 * y : Nat) : Int) := by
  have e : (256 * (y : Int)) = ((256 * y : Nat) : Int) := by omega
  rw [e, (bits_nat .i64 62 (by decide) wraps_i64 x (256 * y) (by omega) (by omega)).2]
  have := Nat.two_pow_add_eq_or_of_lt (i := 8) (b := x) (by omega) y
  rw [Nat.or_comm, show 256 * y = 2 ^ 8 * y by omega, ← this, Nat.add_comm]
theorem two_good {t : TypeId} {r G : Nat} {bad : Bool} {x y : Nat} {l : List Nat} {w w' : World} {v : Int} (hv : v = ((x + 256 * y : Nat) : Int)) (hb : bad = false) (t1 : Touch (· = r) w w') (hc : Cur w' t r G false (List.drop 2 (x :: y :: l))) : TwoPost t r G bad (x :: y :: l) w (.returned (.int .i64 v)) w' := by
  subst hb hv
  exact ⟨t1, rfl, hc⟩
theorem ptake_walk (w : World) (r G : Nat) (bad : Bool) (l : List Nat) (h : Cur w 77 r G bad l) (n : Nat) (hn : n ≤ 100000) (hl : l.length ≤ 100000) :
    Calls Try.prog 72 #[.pointer (some ⟨r, 0, none⟩), .int .i64 n] w (TakePost 77 r G bad l n w) := by
  obtain ⟨a, b, off, c, hh, hb, hc, hlt, hG⟩ := h.out
  obtain ⟨Q, hQ⟩ : ∃ Q, TakePost 77 r G bad l n w = Q := ⟨_, rfl⟩
  rw [hQ]
  have HQ := Lib.hid hQ
  have HB := Lib.hid hb
  have HLT := Lib.hid hlt
  have HG := Lib.hid hG
  have HH := Lib.hid hh
  obtain ⟨c0, c1⟩ := two_cells hh
  have f0 := two_free hh 0
  have f1 := two_free hh 1
  obtain ⟨m, hm⟩ : ∃ m, l.length = m := ⟨_, rfl⟩
  rw [hm] at c0 hl hc
  have HM := Lib.hid hm
  clear hQ hb hlt hG hh h hm
  cases bad with
  | true =>
    go_enter Try.func72, Try.ntmps72
    go_wp2_with fail
    rw [← HQ.out]
    exact take_bad (.inl rfl) HH.out HB.out (by rw [HM.out]; exact hc) HLT.out HG.out
  | false =>
    by_cases hle : m < n
    · have hd : decide ((m : Int) < (n : Int)) = true := decide_eq_true (by omega)
      go_enter Try.func72, Try.ntmps72
      go_wp2_with fail
      rw [← HQ.out]
      exact take_bad (.inr (by rw [HM.out]; exact hle)) HH.out HB.out (by rw [HM.out]; exact hc) HLT.out HG.out
    · have hd : decide ((m : Int) < (n : Int)) = false := decide_eq_false (by omega)
      have hnm : n ≤ m := Nat.le_of_not_lt hle
      have hnc : n ≤ c := by omega
      by_cases hcn : c = n
      all_goals
        try subst hcn
        go_enter Try.func72, Try.ntmps72
        go_wp2_with fail
        rw [← HQ.out]
        exact take_ok hnm hnc HM.out HH.out HB.out HLT.out HG.out (by first | exact ⟨_, rfl, fun _ => rfl⟩ | exact ⟨a, by rw [Nat.sub_self, show m - c = 0 by omega], fun h => by omega⟩) hc
theorem ptwo_walk (w : World) (r G : Nat) (bad : Bool) (l : List Nat) (h : Cur w 77 r G bad l) (h8 : ∀ x ∈ l, x < 256) (hl : l.length ≤ 100000) :
    Calls Try.prog 69 #[.pointer (some ⟨r, 0, none⟩)] w (TwoPost 77 r G bad l w) := by
  have HT := Lib.hid (ptake_walk w r G bad l h 2 (by decide) hl)
  have H8 := Lib.hid h8
  clear h h8
  go_enter Try.func69, Try.ntmps69
  go_wp2_with fail
  refine HT.out.mono ?_
  rintro e w1 ⟨t1, hno, hyes⟩
  have HC : (bad = true ∨ l.length < 2) ∨ (bad = false ∧ 2 ≤ l.length) := by
    cases bad with
    | true => exact .inl (.inl rfl)
    | false => by_cases h2 : l.length < 2
               · exact .inl (.inr h2)
               · exact .inr ⟨rfl, by omega⟩
  rcases HC with hb | hb
  · obtain ⟨rfl, hc⟩ := hno hb
    obtain ⟨a, b, off, c, hh, _⟩ := hc.out
    obtain ⟨c0, c1⟩ := two_cells hh
    go_wp2_with fail
    go_ret
    exact two_bad hb t1 hc
  · obtain ⟨a, b, off, c, rfl, hbb, hc, hlt, hcur⟩ := hyes hb
    obtain ⟨a', b', off', c', hh, _⟩ := hcur.out
    obtain ⟨c0, c1⟩ := two_cells hh
    obtain ⟨x, y, l', rfl⟩ : ∃ x y l', l = x :: y :: l' := by
      match l, hb.2 with
      | x :: y :: l', _ => exact ⟨x, y, l', rfl⟩
    have hx := H8.out x (by simp)
    have hy := H8.out y (by simp)
    obtain rfl : a = some ⟨b, off, none⟩ := hbb.at_ (by simp)
    have k0 : w1.cell? ⟨b, off, none⟩ = some (.int .u8 x) := by have := hbb.cell 0 (by simp); simpa using this
    have k1 : w1.cell? ⟨b, off + 1, none⟩ = some (.int .u8 y) := by have := hbb.cell 1 (by simp); simpa using this
    have e1 := i64_byte hx
    have e2 := i64_byte hy
    have e3 := two_shl hy
    have e4 := two_or hx hy
    have HB := Lib.hid hb
    have HCUR := Lib.hid hcur
    have T1 := Lib.hid t1
    clear hno hyes hbb hb hcur t1 hlt hc
    go_wp2_with fail
    go_quiet (fail)
    all_goals
      go_wp2_with fail
      go_ret
      exact two_good (by omega) HB.out.1 (T1.out.drewN _) (HCUR.out.touch (Touch.eq_drewN (S := fun _ => False) _ _) id (fun _ h => h.elim))
theorem ctake_walk (w : World) (r G : Nat) (bad : Bool) (l : List Nat) (h : Cur w 83 r G bad l) (n : Nat) (hn : n ≤ 100000) (hl : l.length ≤ 100000) :
    Calls Try.prog 55 #[.pointer (some ⟨r, 0, none⟩), .int .i64 n] w (TakePost 83 r G bad l n w) := by
  obtain ⟨a, b, off, c, hh, hb, hc, hlt, hG⟩ := h.out
  obtain ⟨Q, hQ⟩ : ∃ Q, TakePost 83 r G bad l n w = Q := ⟨_, rfl⟩
  rw [hQ]
  have HQ := Lib.hid hQ
  have HB := Lib.hid hb
  have HLT := Lib.hid hlt
  have HG := Lib.hid hG
  have HH := Lib.hid hh
  obtain ⟨c0, c1⟩ := two_cells hh
  have f0 := two_free hh 0
  have f1 := two_free hh 1
  obtain ⟨m, hm⟩ : ∃ m, l.length = m := ⟨_, rfl⟩
  rw [hm] at c0 hl hc
  have HM := Lib.hid hm
  clear hQ hb hlt hG hh h hm
  cases bad with
  | true =>
    go_enter Try.func55, Try.ntmps55
    go_wp2_with fail
    rw [← HQ.out]
    exact take_bad (.inl rfl) HH.out HB.out (by rw [HM.out]; exact hc) HLT.out HG.out
  | false =>
    by_cases hle : m < n
    · have hd : decide ((m : Int) < (n : Int)) = true := decide_eq_true (by omega)
      go_enter Try.func55, Try.ntmps55
      go_wp2_with fail
      rw [← HQ.out]
      exact take_bad (.inr (by rw [HM.out]; exact hle)) HH.out HB.out (by rw [HM.out]; exact hc) HLT.out HG.out
    · have hd : decide ((m : Int) < (n : Int)) = false := decide_eq_false (by omega)
      have hnm : n ≤ m := Nat.le_of_not_lt hle
      have hnc : n ≤ c := by omega
      by_cases hcn : c = n
      all_goals
        try subst hcn
        go_enter Try.func55, Try.ntmps55
        go_wp2_with fail
        rw [← HQ.out]
        exact take_ok hnm hnc HM.out HH.out HB.out HLT.out HG.out (by first | exact ⟨_, rfl, fun _ => rfl⟩ | exact ⟨a, by rw [Nat.sub_self, show m - c = 0 by omega], fun h => by omega⟩) hc
theorem ctwo_walk (w : World) (r G : Nat) (bad : Bool) (l : List Nat) (h : Cur w 83 r G bad l) (h8 : ∀ x ∈ l, x < 256) (hl : l.length ≤ 100000) :
    Calls Try.prog 52 #[.pointer (some ⟨r, 0, none⟩)] w (TwoPost 83 r G bad l w) := by
  have HT := Lib.hid (ctake_walk w r G bad l h 2 (by decide) hl)
  have H8 := Lib.hid h8
  clear h h8
  go_enter Try.func52, Try.ntmps52
  go_wp2_with fail
  refine HT.out.mono ?_
  rintro e w1 ⟨t1, hno, hyes⟩
  have HC : (bad = true ∨ l.length < 2) ∨ (bad = false ∧ 2 ≤ l.length) := by
    cases bad with
    | true => exact .inl (.inl rfl)
    | false => by_cases h2 : l.length < 2
               · exact .inl (.inr h2)
               · exact .inr ⟨rfl, by omega⟩
  rcases HC with hb | hb
  · obtain ⟨rfl, hc⟩ := hno hb
    obtain ⟨a, b, off, c, hh, _⟩ := hc.out
    obtain ⟨c0, c1⟩ := two_cells hh
    go_wp2_with fail
    go_ret
    exact two_bad hb t1 hc
  · obtain ⟨a, b, off, c, rfl, hbb, hc, hlt, hcur⟩ := hyes hb
    obtain ⟨a', b', off', c', hh, _⟩ := hcur.out
    obtain ⟨c0, c1⟩ := two_cells hh
    obtain ⟨x, y, l', rfl⟩ : ∃ x y l', l = x :: y :: l' := by
      match l, hb.2 with
      | x :: y :: l', _ => exact ⟨x, y, l', rfl⟩
    have hx := H8.out x (by simp)
    have hy := H8.out y (by simp)
    obtain rfl : a = some ⟨b, off, none⟩ := hbb.at_ (by simp)
    have k0 : w1.cell? ⟨b, off, none⟩ = some (.int .u8 x) := by have := hbb.cell 0 (by simp); simpa using this
    have k1 : w1.cell? ⟨b, off + 1, none⟩ = some (.int .u8 y) := by have := hbb.cell 1 (by simp); simpa using this
    have e1 := i64_byte hx
    have e2 := i64_byte hy
    have e3 := two_shl hy
    have e4 := two_or hx hy
    have HB := Lib.hid hb
    have HCUR := Lib.hid hcur
    have T1 := Lib.hid t1
    clear hno hyes hbb hb hcur t1 hlt hc
    go_wp2_with fail
    go_quiet (fail)
    all_goals
      go_wp2_with fail
      go_ret
      exact two_good (by omega) HB.out.1 (T1.out.drewN _) (HCUR.out.touch (Touch.eq_drewN (S := fun _ => False) _ _) id (fun _ h => h.elim))
end Go.Proofs.Ythnhacbagmhfoaa

/- seqs: Decode's row is its own memory. -/
namespace Go.Proofs.Ythnhacbagmhfoaa
open Go.RowKit Go.WideShapes Fs
set_option linter.unusedVariables false
set_option linter.unusedSimpArgs false
set_option maxRecDepth 100000

/-- What Decode hands back, in new memory. -/
def DecOwn (w : World) (r : Option (List Nat)) (e : Ending) (w' : World) : Prop :=
  (match r with
  | none => e = .returned (.tuple #[.slice none 0 0, .bool false])
  | some o => ∃ a c, e = .returned (.tuple #[.slice a o.length c, .bool true]) ∧ w'.ownsRow 0 3 1 (.slice a o.length c) o.length (o.map fun (x : Nat) => Value.int .i64 (x : Int)) ∧ OwnB w.heap.size (.slice a o.length c))
  ∧ Touch (fun _ => False) w w'

set_option maxHeartbeats 4000000 in
theorem dec_own (a ab : Option Addr) (b off n c bb ob lb cb L nn : Nat) (z : Nat → Int) (zb : Nat → Nat) (l0 : List Bool) (w : World) (h : Ints .i64 w a b off n z) (hb : Seen w ab bb ob lb zb) (hlb : lb ≤ 100000) (hok : isOk z n (L : Int) = true) (hbits : bitsIn zb lb = some l0) (hnn : nn ≤ 100000) :
    Calls Try.prog 91 #[.slice a n c, .int .i64 L, .slice ab lb cb, .int .i64 nn] w (DecOwn w (decF (symU (natM z) n L) (fun u => bitsU L (xU (natM z) (symU (natM z) n L) u)) (fun u => baseU L (xU (natM z) (symU (natM z) n L) u)) L nn l0)) := by
  obtain ⟨h5, h9, hn32, hn0, hzm, hsum⟩ := isOk_nat hok
  have htb := fun w h => table_yes a b off n c L z w h hok
  have T := tabOk_is h5 h9 (natM z) hsum hn32
  obtain ⟨Ba, hBa⟩ : ∃ f, (fun u => baseU L (xU (natM z) (symU (natM z) n L) u)) = f := ⟨_, rfl⟩
  obtain ⟨Bi, hBi⟩ : ∃ f, (fun u => bitsU L (xU (natM z) (symU (natM z) n L) u)) = f := ⟨_, rfl⟩
  obtain ⟨Sy, hSy⟩ : ∃ f, symU (natM z) n L = f := ⟨_, rfl⟩
  rw [hBa, hBi, hSy] at htb T ⊢
  have hv0 : takenV l0 (L : Int) < 2 ^ L := takenV_lt l0 L
  obtain ⟨N, hN⟩ : ∃ N : Nat, 2 ^ L = N := ⟨_, rfl⟩
  rw [hN] at htb T hv0
  have hN512 := T.size
  have hl0 : l0.length ≤ 800000 := by have := bitsIn_len hb.lt hbits; omega
  have hnew := fun w (h : Seen w ab bb ob lb zb) => newr_any ab bb ob lb cb zb w h hlb
  rw [hbits] at hnew
  have HNEW := Lib.hid hnew
  have HT := Lib.hid T
  have HTB := Lib.hid htb
  have H := Lib.hid h
  have HB := Lib.hid hb
  obtain ⟨R, hR⟩ : ∃ R, decF Sy Bi Ba L nn l0 = R := ⟨_, rfl⟩
  rw [hR]
  have hdn : decide ((nn : Int) < 0) = false := by simp
  clear hBa hBi hSy hN T htb h hb hok hzm hsum hbits hnew
  cases htk : takeOk (L : Int) l0.length with
  | false =>
    have hRn : R = none := by rw [← hR]; unfold decF; rw [htk]; rfl
    subst hRn
    have HTK := Lib.hid htk
    clear hR htk
    go_enter Try.func91, Try.ntmps91
    go_wp2_with fail
    refine (HTB.out _ H.out).mono ?_
    rintro e w1 ⟨g, rfl, _, _, t1⟩
    have T1 := Lib.hid t1
    clear t1
    go_wp2_with fail
    refine (HNEW.out _ (HB.out.touch T1.out id)).mono ?_
    rintro e w2 ⟨rfl, v, hw2, t2, f2⟩
    have T2 := Lib.hid (T1.out.trans t2)
    have HW2 := Lib.hid hw2
    have hsz : w.heap.size ≤ w1.heap.size := T1.out.size
    clear t2 hw2 f2
    go_wp2_with fail
    refine (take_walk _ v l0 L _ HW2.out (by omega)).mono ?_
    rintro e w3 ⟨rfl, v3, hw3, _, t3⟩
    rw [HTK.out]
    have T3 := Lib.hid (T2.out.then t3 (fun i hi e => by subst e; omega))
    clear t3 hw3
    go_wp2_with fail
    go_ret2
    exact ⟨rfl, T3.out⟩
  | true =>
    have hRs : decE (decK Sy Bi Ba (some (takenV l0 (L : Int), takenL l0 (L : Int), [])) nn) = R := by rw [← hR]; unfold decF; rw [htk]; rfl
    have HTK := Lib.hid htk
    have hlt0 := takenL_le l0 (L : Int)
    obtain ⟨u0, hu0⟩ : ∃ u, takenV l0 (L : Int) = u := ⟨_, rfl⟩
    obtain ⟨l1, hl1⟩ : ∃ u, takenL l0 (L : Int) = u := ⟨_, rfl⟩
    rw [hu0] at hv0 hRs
    rw [hl1] at hRs hlt0
    have hl800 : l1.length ≤ 800000 := by omega
    have HU0 := Lib.hid hu0
    have HL1 := Lib.hid hl1
    have HR := Lib.hid hRs
    obtain ⟨i0, hi, hz0, hz1, hz2⟩ := info_parts Try.info3
    clear hR htk hu0 hl1 hRs hlt0
    go_enter Try.func91, Try.ntmps91
    go_wp2_with fail
    refine (HTB.out _ H.out).mono ?_
    rintro e w1 ⟨g, rfl, hg, htab, t1⟩
    have T1 := Lib.hid t1
    have HTab1 := Lib.hid htab
    clear t1 htab
    go_wp2_with fail
    refine (HNEW.out _ (HB.out.touch T1.out id)).mono ?_
    rintro e w2 ⟨rfl, v, hw2, t2, f2⟩
    have T2 := Lib.hid (T1.out.trans t2)
    have HW2 := Lib.hid hw2
    have HTab2 := Lib.hid (RowAt.touch HTab1.out t2 id)
    have hsz : w.heap.size ≤ w1.heap.size := T1.out.size
    obtain ⟨B, hBB⟩ : ∃ B, w1.heap.size = B := ⟨_, rfl⟩
    rw [hBB] at HW2 hsz f2 ⊢
    have o2 := (OwnB.nil w.heap.size).fresh f2 hsz
    clear t2 hw2 f2 hBB
    go_wp2_with fail
    refine (take_walk _ v l0 L _ HW2.out (by omega)).mono ?_
    rintro e w3 ⟨rfl, v3, hw3, ho3, t3⟩
    rw [HTK.out, HU0.out]
    rw [HL1.out] at hw3
    have T3 := Lib.hid (T2.out.then t3 (fun i hi e => by subst e; omega))
    have HW3 := Lib.hid hw3
    have hgB : ¬ g = B := fun e => foot_tab HW2.out HTab2.out (by decide) (Or.inl e)
    have HTab3 := Lib.hid (RowAt.touch HTab2.out t3 hgB)
    clear t3 hw3 o2 ho3 hgB
    go_wp2_with fail
    go_loopw [14, 15, 49] (fun u_ out_ i wr => ∃ (k u : Nat) (l : List Bool) (o : List Nat) (v vo : Value), k ≤ nn ∧ i = .int .i64 k ∧ u_ = .int .i64 u ∧ out_ = vo ∧ decK Sy Bi Ba (some (u0, l1, [])) k = some (u, l, o) ∧ Wr wr 131 B v l ∧
      wr.ownsRow 0 3 1 vo o.length (o.map fun (x : Nat) => Value.int .i64 (x : Int)) ∧ OwnB w.heap.size vo ∧ TabAt wr g N Sy Bi Ba ∧ Touch (fun _ => False) w wr) (fun _ _ i _ => nn - (intOf i).toNat)
    case atStart => exact ⟨0, u0, l1, [], v3, _, by omega, rfl, rfl, rfl, rfl, HW3.out, World.ownsRow_nil _ _ _ _, OwnB.nil _, HTab3.out, T3.out⟩
    case round =>
      obtain ⟨k, u, l, o, v, vo, hk, rfl, rfl, rfl, hd, hwr, hrow, hown, htab, ht⟩ := hrel
      obtain ⟨hu, hlen, hol, ho32⟩ := decK_bd HT.out hv0 k hd
      have HD := Lib.hid hd
      have HW := Lib.hid hwr
      have HRow := Lib.hid hrow
      have HTab := Lib.hid htab
      clear hd hwr hrow htab HW3 HTab3 ho32
      by_cases hlt : k < nn
      · obtain ⟨k1, k2, k3⟩ := TabAt.get HTab.out hu
        have hbi := HT.out.bi u hu
        have hlo := HT.out.lo u hu
        have hto := tab_top HT.out hu
        obtain ⟨x, hx⟩ : ∃ x : Nat, Sy u = x := ⟨_, rfl⟩
        obtain ⟨yy, hy⟩ : ∃ x : Nat, Bi u = x := ⟨_, rfl⟩
        obtain ⟨qq, hqq⟩ : ∃ x : Int, Ba u = x := ⟨_, rfl⟩
        have hstep : decK Sy Bi Ba (some (u0, l1, [])) (k + 1) = if takeOk (yy : Int) l.length then some ((qq + (takenV l (yy : Int) : Int)).toNat, takenL l (yy : Int), o ++ [x]) else none := by
          rw [decK, HD.out, ← hx, ← hy, ← hqq]; rfl
        rw [hx] at k1
        rw [hy] at k2 hbi
        rw [hqq] at k3 hlo hto
        have hvl := takenV_le l yy hbi
        have HS := Lib.hid hstep
        have hm : nn - (intOf (Value.int .i64 ((k : Int) + 1))).toNat < nn - (intOf (Value.int .i64 (k : Int))).toNat := meas_u hlt
        have HM := Lib.hid hm
        have fu1 := wrap_suc k (by omega)
        have HAPP := Lib.hid (app_max hol hk hnn)
        have HL10 := Lib.hid (show l.length ≤ 1000000 by omega)
        have hBw : w.heap.size ≤ B := hsz
        clear hx hy hqq hstep hm hlen hol hl0 hl800 hv0 hk hnn hN512 hn32 h5 h9
        have hXB : wr.heap.size ≠ B := fun e => by have := lt_of_block HW.out.cell; omega
        obtain ⟨wa, hwa⟩ : ∃ wa, wr.alloc (.cells #[.int .i64 x, .int .i64 yy, .int .i64 qq] 128) = wa := ⟨_, rfl⟩
        have hbox : wa.heap[wr.heap.size]? = some (.cells #[.int .i64 x, .int .i64 yy, .int .i64 qq] 128 (0, 0)) := by rw [← hwa]; exact heap_alloc_new _ _
        have tA := hwa ▸ Touch.new wr (.cells #[.int .i64 x, .int .i64 yy, .int .i64 qq] 128)
        have TA := Lib.hid tA
        have HBox := Lib.hid hbox
        have HWA := Lib.hid hwa
        clear hwa hbox tA
        cases htk : takeOk (yy : Int) l.length with
        | false =>
          have hRn : R = none := by
            have h1 := HS.out
            rw [htk] at h1
            rw [← HR.out, decK_no Sy Bi Ba h1 hlt]; rfl
          subst hRn
          have HTK2 := Lib.hid htk
          clear htk
          go_wp2_with fail
          rw [HWA.out]
          refine (take_walk B v l yy _ (HW.out.touch TA.out id (fun _ _ => id)) HL10.out).mono ?_
          rintro e w5 ⟨rfl, v5, hw5, ho5, t5⟩
          rw [HTK2.out]
          have T5 := Lib.hid ((ht.trans TA.out).then t5 (fun i hi e => by subst e; exact Nat.not_lt.2 hBw hi))
          clear hw5 ho5 t5
          go_wp2_with fail
          go_ret2
          exact ⟨rfl, T5.out⟩
        | true =>
          have hst := HS.out
          rw [htk] at hst
          have HST := Lib.hid hst
          have HTK2 := Lib.hid htk
          clear htk hst
          go_wp2_with fail
          rw [HWA.out]
          refine (take_walk B v l yy _ (HW.out.touch TA.out id (fun _ _ => id)) HL10.out).mono ?_
          rintro e w5 ⟨rfl, v5, hw5, ho5, t5⟩
          rw [HTK2.out]
          have T5 := Lib.hid ((ht.trans TA.out).then t5 (fun i hi e => by subst e; exact Nat.not_lt.2 hBw hi))
          have hb5 := t5.heap HBox.out hXB
          have k0 : w5.cell? ⟨wr.heap.size, 0, none⟩ = some (.int .i64 x) := by rw [cell_of_row _ _ _ _ _ _ hb5]; rfl
          have k2 : w5.cell? ⟨wr.heap.size, 2, none⟩ = some (.int .i64 qq) := by rw [cell_of_row _ _ _ _ _ _ hb5]; rfl
          have hB5 := hw5.cell
          have hrA := (TA.out.row HRow.out (fun _ _ => id))
          have hrow5 := t5.row hrA (fun k hk e => by subst e; exact own_ne hrA (HW.out.touch TA.out id (fun _ _ => id)).cell (by decide) hk)
          have HTab5 := Lib.hid (RowAt.touch (RowAt.touch HTab.out TA.out id) t5 (fun e => foot_tab (HW.out.touch TA.out id (fun _ _ => id)) (RowAt.touch HTab.out TA.out id) (by decide) (Or.inl e)))
          have HW5 := Lib.hid hw5
          have HRow5 := Lib.hid hrow5
          have Hb5 := Lib.hid hb5
          obtain ⟨vv, hvv⟩ : ∃ vv, takenV l (yy : Int) = vv := ⟨_, rfl⟩
          rw [hvv] at hvl
          have hwq := wrap_qv hlo hto hvl
          have hwqi : IntKind.i64.wrap (qq + (vv : Int)) = ((qq + vv).toNat : Nat) := by rw [IntWalk.i64_in _ (by omega)]; omega
          rw [hvv]
          obtain ⟨uu, huu⟩ : ∃ uu, (qq + (vv : Int)).toNat = uu := ⟨_, rfl⟩
          rw [huu] at hwq hwqi
          have hst := HST.out
          rw [hvv, huu] at hst
          simp only [if_true] at hst
          have HST2 := Lib.hid hst
          clear t5 hw5 hb5 hB5 hrA hrow5 ho5 hvv k1 k3 hvl hlo hto hbi huu hst HST
          go_wp2_with (refine wpList_append_mine rfl (.tmp 64) (.tmp 67) 43 43 rfl 3 i0 (.int .i64 0) 1 8 Try.underlying43 hi hz0 hz1 hz2 rfl u15 _ _ rfl ((Touch.new w5 (.cells #[.int .i64 x] 3)).row HRow5.out (fun _ _ => id)) (.slice (some ⟨w5.heap.size, 0, none⟩) 1 1) 1 [.int .i64 x] rfl (src_one w5 Try.underlying43 _ rfl _ rfl) HAPP.out.1 HAPP.out.2 ?_; intro a6 c6 w6 hown6 ht6 hf6 _; have k6 : w6.cell? ⟨wr.heap.size, 2, none⟩ = some (.int .i64 qq) := ht6.cell ((Touch.new w5 _).cell k2 id) (fun e => own_ne HRow5.out Hb5.out (by decide) e))
          have HA := Lib.hid (dec_after (x := x) HW5.out HRow5.out hown HTab5.out T5.out hown6 ht6 hf6)
          clear hown6 ht6 hf6 k6
          go_roundw
          case rel =>
            obtain ⟨r1, r2, r3, r4, r5⟩ := HA.out
            exact ⟨k + 1, uu, _, o ++ [x], v5, _, hlt, by rw [fu1]; go_num, rfl, rfl, HST2.out, r1, r2, r3, r4, r5⟩
          case measure => rw [fu1]; exact HM.out
      · obtain rfl : k = nn := by omega
        have hR2 : decE (some (u, l, o)) = R := by rw [← HR.out, HD.out]
        have hrw := HRow.out
        rw [← cells_list] at hrw
        obtain ⟨ar, br, cr, hvr, hir⟩ := ints_row hrw
        have HIR := Lib.hid hir
        subst hvr
        clear hrw hir hlen hol hl0 hl800 hv0 hnn hN512 hn32 h5 h9
        by_cases hu0 : u = 0
        · subst hu0
          by_cases hll : l.length = 0
          · have hRs : R = some o := by rw [← hR2]; exact decE_yes hll
            subst hRs
            have HLN := Lib.hid hll
            clear hll hR2
            go_wp2_with fail
            refine (left_walk B v l _ HW.out).mono ?_
            rintro e w6 ⟨rfl, rfl⟩
            rw [HLN.out]
            go_wp2_with fail
            go_ret2
            exact ⟨⟨ar, cr, rfl, HRow.out, hown⟩, ht⟩
          · have hRs : R = none := by rw [← hR2]; exact decE_no (fun h => hll h.2)
            subst hRs
            obtain ⟨ln, hln⟩ : ∃ ln, l.length = ln := ⟨_, rfl⟩
            have hld : 0 < ln := by omega
            have HLN := Lib.hid hln
            clear hll hR2 hln
            go_wp2_with fail
            refine (left_walk B v l _ HW.out).mono ?_
            rintro e w6 ⟨rfl, rfl⟩
            rw [HLN.out]
            go_wp2_with fail
            go_ret2
            exact ⟨rfl, ht⟩
        · have hRs : R = none := by rw [← hR2]; exact decE_no (fun h => hu0 h.1)
          subst hRs
          clear hR2
          go_wp2_with fail
          go_ret2
          exact ⟨rfl, ht⟩
end Go.Proofs.Ythnhacbagmhfoaa

/- seqs: a row of codes, read: of the program. -/
namespace Go.Proofs.Ythnhacbagmhfoaa
open Go.RowKit Go.WideShapes Go.Shelf Fs
set_option linter.unusedVariables false
set_option linter.unusedSimpArgs false
set_option maxRecDepth 100000

/-- A list as a row of numbers, of bytes. -/
def zN (l : List Nat) (i : Nat) : Int := ((l.getD i 0 : Nat) : Int)
def zB (l : List Nat) (i : Nat) : Nat := l.getD i 0
theorem seen_list {w : World} {a : Option Addr} {b off : Nat} {l : List Nat} (h : BytesAt w a b off l) (h8 : ∀ x ∈ l, x < 256) : Seen w a b off l.length (zB l) :=
  ⟨h.at_, h.cell, fun i => by
    unfold zB
    rw [List.getD_eq_getElem?_getD]
    cases hh : l[i]? with
    | none => decide
    | some x => exact h8 x (List.mem_of_getElem? hh)⟩
/-- Symbols out of measures and bytes. -/
def decZ (N : Nat) (z : Nat → Int) (lb : Nat) (zb : Nat → Nat) (nn : Nat) : Option (List Nat) :=
  if isOk z N ((6 : Nat) : Int) = true then (match bitsIn zb lb with
    | none => none
    | some l0 => decF (symU (natM z) N 6) (fun u => bitsU 6 (xU (natM z) (symU (natM z) N 6) u)) (fun u => baseU 6 (xU (natM z) (symU (natM z) N 6) u)) 6 nn l0) else none
theorem pdec_walk (a ab : Option Addr) (b off N c bb ob lb cb nn : Nat) (z : Nat → Int) (zb : Nat → Nat) (w : World) (h : Ints .i64 w a b off N z) (hb : Seen w ab bb ob lb zb) (hlb : lb ≤ 100000) (hN : N ≤ 100000) (hnn : nn ≤ 100000) :
    Calls Try.prog 91 #[.slice a N c, .int .i64 ((6 : Nat) : Int), .slice ab lb cb, .int .i64 nn] w (DecOwn w (decZ N z lb zb nn)) := by
  unfold decZ
  cases hok : isOk z N ((6 : Nat) : Int) with
  | false => exact (dec_no a ab b off N c bb ob lb cb z zb _ _ w h hb hlb hN hok).mono (fun e w' hh => ⟨hh.1, hh.2⟩)
  | true =>
    rw [if_pos rfl]
    cases hbi : bitsIn zb lb with
    | none => exact (dec_bad a ab b off N c bb ob lb cb 6 z zb _ w h hb hlb hok (.inl hbi)).mono (fun e w' hh => ⟨hh.1, hh.2⟩)
    | some l0 => exact dec_own a ab b off N c bb ob lb cb 6 nn z zb l0 w h hb hlb hok hbi hnn
theorem cdec_walk (a ab : Option Addr) (b off N c bb ob lb cb nn : Nat) (z : Nat → Int) (zb : Nat → Nat) (w : World) (h : Ints .i64 w a b off N z) (hb : Seen w ab bb ob lb zb) (hbw : 0 < lb → bb < w.heap.size) (hlb : lb ≤ 100000) (hN : N ≤ 100000) (hnn : nn ≤ 100000) :
    Calls Try.prog 79 #[.slice a N c, .int .i64 ((6 : Nat) : Int), .slice ab lb cb, .int .i64 nn] w (DecPost w (decZ N z lb zb nn)) := by
  unfold decZ
  cases hok : isOk z N ((6 : Nat) : Int) with
  | false => exact (rdec_no a ab b off N c bb ob lb cb z zb _ _ w h hb hlb hN hok).mono (fun e w' hh => ⟨hh.1, hh.2⟩)
  | true =>
    rw [if_pos rfl]
    cases hbi : bitsIn zb lb with
    | none =>
      have hm : manyIn zb lb = none := by
        rw [bitsIn_many] at hbi
        cases hm : manyIn zb lb with
        | none => rfl
        | some M => rw [hm] at hbi; cases hbi
      exact (rdec_bad a ab b off N c bb ob lb cb 6 z zb _ w h hb hlb hok (.inl hm)).mono (fun e w' hh => ⟨hh.1, hh.2⟩)
    | some l0 => exact rdec_yes a ab b off N c bb ob lb cb 6 nn z zb l0 w h hb hbw hlb hok hbi hnn
theorem decZ_len {N lb nn : Nat} {z : Nat → Int} {zb : Nat → Nat} {o : List Nat} (h : decZ N z lb zb nn = some o) : o.length = nn ∧ ∀ x ∈ o, x < 32 := by
  unfold decZ at h
  split at h
  · rename_i hok
    obtain ⟨h5, h9, hn32, hn0, hzm, hsum⟩ := isOk_nat hok
    have T := tabOk_is h5 h9 (natM z) hsum hn32
    split at h
    · cases h
    · refine ⟨decF_len T rfl h, ?_⟩
      unfold decF at h
      split at h
      · rename_i hbi l0 hb ht
        cases hd : decK (symU (natM z) N 6) (fun u => bitsU 6 (xU (natM z) (symU (natM z) N 6) u)) (fun u => baseU 6 (xU (natM z) (symU (natM z) N 6) u)) (some (takenV l0 ((6 : Nat) : Int), takenL l0 ((6 : Nat) : Int), [])) nn with
        | none => rw [hd] at h; cases h
        | some st =>
          obtain ⟨u, l', o'⟩ := st
          rw [hd] at h
          have := (decK_bd T (takenV_lt l0 6) nn hd).2.2.2
          simp only [decE] at h
          split at h
          · cases h; exact this
          · cases h
      · cases h
  · cases h

/-- What a reader does, all told. -/
def takeQ (bad : Bool) (l : List Nat) (n : Nat) : List Nat × Bool × List Nat := if bad = true ∨ l.length < n then ([], true, l) else (l.take n, false, l.drop n)
def twoQ (bad : Bool) (l : List Nat) : Nat × Bool × List Nat := match (if bad = true then none else twoP l) with
  | none => (0, true, l)
  | some (k, l') => (k, false, l')
def rowQ (bad : Bool) (l : List Nat) (nn : Nat) : Option (List Nat) × Bool × List Nat :=
  let a := takeQ bad l 16
  let k := twoQ a.2.1 a.2.2
  let x := takeQ k.2.1 k.2.2 k.1
  let R := decZ a.1.length (zN a.1) x.1.length (zB x.1) nn
  (R, (x.2.1 || R.isNone), x.2.2)
theorem takeQ_sub (bad : Bool) (l : List Nat) (n : Nat) : (takeQ bad l n).2.2 <:+ l ∧ (∀ x ∈ (takeQ bad l n).1, x ∈ l) ∧ (takeQ bad l n).1.length ≤ n := by
  unfold takeQ
  split
  · exact ⟨List.suffix_refl _, fun x h => absurd h List.not_mem_nil, Nat.zero_le _⟩
  · exact ⟨List.drop_suffix _ _, fun x h => List.mem_of_mem_take h, by rw [List.length_take]; omega⟩
theorem twoQ_sub (bad : Bool) (l : List Nat) (h8 : ∀ x ∈ l, x < 256) : (twoQ bad l).2.2 <:+ l ∧ (twoQ bad l).1 ≤ 65535 := by
  unfold twoQ
  cases bad with
  | true => exact ⟨List.suffix_refl _, Nat.zero_le _⟩
  | false =>
    match l, h8 with
    | [], _ => exact ⟨List.suffix_refl _, Nat.zero_le _⟩
    | [x], _ => exact ⟨List.suffix_refl _, Nat.zero_le _⟩
    | x :: y :: l', h8 =>
      have h1 := h8 x (by simp)
      have h2 := h8 y (by simp)
      exact ⟨(List.suffix_cons y l').trans (List.suffix_cons x _), by show x + 256 * y ≤ 65535; omega⟩
theorem sub8 {l l' : List Nat} (h : l' <:+ l) (h8 : ∀ x ∈ l, x < 256) : ∀ x ∈ l', x < 256 := fun x hx => h8 x (h.subset hx)
theorem rowQ_sub (bad : Bool) (l : List Nat) (nn : Nat) (h8 : ∀ x ∈ l, x < 256) : (rowQ bad l nn).2.2 <:+ l := by
  have h1 := (takeQ_sub bad l 16).1
  have h2 := (twoQ_sub (takeQ bad l 16).2.1 (takeQ bad l 16).2.2 (sub8 h1 h8)).1
  have h3 := (takeQ_sub (twoQ (takeQ bad l 16).2.1 (takeQ bad l 16).2.2).2.1 (twoQ (takeQ bad l 16).2.1 (takeQ bad l 16).2.2).2.2 (twoQ (takeQ bad l 16).2.1 (takeQ bad l 16).2.2).1).1
  exact h3.trans (h2.trans h1)
theorem take_uni {t : TypeId} {r G : Nat} {bad : Bool} {l : List Nat} {n : Nat} {w w' : World} {e : Ending} (h : TakePost t r G bad l n w e w') :
    ∃ a b off c, e = .returned (.slice a (takeQ bad l n).1.length c) ∧ BytesAt w' a b off (takeQ bad l n).1 ∧ (0 < (takeQ bad l n).1.length → b < G) ∧ Cur w' t r G (takeQ bad l n).2.1 (takeQ bad l n).2.2 ∧ Touch (· = r) w w' := by
  obtain ⟨t1, hno, hyes⟩ := h
  unfold takeQ
  by_cases hb : bad = true ∨ l.length < n
  · rw [if_pos hb]
    obtain ⟨rfl, hc⟩ := hno hb
    exact ⟨none, 0, 0, 0, rfl, ⟨fun hp => absurd hp (Nat.lt_irrefl _), fun i hi => absurd hi (Nat.not_lt_zero _)⟩, fun hp => absurd hp (Nat.lt_irrefl _), hc, t1⟩
  · rw [if_neg hb]
    have hb' : bad = false ∧ n ≤ l.length := ⟨by cases bad with
      | true => exact absurd (.inl rfl) hb
      | false => rfl, Nat.le_of_not_lt (fun h => hb (.inr h))⟩
    obtain ⟨a, b, off, c, rfl, h1, h2, h3, h4⟩ := hyes hb'
    have hl : (l.take n).length = n := by rw [List.length_take]; omega
    exact ⟨a, b, off, c, by rw [hl], h1, fun hp => h3 (by rw [hl] at hp; exact hp), h4, t1⟩
theorem two_uni {t : TypeId} {r G : Nat} {bad : Bool} {l : List Nat} {w w' : World} {e : Ending} (h : TwoPost t r G bad l w e w') :
    e = .returned (.int .i64 ((twoQ bad l).1 : Nat)) ∧ Cur w' t r G (twoQ bad l).2.1 (twoQ bad l).2.2 ∧ Touch (· = r) w w' := by
  obtain ⟨t1, h⟩ := h
  unfold twoQ
  revert h
  cases (if bad = true then none else twoP l) with
  | none => rintro ⟨rfl, h⟩; exact ⟨rfl, h, t1⟩
  | some q => obtain ⟨k, l'⟩ := q; rintro ⟨rfl, h⟩; exact ⟨rfl, h, t1⟩
theorem zN_cells {w : World} {a : Option Addr} {b off : Nat} {l : List Nat} (h : BytesAt w a b off l) {k : Nat} (hk : k < l.length) : ∃ x : Nat, w.cell? ⟨b, off + k, none⟩ = some (.int .u8 (x : Int)) ∧ zN l k = x := ⟨_, h.cell k hk, rfl⟩
end Go.Proofs.Ythnhacbagmhfoaa

/- seqs: a row of codes, read: of the program. -/
namespace Go.Proofs.Ythnhacbagmhfoaa
open Go.RowKit Go.WideShapes Go.Shelf Fs
set_option linter.unusedVariables false
set_option linter.unusedSimpArgs false
set_option maxRecDepth 100000

theorem Cur.lt_r {w : World} {t : TypeId} {r G : Nat} {bad : Bool} {l : List Nat} (h : Cur w t r G bad l) : r < w.heap.size := by
  obtain ⟨a, b, off, c, hh, _⟩ := h.out
  exact lt_of_block hh
theorem own_ge {w : World} {M n c b off : Nat} {a : Option Addr} {z : Nat → Int} (h : OwnB M (.slice a n c)) (hi : Ints .i64 w a b off n z) (hn : 0 < n) : M ≤ b := by
  rw [hi.at_ hn] at h
  exact h b rfl
def natC (l : List Nat) : List Value := l.map fun (x : Nat) => Value.int .i64 (x : Int)
structure RowRead (t : TypeId) (r G : Nat) (q : Option (List Nat) × Bool × List Nat) (w : World) (e : Ending) (w' : World) : Prop where
  out : ∃ a c, e = .returned (.slice a (q.1.getD []).length c) ∧ w'.ownsRow 0 3 1 (.slice a (q.1.getD []).length c) (q.1.getD []).length (natC (q.1.getD [])) ∧ OwnB w.heap.size (.slice a (q.1.getD []).length c)
  cur : Cur w' t r G q.2.1 q.2.2
  touch : Touch (· = r) w w'
theorem not_pick (b : Bool) (k : Bool) : (if b = true then true else !k) = (b || !k) := by cases b <;> rfl
theorem row_end {t : TypeId} {r G : Nat} {bad bad' : Bool} {l : List Nat} {w : World} (h : Cur w t r G bad l) : Cur (w.setCell ⟨r, 1, none⟩ (.bool bad')) t r G bad' l := by
  obtain ⟨a, b, off, c, hh, hb, hc, hlt, hG⟩ := h.out
  exact ⟨a, b, off, c, heap_setCell_same (o := 1) hh (.bool bad'), Ints.touchS hb (touch_cell w r 1 _) (fun hp e => by have := hlt hp; omega), hc, hlt, hG⟩

set_option maxHeartbeats 4000000 in
theorem prow_walk (w : World) (r G : Nat) (bad : Bool) (l : List Nat) (nn : Nat) (h : Cur w 77 r G bad l) (h8 : ∀ x ∈ l, x < 256) (hl : l.length ≤ 10000) (hnn : nn ≤ 500) :
    Calls Try.prog 70 #[.pointer (some ⟨r, 0, none⟩), .int .i64 nn] w (RowRead 77 r G (rowQ bad l nn) w) := by
  obtain ⟨i0, hi, hz0, hz1, hz2⟩ := info_parts Try.info3
  have HT := Lib.hid (ptake_walk w r G bad l h 16 (by decide) (by omega))
  obtain ⟨s1, s2, s3⟩ := takeQ_sub bad l 16
  obtain ⟨Q, hQ⟩ : ∃ Q, RowRead 77 r G (rowQ bad l nn) w = Q := ⟨_, rfl⟩
  rw [hQ]
  unfold rowQ at hQ
  obtain ⟨L1, hL1⟩ : ∃ x, (takeQ bad l 16).1 = x := ⟨_, rfl⟩
  obtain ⟨b1, hb1⟩ : ∃ x, (takeQ bad l 16).2.1 = x := ⟨_, rfl⟩
  obtain ⟨l1, hl1⟩ : ∃ x, (takeQ bad l 16).2.2 = x := ⟨_, rfl⟩
  have hl1l := s1.length_le
  have h81 := sub8 s1 h8
  have h8L : ∀ x ∈ (takeQ bad l 16).1, x < 256 := fun x hx => h8 x (s2 x hx)
  rw [hl1] at s1 hl1l h81
  rw [hL1] at s3 h8L
  simp only [hL1, hb1, hl1] at hQ
  obtain ⟨v1, v2⟩ := twoQ_sub b1 l1 h81
  obtain ⟨k2, hk2⟩ : ∃ x, (twoQ b1 l1).1 = x := ⟨_, rfl⟩
  obtain ⟨b2, hb2⟩ : ∃ x, (twoQ b1 l1).2.1 = x := ⟨_, rfl⟩
  obtain ⟨l2, hl2⟩ : ∃ x, (twoQ b1 l1).2.2 = x := ⟨_, rfl⟩
  simp only [hk2, hb2, hl2] at hQ
  rw [hl2] at v1
  rw [hk2] at v2
  have hl2l := v1.length_le
  have h82 := sub8 v1 h81
  obtain ⟨u1, u2, u3⟩ := takeQ_sub b2 l2 k2
  obtain ⟨X, hX⟩ : ∃ x, (takeQ b2 l2 k2).1 = x := ⟨_, rfl⟩
  obtain ⟨b3, hb3⟩ : ∃ x, (takeQ b2 l2 k2).2.1 = x := ⟨_, rfl⟩
  obtain ⟨l3, hl3⟩ : ∃ x, (takeQ b2 l2 k2).2.2 = x := ⟨_, rfl⟩
  simp only [hX, hb3, hl3] at hQ
  have h8X : ∀ x ∈ (takeQ b2 l2 k2).1, x < 256 := fun x hx => h82 x (u2 x hx)
  rw [hX] at u3 h8X
  have hXl : X.length ≤ 100000 := by omega
  obtain ⟨m, hm⟩ : ∃ m, L1.length = m := ⟨_, rfl⟩
  obtain ⟨R, hR⟩ : ∃ R, decZ L1.length (zN L1) X.length (zB X) nn = R := ⟨_, rfl⟩
  rw [hR] at hQ
  rw [hm] at s3 hR
  have hm16 : m ≤ 16 := s3
  have HTQ := Lib.hid (And.intro hL1 (And.intro hb1 hl1))
  have HWQ := Lib.hid (And.intro hk2 (And.intro hb2 hl2))
  have HXQ := Lib.hid (And.intro hX (And.intro hb3 hl3))
  have HL1 := Lib.hid hm
  have HR := Lib.hid hR
  have HQ := Lib.hid hQ
  have H81 := Lib.hid h81
  have H8X := Lib.hid h8X
  have H8L' := Lib.hid h8L
  have HXL := Lib.hid hXl
  have HLL := Lib.hid (show l1.length ≤ 100000 ∧ l2.length ≤ 100000 ∧ k2 ≤ 100000 from ⟨by omega, by omega, by omega⟩)
  have HRW := Lib.hid (Cur.lt_r h)
  clear h h8 hl s1 s2 s3 hQ hL1 hb1 hl1 hl1l h81 h8L v1 v2 hk2 hb2 hl2 hl2l h82 u1 u2 u3 hX hb3 hl3 h8X hXl hm hR
  go_enter Try.func70, Try.ntmps70
  go_wp2_with fail
  refine HT.out.mono ?_
  intro e w1 hp
  obtain ⟨a, b, off, c, rfl, hb, hlt, hcur, t1⟩ := take_uni hp
  obtain ⟨e1, e2, e3⟩ := HTQ.out
  rw [e1] at hb hlt
  rw [e2, e3] at hcur
  rw [e1, HL1.out]
  have HB := Lib.hid hb
  have HC := Lib.hid hcur
  have HT1 := Lib.hid t1
  clear hp hb hlt hcur t1 e1 e2 e3 HT HTQ
  go_wp2_with fail
  go_loopw [5, 13] (fun nv i wr => ∃ (k : Nat) (v : Value), k ≤ m ∧ i = .int .i64 k ∧ nv = v ∧ wr.ownsRow 0 3 1 v k (cellsZ .i64 (zN L1) k) ∧ OwnB w1.heap.size v ∧ Touch (fun _ => False) w1 wr) (fun _ i _ => m - (intOf i).toNat)
  case atStart => exact ⟨0, _, Nat.zero_le _, rfl, rfl, World.ownsRow_nil _ _ _ _, OwnB.nil _, Touch.refl _ _⟩
  case round =>
    obtain ⟨k, v, hk, rfl, rfl, hrow, hown, ht⟩ := hrel
    have HRow := Lib.hid hrow
    have HTo := Lib.hid ht
    clear hrow ht
    by_cases hlt : k < m
    · obtain rfl := HB.out.at_ (by rw [HL1.out]; omega)
      obtain ⟨x, hx1, hx2⟩ := zN_cells (HB.out.touch HTo.out) (k := k) (by rw [HL1.out]; exact hlt)
      have hx8 : IntKind.i64.wrap (x : Int) = x := IntWalk.i64_in _ (by
        have := (seen_list HB.out H8L'.out).lt k
        unfold zN at hx2; unfold zB at this; omega)
      have HX2 := Lib.hid hx2
      have HAP := Lib.hid (app_500 hlt (Nat.le_trans hm16 (by decide)))
      have HM := Lib.hid (meas_u hlt)
      have HLT := Lib.hid hlt
      have fu1 := wrap_suc k (Nat.le_trans (Nat.le_of_lt hlt) (Nat.le_trans hm16 (by decide)))
      clear hx2 hk
      go_wp2_with (refine wpList_append_mine rfl (.tmp 17) (.tmp 20) 43 43 rfl 3 i0 (.int .i64 0) 1 8 Try.underlying43 hi hz0 hz1 hz2 rfl u5 _ _ rfl ((Touch.new wr (.cells #[.int .i64 x] 3)).row HRow.out (fun _ _ => id)) (.slice (some ⟨wr.heap.size, 0, none⟩) 1 1) 1 [.int .i64 x] rfl (src_one wr Try.underlying43 _ rfl _ rfl) HAP.out.1 HAP.out.2 ?_; intro a6 c6 w6 hown6 ht6 hf6 _)
      have tn := Touch.new wr (.cells #[.int .i64 x] 3)
      have HA := Lib.hid (show w6.ownsRow 0 3 1 (.slice a6 (k + 1) c6) (k + 1) (cellsZ .i64 (zN L1) (k + 1)) ∧ OwnB w1.heap.size (.slice a6 (k + 1) c6) ∧ Touch (fun _ => False) w1 w6 from
        ⟨by rw [cellsZ_succ, HX2.out]; exact hown6, hown.fresh hf6 (Nat.le_trans HTo.out.size tn.size), own_app (HTo.out.trans tn) hown ht6⟩)
      clear hown6 ht6 hf6 tn
      go_roundw
      case rel =>
        obtain ⟨r1, r2, r3⟩ := HA.out
        exact ⟨k + 1, _, HLT.out, by first | rfl | (rw [fu1]; go_num) | go_num, rfl, r1, r2, r3⟩
      case measure => first | exact HM.out | (rw [fu1]; exact HM.out)
    · obtain rfl : k = m := Nat.le_antisymm hk (Nat.not_lt.1 hlt)
      clear hlt hk
      obtain ⟨xa, xb, xc, rfl, hx⟩ := ints_row HRow.out
      have hC2 := HC.out.touch HTo.out id (fun _ hh => hh.elim)
      have HX := Lib.hid hx
      have HTW := Lib.hid (ptwo_walk _ r G b1 l1 hC2 H81.out HLL.out.1)
      clear hx hC2
      go_wp2_with fail
      refine HTW.out.mono ?_
      intro e w3 hp
      obtain ⟨rfl, hcur, t3⟩ := two_uni hp
      obtain ⟨e1, e2, e3⟩ := HWQ.out
      rw [e2, e3] at hcur
      rw [e1]
      have HTK := Lib.hid (ptake_walk _ r G b2 l2 hcur k2 HLL.out.2.2 HLL.out.2.1)
      have T3 := Lib.hid t3
      clear hp hcur t3 e1 e2 e3 HTW
      go_wp2_with fail
      refine HTK.out.mono ?_
      intro e w4 hp
      obtain ⟨ab, bb, ob, cb, rfl, hbb, hltb, hcur4, t4⟩ := take_uni hp
      obtain ⟨e1, e2, e3⟩ := HXQ.out
      rw [e1] at hbb hltb
      rw [e2, e3] at hcur4
      rw [e1]
      have hsn := seen_list hbb H8X.out
      have t34 := T3.out.trans t4
      have hxb : 0 < k → ¬ xb = r := fun hp e => by
        have h1 := own_ge hown HX.out hp
        have h2 := HRW.out
        have h3 := HT1.out.size
        omega
      have hx4 := Ints.touchS HX.out t34 hxb
      have HDEC := Lib.hid (pdec_walk xa ab xb 0 k xc bb ob X.length cb nn (zN L1) (zB X) _ hx4 hsn HXL.out (by omega) (by omega))
      rw [HR.out] at HDEC
      have HC4 := Lib.hid hcur4
      have T14 := Lib.hid (t34)
      clear hp hbb hltb hcur4 t4 e1 e2 e3 hsn t34 hxb hx4 HTK T3
      go_wp2_with fail
      refine HDEC.out.mono ?_
      intro e w5 hp
      obtain ⟨hmm, t5⟩ := hp
      have hC5 := HC4.out.touch t5 id (fun _ hh => hh.elim)
      obtain ⟨a9, b9, o9, c9, hh9, _⟩ := hC5.out
      obtain ⟨q0, q1⟩ := two_cells hh9
      have f1 := two_free hh9 1
      have HC5 := Lib.hid hC5
      have T15 := Lib.hid (HT1.out.trans ((HTo.out.mono (fun _ _ hh => hh.elim)).trans (T14.out.trans (t5.mono (fun _ _ hh => hh.elim)))))
      have HSZ := Lib.hid (show w.heap.size ≤ w4.heap.size from Nat.le_trans HT1.out.size (Nat.le_trans HTo.out.size T14.out.size))
      clear hh9 hC5 t5
      cases R with
      | none =>
        obtain rfl := hmm
        cases b3 <;>
        · go_wp2_with fail
          try go_ret
          rw [← HQ.out]
          exact ⟨⟨none, 0, rfl, World.ownsRow_nil _ _ _ _, OwnB.nil _⟩, row_end HC5.out, T15.out.trans (touch_cell _ r 1 _)⟩
      | some o =>
        obtain ⟨ao, co, rfl, hro, hoo⟩ := hmm
        have HRO := Lib.hid hro
        have HOO := Lib.hid (hoo.mono HSZ.out)
        obtain ⟨no, hno⟩ : ∃ n, o.length = n := ⟨_, rfl⟩
        rw [hno]
        have HNO := Lib.hid hno
        clear hro hoo hno
        cases b3 <;>
        · go_wp2_with fail
          try go_ret
          rw [← HQ.out]
          refine ⟨⟨ao, co, by rw [← HNO.out]; rfl, ?_, HOO.out⟩, row_end HC5.out, T15.out.trans (touch_cell _ r 1 _)⟩
          exact (touch_cell w5 r 1 _).row HRO.out (fun q hq e => by have := HOO.out q hq; have := HRW.out; omega)
end Go.Proofs.Ythnhacbagmhfoaa

/- seqs: a row of codes, read: of the document. -/
namespace Go.Proofs.Ythnhacbagmhfoaa
open Go.RowKit Go.WideShapes Go.Shelf Fs
set_option linter.unusedVariables false
set_option linter.unusedSimpArgs false
set_option maxRecDepth 100000

structure RowSeen (t : TypeId) (r G : Nat) (q : Option (List Nat) × Bool × List Nat) (w : World) (e : Ending) (w' : World) : Prop where
  out : ∃ a b c, e = .returned (.slice a (q.1.getD []).length c) ∧ Ints .i64 w' a b 0 (q.1.getD []).length (zN (q.1.getD [])) ∧ (0 < (q.1.getD []).length → b ≠ r)
  cur : Cur w' t r G q.2.1 q.2.2
  touch : Touch (· = r) w w'
theorem ne_cur {w : World} {t : TypeId} {r G n b : Nat} {bad : Bool} {l : List Nat} {a : Option Addr} {z : Nat → Int} (h : Cur w t r G bad l) (hi : Ints .i64 w a b 0 n z) (hn : 0 < n) : b ≠ r := by
  rintro rfl
  obtain ⟨a', b', off, c, hh, _⟩ := h.out
  have := hi.cell 0 hn
  rw [Nat.add_zero, (two_cells hh).1] at this
  cases this
set_option maxHeartbeats 4000000 in
theorem crow_walk (w : World) (r G : Nat) (bad : Bool) (l : List Nat) (nn : Nat) (h : Cur w 83 r G bad l) (h8 : ∀ x ∈ l, x < 256) (hl : l.length ≤ 10000) (hnn : nn ≤ 500) :
    Calls Try.prog 53 #[.pointer (some ⟨r, 0, none⟩), .int .i64 nn] w (RowSeen 83 r G (rowQ bad l nn) w) := by
  obtain ⟨i0, hi, hz0, hz1, hz2⟩ := info_parts Try.info3
  have HT := Lib.hid (ctake_walk w r G bad l h 16 (by decide) (by omega))
  obtain ⟨s1, s2, s3⟩ := takeQ_sub bad l 16
  obtain ⟨Q, hQ⟩ : ∃ Q, RowSeen 83 r G (rowQ bad l nn) w = Q := ⟨_, rfl⟩
  rw [hQ]
  unfold rowQ at hQ
  obtain ⟨L1, hL1⟩ : ∃ x, (takeQ bad l 16).1 = x := ⟨_, rfl⟩
  obtain ⟨b1, hb1⟩ : ∃ x, (takeQ bad l 16).2.1 = x := ⟨_, rfl⟩
  obtain ⟨l1, hl1⟩ : ∃ x, (takeQ bad l 16).2.2 = x := ⟨_, rfl⟩
  have hl1l := s1.length_le
  have h81 := sub8 s1 h8
  have h8L : ∀ x ∈ (takeQ bad l 16).1, x < 256 := fun x hx => h8 x (s2 x hx)
  rw [hl1] at s1 hl1l h81
  rw [hL1] at s3 h8L
  simp only [hL1, hb1, hl1] at hQ
  obtain ⟨v1, v2⟩ := twoQ_sub b1 l1 h81
  obtain ⟨k2, hk2⟩ : ∃ x, (twoQ b1 l1).1 = x := ⟨_, rfl⟩
  obtain ⟨b2, hb2⟩ : ∃ x, (twoQ b1 l1).2.1 = x := ⟨_, rfl⟩
  obtain ⟨l2, hl2⟩ : ∃ x, (twoQ b1 l1).2.2 = x := ⟨_, rfl⟩
  simp only [hk2, hb2, hl2] at hQ
  rw [hl2] at v1
  rw [hk2] at v2
  have hl2l := v1.length_le
  have h82 := sub8 v1 h81
  obtain ⟨u1, u2, u3⟩ := takeQ_sub b2 l2 k2
  obtain ⟨X, hX⟩ : ∃ x, (takeQ b2 l2 k2).1 = x := ⟨_, rfl⟩
  obtain ⟨b3, hb3⟩ : ∃ x, (takeQ b2 l2 k2).2.1 = x := ⟨_, rfl⟩
  obtain ⟨l3, hl3⟩ : ∃ x, (takeQ b2 l2 k2).2.2 = x := ⟨_, rfl⟩
  simp only [hX, hb3, hl3] at hQ
  have h8X : ∀ x ∈ (takeQ b2 l2 k2).1, x < 256 := fun x hx => h82 x (u2 x hx)
  rw [hX] at u3 h8X
  have hXl : X.length ≤ 100000 := by omega
  obtain ⟨m, hm⟩ : ∃ m, L1.length = m := ⟨_, rfl⟩
  obtain ⟨R, hR⟩ : ∃ R, decZ L1.length (zN L1) X.length (zB X) nn = R := ⟨_, rfl⟩
  rw [hR] at hQ
  rw [hm] at s3 hR
  have hm16 : m ≤ 16 := s3
  have HTQ := Lib.hid (And.intro hL1 (And.intro hb1 hl1))
  have HWQ := Lib.hid (And.intro hk2 (And.intro hb2 hl2))
  have HXQ := Lib.hid (And.intro hX (And.intro hb3 hl3))
  have HL1 := Lib.hid hm
  have HR := Lib.hid hR
  have HQ := Lib.hid hQ
  have H81 := Lib.hid h81
  have H8X := Lib.hid h8X
  have H8L' := Lib.hid h8L
  have HXL := Lib.hid hXl
  have HLL := Lib.hid (show l1.length ≤ 100000 ∧ l2.length ≤ 100000 ∧ k2 ≤ 100000 from ⟨by omega, by omega, by omega⟩)
  have HRW := Lib.hid (Cur.lt_r h)
  have HGR := Lib.hid (show G ≤ w.heap.size from by obtain ⟨_, _, _, _, hh, _, _, _, hg⟩ := h.out; have := lt_of_block hh; omega)
  clear h h8 hl s1 s2 s3 hQ hL1 hb1 hl1 hl1l h81 h8L v1 v2 hk2 hb2 hl2 hl2l h82 u1 u2 u3 hX hb3 hl3 h8X hXl hm hR
  go_enter Try.func53, Try.ntmps53
  go_wp2_with fail
  refine HT.out.mono ?_
  intro e w1 hp
  obtain ⟨a, b, off, c, rfl, hb, hlt, hcur, t1⟩ := take_uni hp
  obtain ⟨e1, e2, e3⟩ := HTQ.out
  rw [e1] at hb hlt
  rw [e2, e3] at hcur
  rw [e1, HL1.out]
  have HB := Lib.hid hb
  have HC := Lib.hid hcur
  have HT1 := Lib.hid t1
  clear hp hb hlt hcur t1 e1 e2 e3 HT HTQ
  go_wp2_with fail
  go_loopw [6, 7] (fun nv i wr => ∃ (k : Nat) (v : Value), k ≤ m ∧ i = .int .i64 k ∧ nv = v ∧ wr.ownsRow 0 3 1 v k (cellsZ .i64 (zN L1) k) ∧ OwnB w1.heap.size v ∧ Touch (fun _ => False) w1 wr) (fun _ i _ => m - (intOf i).toNat)
  case atStart => exact ⟨0, _, Nat.zero_le _, rfl, rfl, World.ownsRow_nil _ _ _ _, OwnB.nil _, Touch.refl _ _⟩
  case round =>
    obtain ⟨k, v, hk, rfl, rfl, hrow, hown, ht⟩ := hrel
    have HRow := Lib.hid hrow
    have HTo := Lib.hid ht
    clear hrow ht
    by_cases hlt : k < m
    · obtain rfl := HB.out.at_ (by rw [HL1.out]; omega)
      obtain ⟨x, hx1, hx2⟩ := zN_cells (HB.out.touch HTo.out) (k := k) (by rw [HL1.out]; exact hlt)
      have hx8 : IntKind.i64.wrap (x : Int) = x := IntWalk.i64_in _ (by
        have := (seen_list HB.out H8L'.out).lt k
        unfold zN at hx2; unfold zB at this; omega)
      have HX2 := Lib.hid hx2
      have HAP := Lib.hid (app_500 hlt (Nat.le_trans hm16 (by decide)))
      have HM := Lib.hid (meas_u hlt)
      have HLT := Lib.hid hlt
      have fu1 := wrap_suc k (Nat.le_trans (Nat.le_of_lt hlt) (Nat.le_trans hm16 (by decide)))
      clear hx2 hk
      go_wp2_with (refine wpList_append_mine rfl (.tmp 18) (.tmp 24) 43 43 rfl 3 i0 (.int .i64 0) 1 8 Try.underlying43 hi hz0 hz1 hz2 rfl u6 _ _ rfl ((Touch.new wr (.cells #[.int .i64 x] 3)).row HRow.out (fun _ _ => id)) (.slice (some ⟨wr.heap.size, 0, none⟩) 1 1) 1 [.int .i64 x] rfl (src_one wr Try.underlying43 _ rfl _ rfl) HAP.out.1 HAP.out.2 ?_; intro a6 c6 w6 hown6 ht6 hf6 _)
      have tn := Touch.new wr (.cells #[.int .i64 x] 3)
      have HA := Lib.hid (show w6.ownsRow 0 3 1 (.slice a6 (k + 1) c6) (k + 1) (cellsZ .i64 (zN L1) (k + 1)) ∧ OwnB w1.heap.size (.slice a6 (k + 1) c6) ∧ Touch (fun _ => False) w1 w6 from
        ⟨by rw [cellsZ_succ, HX2.out]; exact hown6, hown.fresh hf6 (Nat.le_trans HTo.out.size tn.size), own_app (HTo.out.trans tn) hown ht6⟩)
      clear hown6 ht6 hf6 tn
      go_roundw
      case rel =>
        obtain ⟨r1, r2, r3⟩ := HA.out
        exact ⟨k + 1, _, HLT.out, by first | rfl | (rw [fu1]; go_num) | go_num, rfl, r1, r2, r3⟩
      case measure => first | exact HM.out | (rw [fu1]; exact HM.out)
    · obtain rfl : k = m := Nat.le_antisymm hk (Nat.not_lt.1 hlt)
      clear hlt hk
      obtain ⟨xa, xb, xc, rfl, hx⟩ := ints_row HRow.out
      have hC2 := HC.out.touch HTo.out id (fun _ hh => hh.elim)
      have HX := Lib.hid hx
      have HTW := Lib.hid (ctwo_walk _ r G b1 l1 hC2 H81.out HLL.out.1)
      clear hx hC2
      go_wp2_with fail
      refine HTW.out.mono ?_
      intro e w3 hp
      obtain ⟨rfl, hcur, t3⟩ := two_uni hp
      obtain ⟨e1, e2, e3⟩ := HWQ.out
      rw [e2, e3] at hcur
      rw [e1]
      have HTK := Lib.hid (ctake_walk _ r G b2 l2 hcur k2 HLL.out.2.2 HLL.out.2.1)
      have T3 := Lib.hid t3
      clear hp hcur t3 e1 e2 e3 HTW
      go_wp2_with fail
      refine HTK.out.mono ?_
      intro e w4 hp
      obtain ⟨ab, bb, ob, cb, rfl, hbb, hltb, hcur4, t4⟩ := take_uni hp
      obtain ⟨e1, e2, e3⟩ := HXQ.out
      rw [e1] at hbb hltb
      rw [e2, e3] at hcur4
      rw [e1]
      have hsn := seen_list hbb H8X.out
      have t34 := T3.out.trans t4
      have hxb : 0 < k → ¬ xb = r := fun hp e => by
        have h1 := own_ge hown HX.out hp
        have h2 := HRW.out
        have h3 := HT1.out.size
        omega
      have hx4 := Ints.touchS HX.out t34 hxb
      have hbw : 0 < X.length → bb < w4.heap.size := fun hp => by
        have := hltb hp
        have h2 := HGR.out
        have h1 := HT1.out.size
        have h3 := HTo.out.size
        have h4 := t34.size
        omega
      have HDEC := Lib.hid (cdec_walk xa ab xb 0 k xc bb ob X.length cb nn (zN L1) (zB X) _ hx4 hsn hbw HXL.out (by omega) (by omega))
      rw [HR.out] at HDEC
      have HC4 := Lib.hid hcur4
      have T14 := Lib.hid (t34)
      clear hp hbb hltb hcur4 t4 e1 e2 e3 hsn t34 hxb hx4 hbw HTK T3
      go_wp2_with fail
      refine HDEC.out.mono ?_
      intro e w5 hp
      obtain ⟨hmm, t5⟩ := hp
      have hC5 := HC4.out.touch t5 id (fun _ hh => hh.elim)
      obtain ⟨a9, b9, o9, c9, hh9, _⟩ := hC5.out
      obtain ⟨q0, q1⟩ := two_cells hh9
      have f1 := two_free hh9 1
      have HC5 := Lib.hid hC5
      have T15 := Lib.hid (HT1.out.trans ((HTo.out.mono (fun _ _ hh => hh.elim)).trans (T14.out.trans (t5.mono (fun _ _ hh => hh.elim)))))
      have HSZ := Lib.hid (show w.heap.size ≤ w4.heap.size from Nat.le_trans HT1.out.size (Nat.le_trans HTo.out.size T14.out.size))
      clear hh9 hC5 t5
      cases R with
      | none =>
        obtain rfl := hmm
        go_wp2_with fail
        try go_ret
        rw [← HQ.out, Option.isNone_none, Bool.or_true]
        exact ⟨⟨none, 0, 0, rfl, ⟨fun hp => absurd hp (Nat.lt_irrefl _), fun i hi => absurd hi (Nat.not_lt_zero _)⟩, fun hp => absurd hp (Nat.lt_irrefl _)⟩, row_end HC5.out, T15.out.trans (touch_cell _ r 1 _)⟩
      | some o =>
        obtain ⟨ao, bo, co, rfl, hro⟩ := hmm
        have HRO := Lib.hid hro
        obtain ⟨no, hno⟩ : ∃ n, o.length = n := ⟨_, rfl⟩
        rw [hno]
        have HNO := Lib.hid hno
        clear hro hno
        go_wp2_with fail
        try go_ret
        rw [← HQ.out, Option.isNone_some, Bool.or_false]
        refine ⟨⟨ao, bo, co, by rw [← HNO.out]; rfl, HRO.out, fun hp => ne_cur HC5.out HRO.out hp⟩, HC5.out, T15.out⟩
end Go.Proofs.Ythnhacbagmhfoaa

/- seqs: numbers out of codes and extras. -/
namespace Go.Proofs.Ythnhacbagmhfoaa
open Go.RowKit Go.WideShapes Go.Shelf Fs
set_option linter.unusedVariables false
set_option linter.unusedSimpArgs false
set_option maxRecDepth 100000

def valueP (c x : Nat) : Nat := if c = 0 then 0 else 2 ^ (c - 1) + x
theorem pvalue_walk (c x : Nat) (hc : c ≤ 32) (hx : x ≤ 1073741824) (w : World) : Calls Try.prog 17 #[.int .i64 c, .int .i64 x] w fun e w' => e = .returned (.int .i64 (valueP c x : Nat)) ∧ w = w' := by
  unfold valueP
  cases c with
  | zero => exact value_zero _ w
  | succ k =>
    have := value_pos k x (by omega) (by omega) w
    rw [if_neg (by omega), Nat.add_sub_cancel, show ((k + 1 : Nat) : Int) = (k : Int) + 1 by omega]
    exact this
theorem cvalue_pos (k x : Nat) (hk : k ≤ 40) (hx : x ≤ 2 ^ 41) (w : World) : Calls Try.prog 81 #[.int .i64 ((k : Int) + 1), .int .i64 x] w fun e w' => e = .returned (.int .i64 ((2 ^ k + x : Nat) : Int)) ∧ w = w' := by
  have hne : (((k : Int) + 1) == 0) = false := by simp; omega
  have hw := Lib.hid (wrap_pow40 k hk)
  have hp : (2 : Nat) ^ k ≤ 2 ^ 40 := Nat.pow_le_pow_right (by omega) hk
  obtain ⟨q, hq⟩ : ∃ q : Nat, 2 ^ k = q := ⟨_, rfl⟩
  have hwq : wrap64 ((2 : Int) ^ k) = q := by rw [hw.out, hq]
  rw [hq] at hp ⊢
  clear hq
  go_enter Try.func81, Try.ntmps81
  go_wp2
  go_ret
  exact ⟨by simp, rfl⟩
theorem cvalue_walk (c x : Nat) (hc : c ≤ 32) (hx : x ≤ 1073741824) (w : World) : Calls Try.prog 81 #[.int .i64 c, .int .i64 x] w fun e w' => e = .returned (.int .i64 (valueP c x : Nat)) ∧ w = w' := by
  unfold valueP
  cases c with
  | zero =>
    go_enter Try.func81, Try.ntmps81
    go_wp2
    go_ret
    exact ⟨rfl, rfl⟩
  | succ k =>
    have := cvalue_pos k x (by omega) (by omega) w
    rw [if_neg (by omega), Nat.add_sub_cancel, show ((k + 1 : Nat) : Int) = (k : Int) + 1 by omega]
    exact this
/-- The extras that are left behind m codes; whether all were there; the m-th number. -/
def exE (cs : Nat → Nat) (E : List Bool) : Nat → List Bool
  | 0 => E
  | m + 1 => takenL (exE cs E m) ((cs m - 1 : Nat) : Int)
def exK (cs : Nat → Nat) (E : List Bool) : Nat → Bool
  | 0 => true
  | m + 1 => exK cs E m && takeOk ((cs m - 1 : Nat) : Int) (exE cs E m).length
def exV (cs : Nat → Nat) (E : List Bool) (m : Nat) : Nat := valueP (cs m) (takenV (exE cs E m) ((cs m - 1 : Nat) : Int))
theorem exE_le (cs : Nat → Nat) (E : List Bool) : ∀ m, (exE cs E m).length ≤ E.length
  | 0 => Nat.le_refl _
  | m + 1 => Nat.le_trans (takenL_le _ _) (exE_le cs E m)
theorem takenV_any (l : List Bool) (n : Nat) : takenV l (n : Int) < 2 ^ n ∧ (¬ n ≤ 24 → takenV l (n : Int) = 0) := by
  refine ⟨takenV_lt l n, fun h => ?_⟩
  unfold takenV
  rw [if_neg]
  simp [takeOk]; omega
theorem valueP_bd {c : Nat} (hc : c < 32) (l : List Bool) : valueP c (takenV l ((c - 1 : Nat) : Int)) ≤ 1073741824 ∧ takenV l ((c - 1 : Nat) : Int) ≤ 1073741824 := by
  obtain ⟨h1, h2⟩ := takenV_any l (c - 1)
  have hp : (2 : Nat) ^ (c - 1) ≤ 2 ^ 30 := Nat.pow_le_pow_right (by omega) (by omega)
  unfold valueP
  by_cases h0 : c = 0
  · rw [if_pos h0]; exact ⟨by omega, by omega⟩
  · rw [if_neg h0]
    by_cases h3 : c - 1 ≤ 24
    · have h4 : (2 : Nat) ^ (c - 1) ≤ 2 ^ 24 := Nat.pow_le_pow_right (by omega) h3
      exact ⟨by omega, by omega⟩
    · have := h2 h3
      exact ⟨by omega, by omega⟩
theorem exV_bd {cs : Nat → Nat} (hc : ∀ m, cs m < 32) (E : List Bool) (m : Nat) : exV cs E m ≤ 1073741824 := (valueP_bd (hc m) _).1
theorem max_pred (c : Nat) : max ((c : Int) - 1) 0 = ((c - 1 : Nat) : Int) := by omega
theorem wrap_predc {c : Nat} (h : c < 32) : wrap64 ((c : Int) - 1) = (c : Int) - 1 := by unfold wrap64; omega

/-- A number of the document's reader. -/
structure CvPost (r G t len : Nat) (a : Option Addr) (cap : Nat) (bad : Bool) (l : List Nat) (c : Nat) (z : Nat → Nat) (M : Nat) (w : World) (e : Ending) (w' : World) : Prop where
  ret : e = .returned (.int .i64 (valueP c (takenV (readBits z M) ((c - 1 : Nat) : Int)) : Nat))
  cur : Cur w' 83 r G (bad || !takeOk ((c - 1 : Nat) : Int) M) l
  rd : Rd w' t (.slice a len cap) (leftN M ((c - 1 : Nat) : Int))
  touch : Touch (fun q => q = r ∨ q = t) w w'
theorem cval_walk (w : World) (r G t b off len cap M c : Nat) (a : Option Addr) (z : Nat → Nat) (bad : Bool) (l : List Nat) (hcur : Cur w 83 r G bad l) (hw : Rd w t (.slice a len cap) M) (hz : Seen w a b off len z) (hq : M ≤ 8 * len) (hm : len ≤ 100000) (hne : t ≠ b) (hc : c < 32) (htr : t ≠ r) (hG : G ≤ t) :
    Calls Try.prog 56 #[.pointer (some ⟨r, 0, none⟩), .pointer (some ⟨t, 0, none⟩), .int .i64 c] w (CvPost r G t len a cap bad l c z M w) := by
  have HT := Lib.hid (rtake_walk t b off len cap M a z ((c - 1 : Nat) : Int) w hw hz hq hm hne)
  have HV := Lib.hid (fun w => cvalue_walk c (takenV (readBits z M) ((c - 1 : Nat) : Int)) (by omega) (valueP_bd hc _).2 w)
  obtain ⟨Q, hQ⟩ : ∃ Q, CvPost r G t len a cap bad l c z M w = Q := ⟨_, rfl⟩
  rw [hQ]
  have HQ := Lib.hid hQ
  have HC := Lib.hid hcur
  have e1 := max_pred c
  have e2 := wrap_predc hc
  clear hQ hcur hw hz hq
  go_enter Try.func56, Try.ntmps56
  go_wp2_with fail
  refine HT.out.mono ?_
  rintro e w1 ⟨rfl, hrd, _, t1⟩
  have hC1 := HC.out.touch t1 (fun h => htr h.symm) (fun q h => by omega)
  obtain ⟨a9, b9, o9, c9, hh9, _⟩ := hC1.out
  obtain ⟨q0, q1⟩ := two_cells hh9
  have f1 := two_free hh9 1
  have HC1 := Lib.hid hC1
  have HRD := Lib.hid hrd
  have T1 := Lib.hid t1
  obtain ⟨K, hK⟩ : ∃ K, takeOk ((c - 1 : Nat) : Int) M = K := ⟨_, rfl⟩
  rw [hK]
  have HK := Lib.hid hK
  clear hh9 hC1 hrd t1 hK e1 e2
  cases K with
  | true =>
    go_wp2_with fail
    refine (HV.out _).mono ?_
    rintro e w2 ⟨rfl, rfl⟩
    go_wp2_with fail
    try go_ret
    rw [← HQ.out]
    exact ⟨rfl, by rw [HK.out]; simpa using HC1.out, HRD.out, T1.out.mono (fun _ _ h => .inr h)⟩
  | false =>
    go_wp2_with fail
    refine (HV.out _).mono ?_
    rintro e w2 ⟨rfl, rfl⟩
    go_wp2_with fail
    try go_ret
    rw [← HQ.out]
    exact ⟨rfl, by rw [HK.out]; simpa using row_end (bad' := true) HC1.out, HRD.out.touch (touch_cell _ r 1 _) htr, (T1.out.mono (fun _ _ h => .inr h)).trans ((touch_cell _ r 1 _).mono (fun _ _ h => .inl h))⟩
end Go.Proofs.Ythnhacbagmhfoaa

/- seqs: steps, read: what is read, in plain words; where nothing is. -/
namespace Go.Proofs.Ythnhacbagmhfoaa
open Go.RowKit Go.WideShapes Go.Shelf Fs
set_option linter.unusedVariables false
set_option linter.unusedSimpArgs false
set_option maxRecDepth 100000

/-- What is read of bytes: how many steps, three rows of codes, the bytes of the extras. -/
def q0 (B : List Nat) : Nat × Bool × List Nat := twoQ false B
def q1 (B : List Nat) : Option (List Nat) × Bool × List Nat := rowQ (q0 B).2.1 (q0 B).2.2 (q0 B).1
def q2 (B : List Nat) : Option (List Nat) × Bool × List Nat := rowQ (q1 B).2.1 (q1 B).2.2 (q0 B).1
def q3 (B : List Nat) : Option (List Nat) × Bool × List Nat := rowQ (q2 B).2.1 (q2 B).2.2 (q0 B).1
def q4 (B : List Nat) : Nat × Bool × List Nat := twoQ (q3 B).2.1 (q3 B).2.2
def q5 (B : List Nat) : List Nat × Bool × List Nat := takeQ (q4 B).2.1 (q4 B).2.2 (q4 B).1
def q6 (B : List Nat) : Option (List Bool) := bitsIn (zB (q5 B).1) (q5 B).1.length
/-- The codes, step by step. -/
def codesQ (a b c : List Nat) (m : Nat) : Nat := if m % 3 = 0 then a.getD (m / 3) 0 else if m % 3 = 1 then b.getD (m / 3) 0 else c.getD (m / 3) 0
def qc (B : List Nat) : Nat → Nat := codesQ ((q1 B).1.getD []) ((q2 B).1.getD []) ((q3 B).1.getD [])
def qE (B : List Nat) : List Bool := (q6 B).getD []
def early (B : List Nat) : Bool := (q0 B).2.1 || (decide ((q0 B).1 = 0) || decide (500 < (q0 B).1))
def headOk (B : List Nat) : Bool := !(q5 B).2.1 && (q6 B).isSome
/-- The steps' numbers. -/
def qz (B : List Nat) (h : H3) (i j : Nat) : Int :=
  if i < (q0 B).1 then (if j = 0 then (exV (qc B) (qE B) (3 * i) : Int) else if j = 1 then valB (fun i => (exV (qc B) (qE B) (3 * i + 1) : Int)) h i else if j = 2 then (exV (qc B) (qE B) (3 * i + 2) : Int) + 4 else 0) else 0
theorem q0_sub {B : List Nat} (h8 : ∀ x ∈ B, x < 256) : (q0 B).2.2 <:+ B ∧ (q0 B).1 ≤ 65535 := twoQ_sub false B h8
theorem q1_sub {B : List Nat} (h8 : ∀ x ∈ B, x < 256) : (q1 B).2.2 <:+ B := (rowQ_sub _ _ _ (sub8 (q0_sub h8).1 h8)).trans (q0_sub h8).1
theorem q2_sub {B : List Nat} (h8 : ∀ x ∈ B, x < 256) : (q2 B).2.2 <:+ B := (rowQ_sub _ _ _ (sub8 (q1_sub h8) h8)).trans (q1_sub h8)
theorem q3_sub {B : List Nat} (h8 : ∀ x ∈ B, x < 256) : (q3 B).2.2 <:+ B := (rowQ_sub _ _ _ (sub8 (q2_sub h8) h8)).trans (q2_sub h8)
theorem q4_sub {B : List Nat} (h8 : ∀ x ∈ B, x < 256) : (q4 B).2.2 <:+ B ∧ (q4 B).1 ≤ 65535 :=
  ⟨(twoQ_sub _ _ (sub8 (q3_sub h8) h8)).1.trans (q3_sub h8), (twoQ_sub _ _ (sub8 (q3_sub h8) h8)).2⟩
theorem q5_sub {B : List Nat} (h8 : ∀ x ∈ B, x < 256) : (q5 B).2.2 <:+ B ∧ (∀ x ∈ (q5 B).1, x < 256) ∧ (q5 B).1.length ≤ 65535 :=
  ⟨(takeQ_sub _ _ _).1.trans (q4_sub h8).1, fun x hx => sub8 (q4_sub h8).1 h8 x ((takeQ_sub _ _ _).2.1 x hx), Nat.le_trans (takeQ_sub _ _ _).2.2 (q4_sub h8).2⟩
theorem takeQ_bad {l : List Nat} {n : Nat} : (takeQ true l n).2.1 = true := by unfold takeQ; rw [if_pos (.inl rfl)]
theorem twoQ_bad {l : List Nat} : (twoQ true l).2.1 = true := rfl
theorem takeQ_good {b : Bool} {l : List Nat} {n : Nat} (h : (takeQ b l n).2.1 = false) : b = false := by
  cases b with
  | false => rfl
  | true => rw [takeQ_bad] at h; cases h
theorem twoQ_good {b : Bool} {l : List Nat} (h : (twoQ b l).2.1 = false) : b = false := by
  cases b with
  | false => rfl
  | true => rw [twoQ_bad] at h; cases h
theorem rowQ_good {b : Bool} {l : List Nat} {nn : Nat} (h : (rowQ b l nn).2.1 = false) : b = false ∧ ((rowQ b l nn).1.getD []).length = nn ∧ ∀ x ∈ (rowQ b l nn).1.getD [], x < 32 := by
  have h1 : ((takeQ (twoQ (takeQ b l 16).2.1 (takeQ b l 16).2.2).2.1 (twoQ (takeQ b l 16).2.1 (takeQ b l 16).2.2).2.2 (twoQ (takeQ b l 16).2.1 (takeQ b l 16).2.2).1).2.1 || (rowQ b l nn).1.isNone) = false := h
  rw [Bool.or_eq_false_iff] at h1
  refine ⟨takeQ_good (twoQ_good (takeQ_good h1.1)), ?_⟩
  cases hR : (rowQ b l nn).1 with
  | none => rw [hR] at h1; cases h1.2
  | some o => exact decZ_len hR
theorem rowQ_32 (b : Bool) (l : List Nat) (nn : Nat) : ∀ x ∈ (rowQ b l nn).1.getD [], x < 32 := by
  cases hR : (rowQ b l nn).1 with
  | none => intro x hx; exact absurd hx List.not_mem_nil
  | some o => exact (decZ_len hR).2
theorem getD_32 {l : List Nat} (h : ∀ x ∈ l, x < 32) (i : Nat) : l.getD i 0 < 32 := by
  rw [List.getD_eq_getElem?_getD]
  cases hh : l[i]? with
  | none => decide
  | some x => exact h x (List.mem_of_getElem? hh)
theorem codesQ_32 {a b c : List Nat} (ha : ∀ x ∈ a, x < 32) (hb : ∀ x ∈ b, x < 32) (hc : ∀ x ∈ c, x < 32) (m : Nat) : codesQ a b c m < 32 := by
  unfold codesQ
  split
  · exact getD_32 ha _
  · split
    · exact getD_32 hb _
    · exact getD_32 hc _
theorem qc_32 (B : List Nat) (m : Nat) : qc B m < 32 := codesQ_32 (rowQ_32 _ _ _) (rowQ_32 _ _ _) (rowQ_32 _ _ _) m
theorem qE_len {B : List Nat} (h8 : ∀ x ∈ B, x < 256) : (qE B).length ≤ 1000000 := by
  unfold qE
  cases h : q6 B with
  | none => exact Nat.zero_le _
  | some l =>
    obtain ⟨_, h1, h2⟩ := q5_sub h8
    have := bitsIn_len (fun i => by
      unfold zB
      rw [List.getD_eq_getElem?_getD]
      cases hh : (q5 B).1[i]? with
      | none => decide
      | some x => exact h1 x (List.mem_of_getElem? hh)) h
    show l.length ≤ 1000000
    omega
theorem head_ok {B : List Nat} (h : headOk B = true) : (q5 B).2.1 = false ∧ (q6 B) = some (qE B) ∧ ((q1 B).1.getD []).length = (q0 B).1 ∧ ((q2 B).1.getD []).length = (q0 B).1 ∧ ((q3 B).1.getD []).length = (q0 B).1 := by
  unfold headOk at h
  rw [Bool.and_eq_true, Bool.not_eq_true'] at h
  have h3 := rowQ_good (twoQ_good (takeQ_good h.1))
  have h2 := rowQ_good h3.1
  have h1 := rowQ_good h2.1
  refine ⟨h.1, ?_, h1.2.1, h2.2.1, h3.2.1⟩
  unfold qE
  cases hh : q6 B with
  | none => rw [hh] at h; cases h.2
  | some l => rfl
/-- A history of bounded numbers. -/
def WfH (h : H3) : Prop := (Lit.int .i64 h.a).wf = true ∧ (Lit.int .i64 h.b).wf = true ∧ (Lit.int .i64 h.c).wf = true
theorem wf_of {x : Int} (h0 : -9223372036854775808 ≤ x) (h1 : x ≤ 9223372036854775807) : (Lit.int .i64 x).wf = true := by
  simp only [Lit.wf, Bool.and_eq_true, decide_eq_true_eq]
  exact ⟨Int.le_trans (by decide) h0, Int.le_trans h1 (by decide)⟩
theorem wf_offB {h : H3} (hw : WfH h) {v : Int} (h0 : 0 ≤ v) (h1 : v ≤ 1073741824) : (Lit.int .i64 (offB h v)).wf = true := by
  unfold offB
  split
  · exact hw.1
  · split
    · exact hw.2.1
    · split
      · exact hw.2.2
      · exact wf_of (by omega) (by omega)
theorem wf_front {h : H3} (hw : WfH h) (v : Int) {off : Int} (ho : (Lit.int .i64 off).wf = true) : WfH (frontH h v off) := by
  unfold frontH
  split
  · exact hw
  · split
    · exact ⟨ho, hw.1, hw.2.2⟩
    · exact ⟨ho, hw.1, hw.2.1⟩
theorem wf_histB {z : Nat → Int} {h : H3} (hw : WfH h) (hz : ∀ i, 0 ≤ z i ∧ z i ≤ 1073741824) : ∀ k, WfH (histB z h k)
  | 0 => hw
  | k + 1 => wf_front (wf_histB hw hz k) _ (wf_offB (wf_histB hw hz k) (by have := hz k; omega) (by have := hz k; omega))
theorem wf_valB {z : Nat → Int} {h : H3} (hw : WfH h) (hz : ∀ i, 0 ≤ z i ∧ z i ≤ 1073741824) (k : Nat) : (Lit.int .i64 (valB z h k)).wf = true :=
  wf_offB (wf_histB hw hz k) (by have := hz k; omega) (by have := hz k; omega)
theorem qz_wf {B : List Nat} {h : H3} (hw : WfH h) (i j : Nat) : (Lit.int .i64 (qz B h i j)).wf = true := by
  have hb := fun m => exV_bd (cs := qc B) (qc_32 B) (qE B) m
  unfold qz
  split
  · split
    · exact wf_of (by have := hb (3 * i); omega) (by have := hb (3 * i); omega)
    · split
      · exact wf_valB hw (fun i => by have := hb (3 * i + 1); omega) i
      · split
        · exact wf_of (by have := hb (3 * i + 2); omega) (by have := hb (3 * i + 2); omega)
        · exact wf_of (by decide) (by decide)
  · exact wf_of (by decide) (by decide)
end Go.Proofs.Ythnhacbagmhfoaa

/- seqs: steps, read: what the walk keeps. -/
namespace Go.Proofs.Ythnhacbagmhfoaa
open Go.RowKit Go.WideShapes Go.Shelf Fs
set_option linter.unusedVariables false
set_option linter.unusedSimpArgs false
set_option maxRecDepth 100000

def readQ (B : List Nat) : Option (Nat × List Nat) :=
  if (q0 B).2.1 = true then none else if (q0 B).1 = 0 then some (0, (q0 B).2.2) else if 500 < (q0 B).1 then none
  else if headOk B = true ∧ exK (qc B) (qE B) (3 * (q0 B).1) = true then some ((q0 B).1, (q5 B).2.2) else none
def StepsPost (t : TypeId) (r G : Nat) (B : List Nat) (h : H3) (w : World) (e : Ending) (w' : World) : Prop :=
  Touch (· = r) w w' ∧ match readQ B with
  | some (n, l') => ∃ a b c, e = .returned (.slice a n c) ∧ RecsIn 3 w' a b 0 n c (qz B h) ∧ Cur w' t r G false l' ∧ (0 < n → w.heap.size ≤ b)
  | none => ∃ a b c n z l', e = .returned (.slice a n c) ∧ RecsIn 3 w' a b 0 n c z ∧ n ≤ 500 ∧ Cur w' t r G true l' ∧ (0 < n → w.heap.size ≤ b)
theorem recs_none (w : World) (c : Nat) (hc : c ≤ maxLen) (z : Nat → Nat → Int) (hz : ∀ i j, (Lit.int .i64 (z i j)).wf = true) (b : Nat) : RecsIn 3 w none b 0 0 c z :=
  ⟨fun h => absurd h (Nat.lt_irrefl _), fun h => absurd h (Nat.lt_irrefl _), Nat.zero_le _, hc, fun i hi => absurd hi (Nat.not_lt_zero _), hz⟩
theorem steps_bad {t : TypeId} {r G : Nat} {B : List Nat} {h : H3} {w w' : World} {l' : List Nat} (hr : readQ B = none) (t1 : Touch (· = r) w w') (hc : Cur w' t r G true l') : StepsPost t r G B h w (.returned (.slice none 0 0)) w' := by
  refine ⟨t1, ?_⟩
  rw [hr]
  exact ⟨none, 0, 0, 0, fun _ _ => 0, l', rfl, recs_none _ _ (Nat.zero_le _) _ (fun _ _ => by decide) _, Nat.zero_le _, hc, fun h => absurd h (Nat.lt_irrefl _)⟩
theorem steps_zero {t : TypeId} {r G : Nat} {B : List Nat} {h : H3} {w w' : World} (hw : WfH h) (h1 : (q0 B).2.1 = false) (h2 : (q0 B).1 = 0) (t1 : Touch (· = r) w w') (hc : Cur w' t r G false (q0 B).2.2) : StepsPost t r G B h w (.returned (.slice none 0 0)) w' := by
  refine ⟨t1, ?_⟩
  unfold readQ
  rw [h1, if_neg (by decide), if_pos h2]
  exact ⟨none, 0, 0, rfl, recs_none _ _ (Nat.zero_le _) _ (qz_wf hw) _, hc, fun h => absurd h (Nat.lt_irrefl _)⟩
def trip (z : Nat → Nat → Int) (n : Nat) : List (Int × Int × Int) := (List.range n).map fun i => (z i 0, z i 1, z i 2)
theorem trip_succ (z : Nat → Nat → Int) (n : Nat) : trip z (n + 1) = trip z n ++ [(z n 0, z n 1, z n 2)] := by simp [trip, List.range_succ]
theorem trip_get {z : Nat → Nat → Int} {n i : Nat} (h : i < n) : (trip z n)[i]? = some (z i 0, z i 1, z i 2) := by simp [trip, h]
theorem trip_len (z : Nat → Nat → Int) (n : Nat) : (trip z n).length = n := by simp [trip]
theorem recs_of {w : World} {v : Value} {n : Nat} {z : Nat → Nat → Int} (h : w.ownsRow 0 42 3 v n (recL (trip z n))) (hz : ∀ i j, (Lit.int .i64 (z i j)).wf = true) : ∃ a b c, v = .slice a n c ∧ RecsIn 3 w a b 0 n c z ∧ (0 < n → v.ownBlock = some b) := by
  have h' := h
  rcases h.2 with ⟨rfl, rfl⟩ | ⟨g, cap, cur, rfl, _, hg, hnc, hcm, _, _⟩
  · exact ⟨none, 0, 0, rfl, recs_none _ _ (Nat.zero_le _) _ hz _, fun h => absurd h (Nat.lt_irrefl _)⟩
  · have h2 : w.ownsRow 0 42 3 (.slice (some ⟨g, 0, none⟩) n cap) (trip z n).length (recL (trip z n)) := by rw [trip_len]; exact h'
    obtain ⟨a, b, c, hv, hr⟩ := recs_row h2
    rw [trip_len] at hv
    cases hv
    refine ⟨_, g, cap, rfl, ⟨fun _ => rfl, fun _ => lt_of_block hg, hnc, hcm, fun i hi j hj => ?_, hz⟩, fun _ => rfl⟩
    have hb := hr.at_ (by rw [trip_len]; omega)
    cases hb
    obtain ⟨k0, k1, k2⟩ := hr.cell i _ (trip_get hi)
    have : j = 0 ∨ j = 1 ∨ j = 2 := by omega
    rcases this with rfl | rfl | rfl
    · exact k0
    · exact k1
    · exact k2

/-- The reader behind k rows; the k-th row. -/
def qs (B : List Nat) : Nat → Bool × List Nat
  | 0 => (q0 B).2
  | 1 => (q1 B).2
  | 2 => (q2 B).2
  | _ => (q3 B).2
def qr (B : List Nat) : Nat → Option (List Nat) × Bool × List Nat
  | 0 => q1 B
  | 1 => q2 B
  | _ => q3 B
def qo (B : List Nat) (j : Nat) : List Nat := (qr B j).1.getD []
theorem qr_is (B : List Nat) {k : Nat} (hk : k < 3) : rowQ (qs B k).1 (qs B k).2 (q0 B).1 = qr B k := by
  have : k = 0 ∨ k = 1 ∨ k = 2 := by omega
  rcases this with rfl | rfl | rfl <;> rfl
theorem qr_snd (B : List Nat) {k : Nat} (hk : k < 3) : (qr B k).2 = qs B (k + 1) := by
  have : k = 0 ∨ k = 1 ∨ k = 2 := by omega
  rcases this with rfl | rfl | rfl <;> rfl
theorem qs_sub {B : List Nat} (h8 : ∀ x ∈ B, x < 256) (k : Nat) : (qs B k).2 <:+ B := by
  match k with
  | 0 => exact (q0_sub h8).1
  | 1 => exact q1_sub h8
  | 2 => exact q2_sub h8
  | _ + 3 => exact q3_sub h8
structure RowsI (B : List Nat) (r G P6 M : Nat) (w0 : World) (k : Nat) (v : Nat → Value) (wr : World) : Prop where
  tri : RowAt wr P6 60 3 v
  cur : Cur wr 77 r G (qs B k).1 (qs B k).2
  row : ∀ j, j < k → ∃ a c, v j = .slice a (qo B j).length c ∧ wr.ownsRow 0 3 1 (v j) (qo B j).length (natC (qo B j))
  own : ∀ j, j < k → OwnB M (v j)
  dis : ∀ i j b, i < j → j < k → (v i).ownBlock = some b → (v j).ownBlock ≠ some b
  touch : Touch (fun q => q = r ∨ q = P6) w0 wr
theorem RowsI.next {B : List Nat} {r G P6 M : Nat} {w0 wr w1 : World} {k : Nat} {v : Nat → Value} (h : RowsI B r G P6 M w0 k v wr) (hk : k < 3) (hr6 : r ≠ P6) (hrM : r < M) (h6M : P6 < M) (hM : M ≤ w0.heap.size) {a : Option Addr} {c : Nat}
    (hrow : w1.ownsRow 0 3 1 (.slice a (qo B k).length c) (qo B k).length (natC (qo B k))) (hown : OwnB wr.heap.size (.slice a (qo B k).length c)) (hcur : Cur w1 77 r G (qs B (k + 1)).1 (qs B (k + 1)).2) (t : Touch (· = r) wr w1) (hG : G ≤ P6) :
    RowsI B r G P6 M w0 (k + 1) (fun j => if j = k then .slice a (qo B k).length c else v j) (w1.setCell ⟨P6, k, none⟩ (.slice a (qo B k).length c)) := by
  have ht := (t.mono (fun _ _ e => .inl e : ∀ q, q < wr.heap.size → q = r → (q = r ∨ q = P6))).trans ((touch_cell w1 P6 k (.slice a (qo B k).length c)).mono (fun _ _ e => .inr e))
  have hMw : M ≤ wr.heap.size := Nat.le_trans hM h.touch.size
  refine ⟨(RowAt.touch h.tri t (fun e => hr6 e.symm)).set k _, hcur.touch (touch_cell w1 P6 k _) hr6 (fun q e => by omega), fun j hj => ?_, fun j hj => ?_, fun i j b hij hj hb => ?_, h.touch.trans ht⟩
  · by_cases e : j = k
    · subst e
      simp only [if_pos]
      exact ⟨a, c, rfl, (touch_cell w1 P6 j _).row hrow (fun q hq e => by have := hown q hq; omega)⟩
    · simp only [if_neg e]
      obtain ⟨a', c', h1, h2⟩ := h.row j (by omega)
      exact ⟨a', c', h1, ht.row h2 (fun q hq e => by have := h.own j (by omega) q hq; omega)⟩
  · by_cases e : j = k
    · simp only [if_pos e]; exact hown.mono hMw
    · simp only [if_neg e]; exact h.own j (by omega)
  · have hi : i ≠ k := by omega
    simp only [if_neg hi] at hb
    by_cases e : j = k
    · simp only [if_pos e]
      intro hb2
      have h1 := hown b hb2
      obtain ⟨a', c', e1, h2⟩ := h.row i (by omega)
      have := own_below h2 hb
      omega
    · simp only [if_neg e]; exact h.dis i j b hij (by omega) hb
theorem readQ_bad {B : List Nat} (h : (q0 B).2.1 = true) : readQ B = none := by unfold readQ; rw [h]; rfl
theorem readQ_many {B : List Nat} (h : 500 < (q0 B).1) : readQ B = none := by
  have h0 : (q0 B).1 ≠ 0 := by omega
  simp [readQ, h, h0]
theorem readQ_head {B : List Nat} (h0 : (q0 B).1 ≠ 0) (h : headOk B = false) : readQ B = none := by
  simp [readQ, h, h0]
theorem q6_bad {B : List Nat} {E : List Bool} (h : q6 B = some E) : (q5 B).2.1 = false := by
  cases hb : (q5 B).2.1 with
  | false => rfl
  | true =>
    have : (q5 B).1 = [] := by
      unfold q5 takeQ at hb ⊢
      split
      · rfl
      · rename_i hh; rw [if_neg hh] at hb; cases hb
    unfold q6 at h
    rw [this] at h
    cases h

theorem codesQ_at (a b c : List Nat) (i j : Nat) (hj : j < 3) : codesQ a b c (3 * i + j) = (if j = 0 then a else if j = 1 then b else c).getD i 0 := by
  unfold codesQ
  rw [show (3 * i + j) % 3 = j by omega, show (3 * i + j) / 3 = i by omega]
  have : j = 0 ∨ j = 1 ∨ j = 2 := by omega
  rcases this with rfl | rfl | rfl <;> rfl
theorem qc_at (B : List Nat) (i j : Nat) (hj : j < 3) : qc B (3 * i + j) = (qo B j).getD i 0 := by
  unfold qc
  rw [codesQ_at _ _ _ _ _ hj]
  have : j = 0 ∨ j = 1 ∨ j = 2 := by omega
  rcases this with rfl | rfl | rfl <;> rfl
theorem rows_at {B : List Nat} {r G P6 M n : Nat} {w0 wr : World} {v : Nat → Value} (h : RowsI B r G P6 M w0 3 v wr) (hn : 0 < n) (hl : ∀ j, j < 3 → (qo B j).length = n) :
    ∃ g c : Nat → Nat, (∀ j, j < 3 → v j = .slice (some ⟨g j, 0, none⟩) n (c j) ∧ RowAt wr (g j) 3 n (fun i => .int .i64 ((qc B (3 * i + j) : Nat) : Int)) ∧ M ≤ g j ∧ g j < wr.heap.size) ∧ (∀ i j, i < 3 → j < 3 → i ≠ j → g i ≠ g j) := by
  have key : ∀ j, j < 3 → ∃ g c : Nat, v j = .slice (some ⟨g, 0, none⟩) n c ∧ RowAt wr g 3 n (fun i => .int .i64 ((qc B (3 * i + j) : Nat) : Int)) ∧ M ≤ g ∧ g < wr.heap.size := by
    intro j hj
    obtain ⟨a, c, h1, h2⟩ := h.row j hj
    unfold natC at h2
    rw [← cells_list, hl j hj] at h2
    obtain ⟨g, c', h3, _, h4⟩ := rowAt_own h2 hn
    refine ⟨g, c', h3, h4.congr (fun i hi => ?_), ?_, RowAt.lt h4⟩
    · rw [qc_at B i j hj]
    · have := h.own j hj
      rw [h3] at this
      exact this g rfl
  have key2 : ∀ j, ∃ g c : Nat, j < 3 → (v j = .slice (some ⟨g, 0, none⟩) n c ∧ RowAt wr g 3 n (fun i => .int .i64 ((qc B (3 * i + j) : Nat) : Int)) ∧ M ≤ g ∧ g < wr.heap.size) := fun j => by
    by_cases hj : j < 3
    · obtain ⟨g, c, hh⟩ := key j hj
      exact ⟨g, c, fun _ => hh⟩
    · exact ⟨0, 0, fun h => absurd h hj⟩
  obtain ⟨g, hg⟩ := Classical.axiomOfChoice key2
  obtain ⟨c, hc⟩ := Classical.axiomOfChoice hg
  refine ⟨g, c, hc, fun i j hi hj hij e => ?_⟩
  have ki := (hc i hi).1
  have kj := (hc j hj).1
  rcases Nat.lt_or_ge i j with hlt | hge
  · have := h.dis i j (g i) hlt hj (by rw [ki]; rfl)
    rw [kj] at this
    exact this (by rw [e]; rfl)
  · have := h.dis j i (g j) (by omega) hi (by rw [kj]; rfl)
    rw [ki] at this
    exact this (by rw [← e]; rfl)
/-- What the extras' loops keep. -/
structure ExI (B : List Nat) (r G t : Nat) (g : Nat → Nat) (n : Nat) (vb : Option Nat) (w0 : World) (m : Nat) (wr : World) : Prop where
  cur : Cur wr 77 r G (!exK (qc B) (qE B) m) (q5 B).2.2
  rd : ∃ v, Wr wr 131 t v (exE (qc B) (qE B) m) ∧ v.ownBlock = vb
  row : ∀ j, j < 3 → RowAt wr (g j) 3 n (fun i => .int .i64 ((if 3 * i + j < m then exV (qc B) (qE B) (3 * i + j) else qc B (3 * i + j) : Nat) : Int))
  touch : Touch (fun q => q = r ∨ q = t ∨ ∃ j, j < 3 ∧ q = g j) w0 wr
theorem out_step {w8 wr w6 : World} {B : List Nat} {h : H3} {k : Nat} {v : Value} {A C : Nat} {O : Int} {o : Obj} {a6 : Option Addr} {c6 : Nat} (ht : Touch (fun _ => False) w8 wr) (hown : OwnB w8.heap.size v) (hq : (qz B h k 0, qz B h k 1, qz B h k 2) = ((A : Int), O, (C : Int) + 4))
    (hown6 : w6.ownsRow 0 42 3 (.slice a6 (k + 1) c6) (k + 1) (recL (trip (qz B h) k) ++ [.int .i64 A, .int .i64 O, .int .i64 ((C : Int) + 4)])) (ht6 : Touch (fun b => v.ownBlock = some b) (wr.alloc o) w6) (hf6 : Fresh (wr.alloc o).heap.size v (.slice a6 (k + 1) c6)) :
    w6.ownsRow 0 42 3 (.slice a6 (k + 1) c6) (k + 1) (recL (trip (qz B h) (k + 1))) ∧ OwnB w8.heap.size (.slice a6 (k + 1) c6) ∧ Touch (fun _ => False) w8 w6 := by
  have tn := Touch.new wr o
  refine ⟨?_, hown.fresh hf6 (Nat.le_trans ht.size tn.size), own_app (ht.trans tn) hown ht6⟩
  rw [trip_succ, recL_snoc, hq]
  exact hown6
theorem steps_end {t : TypeId} {r G : Nat} {B : List Nat} {h : H3} {w w8 wr : World} {Q : Ending → World → Prop} {n : Nat} {v : Value} (hQ : StepsPost t r G B h w = Q) (hw : WfH h) (hn : (q0 B).1 = n) (hb : (q0 B).2.1 = false) (h0 : ¬ n = 0) (h5 : n ≤ 500) (hh : headOk B = true)
    (hc : Cur w8 t r G (!exK (qc B) (qE B) (3 * n)) (q5 B).2.2) (tw : Touch (· = r) w w8) (t8 : Touch (fun _ => False) w8 wr) (hrow : wr.ownsRow 0 42 3 v n (recL (trip (qz B h) n))) (hown : OwnB w8.heap.size v) : Q (.returned v) wr := by
  rw [← hQ]
  obtain ⟨a, b, c, rfl, hr, hb2⟩ := recs_of hrow (qz_wf hw)
  have hc2 := hc.touch t8 id (fun _ hh => hh.elim)
  refine ⟨tw.trans (t8.mono (fun _ _ hh => hh.elim)), ?_⟩
  have hlo : 0 < n → w.heap.size ≤ b := fun hp => Nat.le_trans tw.size (hown b (hb2 hp))
  unfold readQ
  rw [hb, if_neg (by decide), hn, if_neg h0, if_neg (by omega), hh]
  cases hk : exK (qc B) (qE B) (3 * n) with
  | true =>
    rw [hk] at hc2
    rw [if_pos ⟨rfl, rfl⟩]
    exact ⟨a, b, c, rfl, hr, hc2, hlo⟩
  | false =>
    rw [hk] at hc2
    rw [if_neg (by simp)]
    exact ⟨a, b, c, n, _, _, rfl, hr, h5, hc2, hlo⟩
def ExO (M r G t P6 : Nat) (g : Nat → Nat) : Prop := r < M ∧ M < P6 ∧ P6 < t ∧ G ≤ r ∧ (∀ j, j < 3 → P6 < g j ∧ g j < t)
theorem ex_p6 {M r G t P6 : Nat} {g : Nat → Nat} (h : ExO M r G t P6 g) : ¬ (P6 = r ∨ P6 = t ∨ ∃ j, j < 3 ∧ P6 = g j) := by
  obtain ⟨h1, h2, h3, h4, h5⟩ := h
  rintro (e | e | ⟨j, hj, e⟩)
  · omega
  · omega
  · have := h5 j hj; omega
theorem ex_m {M r G t P6 : Nat} {g : Nat → Nat} (h : ExO M r G t P6 g) : ¬ (M = r ∨ M = t ∨ ∃ j, j < 3 ∧ M = g j) := by
  obtain ⟨h1, h2, h3, h4, h5⟩ := h
  rintro (e | e | ⟨j, hj, e⟩)
  · omega
  · omega
  · have := h5 j hj; omega
theorem ex_touch {w w5 w6 : World} {r G t P6 : Nat} {g : Nat → Nat} (h : ExO w.heap.size r G t P6 g) (h5 : Touch (· = r) w w5) (h6 : Touch (fun q => q = r ∨ q = t ∨ ∃ j, j < 3 ∧ q = g j) w5 w6) : Touch (· = r) w w6 := by
  obtain ⟨h1, h2, h3, h4, h7⟩ := h
  refine h5.then h6 (fun q hq e => ?_)
  rcases e with e | e | ⟨j, hj, e⟩
  · exact e
  · omega
  · have := h7 j hj; omega
theorem wrap_four {C : Nat} (h : C ≤ 1073741824) : wrap64 ((C : Int) + 4) = (C : Int) + 4 := by unfold wrap64; omega
theorem wrap_fourI {C : Nat} (h : C ≤ 1073741824) : IntKind.i64.wrap ((C : Int) + 4) = (C : Int) + 4 := IntWalk.i64_in _ (by omega)
theorem app3_500 {k n : Nat} (hk : k < n) (hn : n ≤ 500) : k + 1 ≤ maxLen ∧ (k + 1) * 24 ≤ 140737488355328 := by unfold maxLen; omega
theorem lt3_dec {k : Nat} (h : k < 3) : decide ((k : Int) < 3) = true := decide_eq_true (by omega)
theorem idxT {v : Nat → Value} {k : Nat} (hk : k < 3) (w : World) : (Instr.index 60 (.agg #[v 0, v 1, v 2]) (.int .i64 k)).run Try.prog w = .ok (v k) w := by
  have : k = 0 ∨ k = 1 ∨ k = 2 := by omega
  rcases this with rfl | rfl | rfl
  · exact idxT0 _ _ _ w
  · exact idxT1 _ _ _ w
  · exact idxT2 _ _ _ w

theorem exI_next {B : List Nat} {r G t n i k : Nat} {g : Nat → Nat} {vb : Option Nat} {w0 w w6 : World} {v6 : Value} {C : Nat} (h : ExI B r G t g n vb w0 (3 * i + k) w) (hi : i < n) (hk : k < 3) (hC : qc B (3 * i + k) = C) (hrt : r < t) (hGr : G ≤ r) (hg : ∀ j, j < 3 → r < g j ∧ g j < t) (hgd : ∀ i j, i < 3 → j < 3 → i ≠ j → g i ≠ g j) (hvb : ∀ b, vb = some b → t ≤ b)
    (hw6 : Wr w6 131 t v6 (takenL (exE (qc B) (qE B) (3 * i + k)) ((C - 1 : Nat) : Int))) (hv6 : v6.ownBlock = vb) (t6 : Touch (· = t) w w6) {bad' : Bool} (hb : bad' = (!exK (qc B) (qE B) (3 * i + k) || !takeOk ((C - 1 : Nat) : Int) (exE (qc B) (qE B) (3 * i + k)).length)) :
    ExI B r G t g n vb w0 (3 * i + (k + 1)) ((w6.setCell ⟨r, 1, none⟩ (.bool bad')).setCell ⟨g k, i, none⟩ (.int .i64 (valueP C (takenV (exE (qc B) (qE B) (3 * i + k)) ((C - 1 : Nat) : Int)) : Nat))) := by
  have hE : exE (qc B) (qE B) (3 * i + (k + 1)) = takenL (exE (qc B) (qE B) (3 * i + k)) ((C - 1 : Nat) : Int) := by
    rw [show 3 * i + (k + 1) = (3 * i + k) + 1 by omega]
    rw [← hC]; rfl
  have hK : (!exK (qc B) (qE B) (3 * i + (k + 1))) = bad' := by
    rw [hb, show 3 * i + (k + 1) = (3 * i + k) + 1 by omega]
    show (!(exK (qc B) (qE B) (3 * i + k) && takeOk ((qc B (3 * i + k) - 1 : Nat) : Int) (exE (qc B) (qE B) (3 * i + k)).length)) = _
    rw [hC, Bool.not_and]
  have hgk := hg k hk
  have tr := touch_cell w6 r 1 (.bool bad')
  have tg := touch_cell (w6.setCell ⟨r, 1, none⟩ (.bool bad')) (g k) i (.int .i64 (valueP C (takenV (exE (qc B) (qE B) (3 * i + k)) ((C - 1 : Nat) : Int)) : Nat))
  have hc6 := h.cur.touch t6 (by omega) (fun q e => by omega)
  refine ⟨?_, ⟨v6, ?_, hv6⟩, fun j hj => ?_, ?_⟩
  · rw [hK]
    exact (row_end hc6).touch tg (by omega) (fun q e => by omega)
  · rw [hE]
    refine (hw6.touch tr (by omega) (fun b hb' e => ?_)).touch tg (by omega) (fun b hb' e => ?_)
    · have := hvb b (by rw [← hv6]; exact hb'); omega
    · have := hvb b (by rw [← hv6]; exact hb'); omega
  · have h1 := RowAt.touch (RowAt.touch (h.row j hj) t6 (fun e => by have := hg j hj; omega)) tr (fun e => by have := hg j hj; omega)
    by_cases e : j = k
    · subst e
      refine (h1.set i (.int .i64 (valueP C (takenV (exE (qc B) (qE B) (3 * i + j)) ((C - 1 : Nat) : Int)) : Nat))).congr (fun q hq => ?_)
      by_cases e2 : q = i
      · subst e2
        rw [if_pos rfl, if_pos (by omega)]
        unfold exV
        rw [hC]
      · rw [if_neg e2]
        by_cases h3 : q < i
        · rw [if_pos (by omega), if_pos (by omega)]
        · rw [if_neg (by omega), if_neg (by omega)]
    · refine (RowAt.touch h1 tg (hgd j k hj hk e)).congr (fun q hq => ?_)
      by_cases h3 : 3 * q + j < 3 * i + k
      · rw [if_pos h3, if_pos (by omega)]
      · rw [if_neg h3, if_neg (by omega)]
  · exact h.touch.trans (((t6.mono (fun _ _ e => .inr (.inl e))).trans (tr.mono (fun _ _ e => .inl e))).trans (tg.mono (fun q _ e => .inr (.inr ⟨k, hk, e⟩))))

end Go.Proofs.Ythnhacbagmhfoaa

/- seqs: bytes of a Pack; Unpack, in plain words, and the program's. -/
namespace Go.Proofs.Ythnhacbagmhfoaa
open Go.RowKit Go.WideShapes Go.Shelf Fs
set_option linter.unusedVariables false
set_option linter.unusedSimpArgs false
set_option maxRecDepth 100000

theorem two_256 (n : Nat) : ∀ x ∈ two2 n, x < 256 := by
  intro x hx
  simp [two2] at hx
  omega
theorem bytesL_256 (l : List Bool) : ∀ x ∈ bytesL l, x < 256 := by
  intro x hx
  simp only [bytesL, List.mem_map] at hx
  obtain ⟨i, _, rfl⟩ := hx
  exact byteAt_lt _ _
theorem app_256 {l m : List Nat} (h1 : ∀ x ∈ l, x < 256) (h2 : ∀ x ∈ m, x < 256) : ∀ x ∈ l ++ m, x < 256 := fun x hx => (List.mem_append.1 hx).elim (h1 x) (h2 x)
theorem rowB_256 {v : Nat → Nat} {n : Nat} (hn : 0 < n) (hn5 : n ≤ 500) (hv : ∀ i, i < n → v i < 32768) : ∀ x ∈ rowB v n, x < 256 := by
  refine app_256 (fun x hx => ?_) (app_256 (two_256 _) (bytesL_256 _))
  simp only [rowN, List.mem_map, List.mem_range] at hx
  obtain ⟨i, hi, rfl⟩ := hx
  have := row_bd hn hn5 hv i hi
  omega
theorem pack_256 {z : Nat → Nat → Int} {h : H3} {n : Nat} (hp : packOk z n = true) : ∀ x ∈ packB z h n, x < 256 := by
  unfold packB
  by_cases h0 : n = 0
  · rw [if_pos h0]; exact two_256 _
  · rw [if_neg h0]
    have hn := Nat.pos_of_ne_zero h0
    have h5 := (pack_ok hp).1
    exact app_256 (app_256 (app_256 (app_256 (two_256 _) (rowB_256 hn h5 (fun i hi => (pack_lt (h := h) hp hi).1))) (rowB_256 hn h5 (fun i hi => (pack_lt hp hi).2.1))) (rowB_256 hn h5 (fun i hi => (pack_lt (h := h) hp hi).2.2)))
      (app_256 (two_256 _) (bytesL_256 _))
theorem pack_le {z : Nat → Nat → Int} {h : H3} {n : Nat} (hp : packOk z n = true) : 2 ≤ (packB z h n).length ∧ (packB z h n).length ≤ 10000 := by
  unfold packB
  by_cases h0 : n = 0
  · rw [if_pos h0]; exact ⟨by simp [two2], by simp [two2]⟩
  · rw [if_neg h0]
    have hn := Nat.pos_of_ne_zero h0
    have h5 := (pack_ok hp).1
    have h1 := rowB_len hn h5 (fun i hi => (pack_lt (h := h) hp hi).1)
    have h2 := rowB_len (v := vOff z h) hn h5 (fun i hi => (pack_lt hp hi).2.1)
    have h3 := rowB_len hn h5 (fun i hi => (pack_lt (h := h) hp hi).2.2)
    have h4 := extB_len (vl := vLit z) (vo := vOff z h) (vm := vMore z) h5
    simp only [List.length_append]
    simp only [two2, List.length_cons, List.length_nil] at *
    omega
theorem byte_inv {l : List Nat} (h : ∀ x ∈ l, x < 256) : (Lib.bytesOf (l.map fun (x : Nat) => (x : Int))).map UInt8.toNat = l := by
  unfold Lib.bytesOf
  rw [List.map_map, List.map_map]
  conv => rhs; rw [← List.map_id l]
  refine List.map_congr_left fun x hx => ?_
  have := h x hx
  simp [Function.comp]
  omega
theorem prefix_bytes {l m : List Nat} (hl : ∀ x ∈ l, x < 256) (hm : ∀ x ∈ m, x < 256) : Lib.hasPrefix (Lib.bytesOf (m.map fun (x : Nat) => (x : Int))) (Lib.bytesOf (l.map fun (x : Nat) => (x : Int))) = decide (l <+: m) := by
  unfold Lib.hasPrefix
  rw [Bool.eq_iff_iff, List.isPrefixOf_iff_prefix, decide_eq_true_iff]
  constructor
  · intro h
    have := h.map UInt8.toNat
    rwa [byte_inv hl, byte_inv hm] at this
  · intro h
    unfold Lib.bytesOf
    exact (h.map _).map _
/-- What Unpack gives: how many steps, if any. -/
def unpQ (B : List Nat) (h : H3) : Option Nat := match readQ B with
  | none => none
  | some (n, _) => if packOk (qz B h) n = true ∧ packB (qz B h) h n <+: B then some n else none
def UnpPost (B : List Nat) (h : H3) (w : World) (e : Ending) (w' : World) : Prop :=
  Touch (fun _ => False) w w' ∧ match unpQ B h with
  | none => e = .returned (.tuple #[.slice none 0 0, h.val, .int .i64 0, .bool false])
  | some n => ∃ a b c, e = .returned (.tuple #[.slice a n c, (histO (fun i => qz B h i 1) h n).val, .int .i64 ((packB (qz B h) h n).length : Nat), .bool true]) ∧ RecsIn 3 w' a b 0 n c (qz B h) ∧ (0 < n → w.heap.size ≤ b)
theorem results_cell4 {fn : Func} {s a q u : Tmp} {t : TypeId} (h : fn.results = #[.tmp s, .cell a t, .tmp q, .tmp u]) (tmps : Array Value) (P : Program) (w : World) (p : Addr) (v : Value) (hp : tmps.getD a undef = .pointer (some p)) (hl : (loadVar t p).run P w = .ok v w) :
    (results fn tmps).run P w = .ok (.tuple #[tmps.getD s undef, v, tmps.getD q undef, tmps.getD u undef]) w := by
  have hp' : tmps[a]?.getD undef = .pointer (some p) := by simpa using hp
  simp [results, h, hp', asAddr, hl]
theorem unp_no {B : List Nat} {h : H3} {w w' : World} (hn : unpQ B h = none) (ht : Touch (fun _ => False) w w') : UnpPost B h w (.returned (.tuple #[.slice none 0 0, h.val, .int .i64 0, .bool false])) w' := by
  refine ⟨ht, ?_⟩
  rw [hn]
theorem unpQ_none {B : List Nat} {h : H3} (hr : readQ B = none) : unpQ B h = none := by unfold unpQ; rw [hr]
theorem unpQ_pack {B : List Nat} {h : H3} {n : Nat} {l : List Nat} (hr : readQ B = some (n, l)) (hp : packOk (qz B h) n = false) : unpQ B h = none := by unfold unpQ; rw [hr]; simp [hp]
theorem unpQ_pre {B : List Nat} {h : H3} {n : Nat} {l : List Nat} (hr : readQ B = some (n, l)) (hp : ¬ packB (qz B h) h n <+: B) : unpQ B h = none := by unfold unpQ; rw [hr]; simp [hp]
theorem unpQ_yes {B : List Nat} {h : H3} {n : Nat} {l : List Nat} (hr : readQ B = some (n, l)) (hp : packOk (qz B h) n = true) (hb : packB (qz B h) h n <+: B) : unpQ B h = some n := by unfold unpQ; rw [hr]; simp [hp, hb]
theorem readQ_le {B : List Nat} {n : Nat} {l : List Nat} (hr : readQ B = some (n, l)) : n ≤ 500 := by
  unfold readQ at hr
  split at hr
  · cases hr
  · split at hr
    · cases hr; exact Nat.zero_le _
    · split at hr
      · cases hr
      · split at hr
        · cases hr; omega
        · cases hr
theorem prefix_walk {w : World} {a a2 : Option Addr} {b off b2 off2 c d n m : Nat} {B L : List Nat} (hB : BytesAt w a b off B) (hL : BytesAt w a2 b2 off2 L) (hn : B.length = n) (hm : L.length = m) (hc : n ≤ c) (h8 : ∀ x ∈ B, x < 256) (h8L : ∀ x ∈ L, x < 256) (h0 : 0 < n) (h0L : 0 < m) :
    Calls Try.prog 47 #[.slice a n c, .slice a2 m d] w fun e w' => e = .returned (.bool (decide (L <+: B))) ∧ w = w' := by
  subst hn hm
  obtain rfl := hB.at_ h0
  obtain rfl := hL.at_ h0L
  refine (Try.bytes_HasPrefix b off B.length c b2 off2 L.length d (B.map fun (x : Nat) => (x : Int)) (L.map fun (x : Nat) => (x : Int)) w (by simp) (by simp) hc (fun i hi => ?_) (fun i hi => ?_)).mono ?_
  · rw [hB.cell i hi]; simp [hi]
  · rw [hL.cell i hi]; simp [hi]
  · rintro e w' ⟨rfl, rfl⟩
    rw [prefix_bytes h8L h8]
    exact ⟨rfl, rfl⟩
theorem alloc3 (w : World) (o1 o2 o3 : Obj) : (((w.alloc o1).alloc o2).alloc o3).heap[w.heap.size]? = some o1 ∧ (((w.alloc o1).alloc o2).alloc o3).heap[w.heap.size + 1]? = some o2 ∧ (((w.alloc o1).alloc o2).alloc o3).heap[w.heap.size + 1 + 1]? = some o3 ∧ Touch (fun _ => False) w (((w.alloc o1).alloc o2).alloc o3) := by
  have e1 := size_one w o1
  have q5 := heap_alloc_2 (w.alloc o1) o2 o3
  rw [e1] at q5
  exact ⟨((Touch.new (w.alloc o1) o2).trans (Touch.new _ o3)).heap (heap_alloc_new w o1) id, (Touch.new _ o3).heap (heap_alloc_2 w o1 o2) id, q5, (Touch.new w o1).trans ((Touch.new (w.alloc o1) o2).trans (Touch.new _ o3))⟩
end Go.Proofs.Ythnhacbagmhfoaa

/- seqs: steps, read: of the program. -/
namespace Go.Proofs.Ythnhacbagmhfoaa
open Go.RowKit Go.WideShapes Go.Shelf Fs
set_option linter.unusedVariables false
set_option linter.unusedSimpArgs false
set_option maxRecDepth 100000

set_option maxHeartbeats 8000000 in
theorem psteps_walk (w : World) (r G : Nat) (B : List Nat) (h : H3) (hw : WfH h) (hc : Cur w 77 r G false B) (h8 : ∀ x ∈ B, x < 256) (hl : B.length ≤ 10000) :
    Calls Try.prog 46 #[.pointer (some ⟨r, 0, none⟩), h.val] w (StepsPost 77 r G B h w) := by
  have H42 := Lib.hid (info_parts Try.info42c)
  have HRW := Lib.hid hc.lt_r
  have HGR := Lib.hid (show G ≤ r from by obtain ⟨_, _, _, _, _, _, _, _, hg⟩ := hc.out; exact hg)
  have HW := Lib.hid hw
  have H8 := Lib.hid h8
  have HL := Lib.hid hl
  have TT := Lib.hid (Touch.new w (.cells #[.int .i64 h.a, .int .i64 h.b, .int .i64 h.c] 31))
  have HA := Lib.hid (arr_new w h)
  have HTW := Lib.hid (ptwo_walk _ r G false B (hc.touch TT.out id (fun _ hh => hh.elim)) h8 (by omega))
  obtain ⟨Q, hQ⟩ : ∃ Q, StepsPost 77 r G B h w = Q := ⟨_, rfl⟩
  rw [hQ]
  have HQ := Lib.hid hQ
  clear hw hc h8 hl hQ
  unfold H3.val arr3
  go_enter Try.func46, Try.ntmps46
  go_wp2_with fail
  refine HTW.out.mono ?_
  intro e w1 hp
  obtain ⟨rfl, hcur, t1⟩ := two_uni hp
  have hcur : Cur w1 77 r G (q0 B).2.1 (q0 B).2.2 := hcur
  have T1 := Lib.hid ((TT.out.mono (fun _ _ hh => hh.elim : ∀ q, q < w.heap.size → False → q = r)).trans t1)
  have HA1 := Lib.hid (HA.out.touch t1 (fun e => by have := HRW.out; omega))
  show _
  rw [show (twoQ false B).1 = (q0 B).1 from rfl]
  obtain ⟨n, hn⟩ : ∃ n, (q0 B).1 = n := ⟨_, rfl⟩
  rw [hn]
  obtain ⟨b0, hb0⟩ : ∃ n, (q0 B).2.1 = n := ⟨_, rfl⟩
  rw [hb0] at hcur
  have HN := Lib.hid hn
  have HB0 := Lib.hid hb0
  have HC := Lib.hid hcur
  obtain ⟨a9, b9, o9, c9, hh9, _⟩ := hcur.out
  obtain ⟨k0, k1⟩ := two_cells hh9
  have f1 := two_free hh9 1
  clear hp hcur t1 hn hb0 hh9 HTW
  cases b0 with
  | true =>
    have hpos : (true || decide (0 < n)) = true := rfl
    go_wp2_with fail
    rw [← HQ.out]
    exact steps_bad (readQ_bad HB0.out) (T1.out.trans (touch_cell _ r 1 _)) (row_end HC.out)
  | false =>
    by_cases h0 : n = 0
    · subst h0
      go_wp2_with fail
      rw [← HQ.out]
      exact steps_zero HW.out HB0.out HN.out (T1.out.trans (touch_cell _ r 1 _)) (row_end HC.out)
    have hz0 : ((n : Int) == 0) = false := by simpa using h0
    by_cases h5 : 500 < n
    · have hd5 : decide ((500 : Int) < n) = true := decide_eq_true (by omega)
      have hdp : decide (0 < n) = true := decide_eq_true (by omega)
      go_wp2_with fail
      rw [← HQ.out]
      exact steps_bad (readQ_many (by rw [HN.out]; exact h5)) (T1.out.trans (touch_cell _ r 1 _)) (row_end HC.out)
    have hd5 : decide ((500 : Int) < n) = false := decide_eq_false (by omega)
    have hn5 : n ≤ 500 := by omega
    go_wp2_with fail
    have hI0 : RowsI B r G w1.heap.size (w1.heap.size + 1) (w1.alloc (.cells #[.slice none 0 0, .slice none 0 0, .slice none 0 0] 60)) 0 (fun _ => .slice none 0 0) (w1.alloc (.cells #[.slice none 0 0, .slice none 0 0, .slice none 0 0] 60)) := by
      refine ⟨⟨_, heap_alloc_new w1 _, fun i hi => ?_⟩, ?_, fun j hj => absurd hj (Nat.not_lt_zero _), fun j hj => absurd hj (Nat.not_lt_zero _), fun i j b _ hj => absurd hj (Nat.not_lt_zero _), Touch.refl _ _⟩
      · have : i = 0 ∨ i = 1 ∨ i = 2 := by omega
        rcases this with rfl | rfl | rfl <;> rfl
      · have := HC.out.touch (Touch.new w1 (.cells #[.slice none 0 0, .slice none 0 0, .slice none 0 0] 60)) id (fun _ hh => hh.elim)
        rw [← HB0.out] at this; exact this
    have hs1 := size_one w1 (.cells #[.slice none 0 0, .slice none 0 0, .slice none 0 0] 60)
    have hsw := T1.out.size
    have HI0 := Lib.hid hI0
    have TW2 := Lib.hid (T1.out.trans ((Touch.new w1 (.cells #[.slice none 0 0, .slice none 0 0, .slice none 0 0] 60)).mono (fun _ _ hh => hh.elim)))
    have HA2 := Lib.hid (HA1.out.touch (Touch.new w1 (.cells #[.slice none 0 0, .slice none 0 0, .slice none 0 0] 60)) id)
    obtain ⟨w2, hw2⟩ : ∃ w2, w1.alloc (.cells #[.slice none 0 0, .slice none 0 0, .slice none 0 0] 60) = w2 := ⟨_, rfl⟩
    rw [hw2] at HI0 TW2 HA2 hs1 ⊢
    obtain ⟨P6, hP6⟩ : ∃ p, w1.heap.size = p := ⟨_, rfl⟩
    rw [hP6] at HI0 hs1 hsw ⊢
    have hlt1 := lt_of_block HA1.out
    rw [hP6] at hlt1
    have HO := Lib.hid (show r < w.heap.size ∧ w.heap.size < P6 ∧ P6 + 1 = w2.heap.size ∧ G ≤ r from ⟨HRW.out, by omega, by omega, HGR.out⟩)
    clear hI0 hs1 hsw hw2 hP6 hlt1 h5 k0 k1 f1 HC HA1 HA
    go_loopw [45] (fun i wr => ∃ (k : Nat) (v : Nat → Value), k ≤ 3 ∧ i = .int .i64 k ∧ RowsI B r G P6 (P6 + 1) w2 k v wr) (fun i _ => 3 - (intOf i).toNat)
    case atStart => exact ⟨0, _, by omega, rfl, HI0.out⟩
    case round =>
      obtain ⟨k, v, hk, rfl, hI⟩ := hrel
      have HI := Lib.hid hI
      clear hI HI0
      by_cases hlt : k < 3
      · have hcu := HI.out.cur
        have hs := qs_sub H8.out k
        have hrw := fun w => prow_walk w r G (qs B k).1 (qs B k).2 n
        rw [← HN.out, qr_is B hlt, HN.out] at hrw
        have HRR := Lib.hid (hrw wr hcu (sub8 hs H8.out) (Nat.le_trans hs.length_le HL.out) hn5)
        have ht0 := HI.out.tri
        have HLT := Lib.hid hlt
        have HM := Lib.hid (meas_u hlt)
        have fu1 := wrap_suc k (Nat.le_trans hk (by decide))
        clear hcu hs hrw
        go_wp2_with fail
        refine HRR.out.mono ?_
        rintro e w3 ⟨⟨a, c, rfl, hro, hoo⟩, hcr, t3⟩
        have ht3 := RowAt.touch ht0 t3 (fun e => by have := HO.out; omega)
        have q0' := RowAt.get ht3 hlt
        have f0' := RowAt.free ht3 k
        clear ht0
        go_wp2_with fail
        have hN := RowsI.next HI.out HLT.out (by have := HO.out; omega) (by have := HO.out; omega) (by omega) (by have := HO.out; omega) hro hoo (by rw [← qr_snd B HLT.out]; exact hcr) t3 (by have := HO.out; omega)
        have HN2 := Lib.hid hN
        clear hN hro hoo hcr t3 ht3 q0' f0'
        go_roundw
        case rel => exact ⟨k + 1, _, HLT.out, by first | rfl | (rw [fu1]; go_num) | go_num, HN2.out⟩
        case measure => first | exact HM.out | (rw [fu1]; exact HM.out)
      · obtain rfl : k = 3 := Nat.le_antisymm hk (Nat.not_lt.1 hlt)
        clear hlt hk
        have hcu := HI.out.cur
        have hs := q3_sub H8.out
        have HTW := Lib.hid (ptwo_walk wr r G (q3 B).2.1 (q3 B).2.2 hcu (sub8 hs H8.out) (by have := hs.length_le; have := HL.out; omega))
        clear hcu hs
        go_wp2_with fail
        refine HTW.out.mono ?_
        intro e w3 hp
        obtain ⟨rfl, hcur, t3⟩ := two_uni hp
        have hs4 := q4_sub H8.out
        have HTK := Lib.hid (ptake_walk w3 r G (q4 B).2.1 (q4 B).2.2 hcur (q4 B).1 (by omega) (by have := hs4.1.length_le; have := HL.out; omega))
        have T3 := Lib.hid t3
        show _
        rw [show (twoQ (q3 B).2.1 (q3 B).2.2).1 = (q4 B).1 from rfl]
        clear hp hcur t3 hs4 HTW
        go_wp2_with fail
        refine HTK.out.mono ?_
        intro e w4 hp
        obtain ⟨ab, bb, ob, cb, rfl, hbb, hltb, hcur4, t4⟩ := take_uni hp
        have hbb : BytesAt w4 ab bb ob (q5 B).1 := hbb
        have hcur4 : Cur w4 77 r G (q5 B).2.1 (q5 B).2.2 := hcur4
        obtain ⟨s1, s2, s3⟩ := q5_sub H8.out
        have hnew := newr_any ab bb ob (q5 B).1.length cb (zB (q5 B).1) w4 (seen_list hbb s2) (by omega)
        have hnew : Calls Try.prog 71 #[.slice ab (q5 B).1.length cb] w4 (NewPost w4 (q6 B)) := hnew
        have HNEW := Lib.hid hnew
        have HC4 := Lib.hid hcur4
        have T4 := Lib.hid (T3.out.trans t4)
        rw [show (takeQ (q4 B).2.1 (q4 B).2.2 (q4 B).1).1 = (q5 B).1 from rfl]
        clear hp hbb hltb hcur4 t4 s1 s2 s3 hnew HTK T3
        go_wp2_with fail
        refine HNEW.out.mono ?_
        intro e w5 hp
        cases h6 : q6 B with
        | none =>
          rw [h6] at hp
          obtain ⟨rfl, rfl⟩ := hp
          obtain ⟨a9, b9, o9, c9, hh9, _⟩ := HC4.out.out
          obtain ⟨k0, k1⟩ := two_cells hh9
          have f1 := two_free hh9 1
          have hro : readQ B = none := readQ_head (by rw [HN.out]; exact h0) (by unfold headOk; rw [h6]; simp)
          have tW := (TW2.out.then HI.out.touch (fun i hi e => by have := HO.out; omega)).trans T4.out
          obtain ⟨b5, hb5⟩ : ∃ b, (q5 B).2.1 = b := ⟨_, rfl⟩
          rw [hb5] at k1
          clear hh9
          cases b5 <;>
          · go_wp2_with fail
            rw [← HQ.out]
            exact steps_bad hro (tW.trans (touch_cell _ r 1 _)) (row_end HC4.out)
        | some E =>
          rw [h6] at hp
          obtain ⟨rfl, vr, hwr, t5, hfr⟩ := hp
          have hb5 := q6_bad h6
          have hho : headOk B = true := by unfold headOk; rw [hb5, h6]; rfl
          obtain ⟨_, hqE, hl1, hl2, hl3⟩ := head_ok hho
          have hE : E = qE B := by rw [h6] at hqE; exact Option.some.inj hqE
          subst hE
          have hlen : ∀ j, j < 3 → (qo B j).length = n := fun j hj => by
            have : j = 0 ∨ j = 1 ∨ j = 2 := by omega
            rw [← HN.out]
            rcases this with rfl | rfl | rfl
            · exact hl1
            · exact hl2
            · exact hl3
          obtain ⟨g, cc, hg, hgd⟩ := rows_at HI.out (Nat.pos_of_ne_zero h0) hlen
          obtain ⟨t, ht⟩ : ∃ t, w4.heap.size = t := ⟨_, rfl⟩
          rw [ht] at hwr hfr ⊢
          have htw := T4.out.size
          have ht45 := T4.out.trans (t5.mono (fun _ _ hh => hh.elim : ∀ q, q < w4.heap.size → False → q = r))
          have hw2s := HI.out.touch.size
          have hri : RowAt w5 P6 60 3 v := RowAt.touch HI.out.tri ht45 (fun e => by have := HO.out; omega)
          have hc5 := HC4.out.touch t5 id (fun _ hh => hh.elim)
          rw [hb5] at hc5
          have hEI : ExI B r G t g n vr.ownBlock w5 0 w5 := by
            refine ⟨hc5, ⟨vr, hwr, rfl⟩, fun j hj => ?_, Touch.refl _ _⟩
            refine (RowAt.touch (hg j hj).2.1 ht45 (fun e => by have := (hg j hj).2.2.1; have := HO.out; omega)).congr (fun i hi => ?_)
            rw [if_neg (Nat.not_lt_zero _)]
          have hvb : ∀ b, vr.ownBlock = some b → t ≤ b := fun b hb => by
            rcases hfr with hfr | ⟨q, hfr, hq⟩
            · rw [hfr] at hb; cases hb
            · rw [hfr] at hb; cases hb; exact hq
          have TW5 := Lib.hid ((TW2.out.then HI.out.touch (fun i hi e => by have := HO.out; omega)).trans ht45)
          have HEI := Lib.hid hEI
          have HRI := Lib.hid hri
          have HGG := Lib.hid hg
          have HGD := Lib.hid hgd
          have HVB := Lib.hid hvb
          have HHO := Lib.hid hho
          have HA5 := Lib.hid ((HA2.out.touch HI.out.touch (fun e => by have := HO.out; omega)).touch ht45 (fun e => by have := HO.out; omega))
          have HOt := Lib.hid (show r < w.heap.size ∧ w.heap.size < P6 ∧ P6 < t ∧ G ≤ r ∧ (∀ j, j < 3 → P6 < g j ∧ g j < t) from ⟨by have := HO.out; omega, by have := HO.out; omega, by have := HO.out; omega, by have := HO.out; omega, fun j hj => ⟨by have := (hg j hj).2.2.1; omega, by have := (hg j hj).2.2.2; omega⟩⟩)
          obtain ⟨vb, hvbe⟩ : ∃ b, vr.ownBlock = b := ⟨_, rfl⟩
          rw [hvbe] at HEI HVB
          obtain ⟨a9, b9, o9, c9, hh9, _⟩ := hc5.out
          obtain ⟨k0, k1⟩ := two_cells hh9
          clear hwr t5 hfr hb5 hho hqE hl1 hl2 hl3 hlen hg hgd ht htw ht45 hw2s hri hc5 hEI hvb hvbe hh9 h6 HNEW
          go_wp2_with fail
          go_loopw [74] (fun i wx => ∃ k : Nat, k ≤ n ∧ i = .int .i64 k ∧ ExI B r G t g n vb w5 (3 * k) wx) (fun i _ => n - (intOf i).toNat)
          case atStart => exact ⟨0, Nat.zero_le _, rfl, HEI.out⟩
          case round =>
            obtain ⟨i, hin, rfl, hE⟩ := hrel
            have HE := Lib.hid hE
            clear hE HEI k0 k1
            by_cases hlt : i < n
            · have hro := RowAt.touch HRI.out HE.out.touch (ex_p6 HOt.out)
              have z0 := RowAt.get hro (i := 0) (by decide)
              have z1 := RowAt.get hro (i := 1) (by decide)
              have z2 := RowAt.get hro (i := 2) (by decide)
              have HLT := Lib.hid hlt
              have HM := Lib.hid (meas_u hlt)
              have fu1 := wrap_suc i (Nat.le_trans (Nat.le_of_lt hlt) (Nat.le_trans hn5 (by decide)))
              clear hro hin
              go_wp2_with fail
              clear z0 z1 z2
              go_loopw [78] (fun jv wx => ∃ k : Nat, k ≤ 3 ∧ jv = .int .i64 k ∧ ExI B r G t g n vb w5 (3 * i + k) wx) (fun jv _ => 3 - (intOf jv).toNat)
              case atStart => exact ⟨0, by omega, rfl, HE.out⟩
              case round =>
                obtain ⟨k, hk, rfl, hE2⟩ := hrel
                have HE2 := Lib.hid hE2
                clear hE2
                by_cases hk3 : k < 3
                · have hix := fun w => idxT (v := v) hk3 w
                  have hvk := (HGG.out k hk3).1
                  have hrow := HE2.out.row k hk3
                  have e1 := RowAt.get hrow HLT.out
                  rw [if_neg (by omega)] at e1
                  have hc32 := qc_32 B (3 * i + k)
                  obtain ⟨vr, hwr, hvb⟩ := HE2.out.rd
                  have hEl : (exE (qc B) (qE B) (3 * i + k)).length ≤ 1000000 := Nat.le_trans (exE_le _ _ _) (qE_len H8.out)
                  have HTK := Lib.hid (take_walk t vr (exE (qc B) (qE B) (3 * i + k)) ((qc B (3 * i + k) - 1 : Nat) : Int) wr hwr hEl)
                  obtain ⟨C, hC⟩ : ∃ C, qc B (3 * i + k) = C := ⟨_, rfl⟩
                  rw [hC] at e1 hc32 HTK
                  have m1 := max_pred C
                  have m2 := wrap_predc hc32
                  have HM3 := Lib.hid (meas_u hk3)
                  have HK3 := Lib.hid hk3
                  have fu3 := wrap_suc k (Nat.le_trans hk (by decide))
                  have HCC := Lib.hid hC
                  have H32 := Lib.hid hc32
                  have HVR := Lib.hid hvb
                  simp only [hvk] at hix
                  have hd3 : decide ((k : Int) < 3) = true := lt3_dec hk3
                  clear hvk hrow hc32 hwr hvb hEl hC hk hk3
                  go_wp2_with fail
                  refine HTK.out.mono ?_
                  rintro e w6 ⟨rfl, v6, hw6, hv6, t6⟩
                  have hC6 := HE2.out.cur.touch t6 (by have := HOt.out; omega) (fun q e => by have := HOt.out; omega)
                  obtain ⟨a9, b9, o9, c9, hh9, _⟩ := hC6.out
                  obtain ⟨k0, k1⟩ := two_cells hh9
                  have f1 := two_free hh9 1
                  have hvb6 : v6.ownBlock = vb := by rw [hv6]; exact HVR.out
                  obtain ⟨ee, hee⟩ : ∃ b, exK (qc B) (qE B) (3 * i + k) = b := ⟨_, rfl⟩
                  obtain ⟨tt, htt⟩ : ∃ b, takeOk ((C - 1 : Nat) : Int) (exE (qc B) (qE B) (3 * i + k)).length = b := ⟨_, rfl⟩
                  obtain ⟨X, hX⟩ : ∃ x, takenV (exE (qc B) (qE B) (3 * i + k)) ((C - 1 : Nat) : Int) = x := ⟨_, rfl⟩
                  have hne := fun bb => exI_next HE2.out HLT.out HK3.out HCC.out (by have := HOt.out; omega) (by have := HOt.out; omega) (fun j hj => by have := HOt.out; have := this.2.2.2.2 j hj; omega) HGD.out HVB.out hw6 hvb6 t6 (bad' := bb)
                  rw [hee, htt, hX] at hne
                  have HNE := Lib.hid hne
                  have hval := fun w => pvalue_walk C X (by have := H32.out; omega) (by rw [← hX]; exact (valueP_bd H32.out _).2) w
                  have HVAL := Lib.hid hval
                  rw [hee] at k1
                  rw [htt, hX]
                  have hgr : g k ≠ r := by have := HOt.out; have := this.2.2.2.2 k HK3.out; omega
                  have e6 := t6.cell e1 (by have := HOt.out; have := this.2.2.2.2 k HK3.out; show ¬ g k = t; omega)
                  have e7 := fun bb => (touch_cell w6 r 1 (.bool bb)).cell e6 hgr
                  have hfz := RowAt.free (RowAt.touch (HE2.out.row k HK3.out) t6 (fun e => by have := HOt.out; have := this.2.2.2.2 k HK3.out; omega)) i
                  have e8 := fun bb => RowAt.free (RowAt.touch (RowAt.touch (HE2.out.row k HK3.out) t6 (fun e => by have := HOt.out; have := this.2.2.2.2 k HK3.out; omega)) (touch_cell w6 r 1 (.bool bb)) hgr) i
                  clear hw6 hv6 hvb6 t6 hC6 hh9 hee htt hX hne hval e1 HTK k0 hgr hfz
                  cases ee <;> cases tt <;>
                  · go_wp2_with fail
                    refine (HVAL.out _).mono ?_
                    rintro e w8 ⟨rfl, rfl⟩
                    go_wp2_with fail
                    go_roundw
                    case rel => exact ⟨k + 1, HK3.out, by first | rfl | (rw [fu3]; go_num) | go_num, HNE.out _ rfl⟩
                    case measure => first | exact HM3.out | (rw [fu3]; exact HM3.out)
                · obtain rfl : k = 3 := Nat.le_antisymm hk (Nat.not_lt.1 hk3)
                  have HE3 := Lib.hid (show ExI B r G t g n vb w5 (3 * (i + 1)) wr from by rw [show 3 * (i + 1) = 3 * i + 3 by omega]; exact HE2.out)
                  clear hk3 hk
                  go_wp2_with fail
                  go_roundw
                  case rel => exact ⟨i + 1, HLT.out, by first | rfl | (rw [fu1]; go_num) | go_num, HE3.out⟩
                  case measure => first | exact HM.out | (rw [fu1]; exact HM.out)
            · obtain rfl : i = n := Nat.le_antisymm hin (Nat.not_lt.1 hlt)
              clear hlt hin
              have hro := RowAt.touch HRI.out HE.out.touch (ex_p6 HOt.out)
              have z1 := RowAt.get hro (i := 1) (by decide)
              rw [(HGG.out 1 (by decide)).1] at z1
              have hA6 := HA5.out.touch HE.out.touch (ex_m HOt.out)
              obtain ⟨y0, y1, y2⟩ := hA6.cells
              have hint : ∀ j, j < 3 → Ints .i64 wr (some ⟨g j, 0, none⟩) (g j) 0 i (fun q => ((exV (qc B) (qE B) (3 * q + j) : Nat) : Int)) := fun j hj =>
                RowAt.ints ((HE.out.row j hj).congr (fun q hq => by rw [if_pos (by omega)]))
              have HINT := Lib.hid hint
              have HBK := Lib.hid (back_walk wr (some ⟨g 1, 0, none⟩) (g 1) 0 i (cc 1) (fun q => ((exV (qc B) (qE B) (3 * q + 1) : Nat) : Int)) (hint 1 (by decide)) h (by omega) (fun q hq => by have := exV_bd (qc_32 B) (qE B) (3 * q + 1); omega))
              have HRO := Lib.hid hro
              unfold H3.val arr3 at HBK
              clear hint hA6 hro
              go_wp2_with fail
              refine HBK.out.mono ?_
              rintro e w7 ⟨v7, rfl, hO⟩
              obtain ⟨HF, hHF⟩ : ∃ HF, histB (fun q => ((exV (qc B) (qE B) (3 * q + 1) : Nat) : Int)) h i = HF := ⟨_, rfl⟩
              rw [hHF]
              obtain ⟨xa, xb, xc, rfl, hx⟩ := ints_row hO.row
              have t7 := hO.touch
              have tn := Touch.new w7 (.cells #[.int .i64 HF.a, .int .i64 HF.b, .int .i64 HF.c] 31)
              have hro7 := RowAt.touch (RowAt.touch HRO.out t7 id) tn id
              have hi7 : ∀ j, j < 3 → Ints .i64 (w7.alloc (.cells #[.int .i64 HF.a, .int .i64 HF.b, .int .i64 HF.c] 31)) (some ⟨g j, 0, none⟩) (g j) 0 i (fun q => ((exV (qc B) (qE B) (3 * q + j) : Nat) : Int)) := fun j hj => ((HINT.out j hj).touch t7).touch tn
              have hx7 := hx.touch tn
              have hc7 := (HE.out.cur.touch t7 id (fun _ hh => hh.elim)).touch tn id (fun _ hh => hh.elim)
              have HXX := Lib.hid hx7
              have HRO7 := Lib.hid hro7
              have HI7 := Lib.hid hi7
              have HC7 := Lib.hid hc7
              have TW7 := Lib.hid ((ex_touch HOt.out TW5.out HE.out.touch).trans ((t7.trans tn).mono (fun _ _ hh => hh.elim)))
              clear hO hx t7 tn hro7 hi7 hx7 hc7 hHF z1 y0 y1 y2 HBK
              obtain ⟨w8, hw8⟩ : ∃ w8, w7.alloc (.cells #[.int .i64 HF.a, .int .i64 HF.b, .int .i64 HF.c] 31) = w8 := ⟨_, rfl⟩
              rw [hw8] at HXX HRO7 HI7 HC7 TW7
              go_wp2_with fail
              clear hw8
              go_loopw [17, 123] (fun lv iv wx => ∃ (k : Nat) (lw : Value), k ≤ i ∧ iv = .int .i64 k ∧ lv = lw ∧ wx.ownsRow 0 42 3 lw k (recL (trip (qz B h) k)) ∧ OwnB w8.heap.size lw ∧ Touch (fun _ => False) w8 wx) (fun _ iv _ => i - (intOf iv).toNat)
              case atStart => exact ⟨0, _, Nat.zero_le _, rfl, rfl, World.ownsRow_nil _ _ _ _, OwnB.nil _, Touch.refl _ _⟩
              case round =>
                obtain ⟨k, lw, hk, rfl, rfl, hrow, hown, ht8⟩ := hrel
                have HRow := Lib.hid hrow
                have HTo := Lib.hid ht8
                clear hrow ht8
                by_cases hlt : k < i
                · obtain rfl := HXX.out.at_ (Nat.lt_of_le_of_lt (Nat.zero_le _) hlt)
                  have e1 := HTo.out.cell (HXX.out.cell k hlt) id
                  rw [Nat.zero_add] at e1
                  have HTD := Lib.hid (HTo.out.drew)
                  have r0 := RowAt.get (RowAt.touch HRO7.out HTD.out id) (i := 0) (by decide)
                  have r2 := RowAt.get (RowAt.touch HRO7.out HTD.out id) (i := 2) (by decide)
                  have r0' := fun o => RowAt.get (RowAt.touch (RowAt.touch HRO7.out HTD.out id) (Touch.new wr.drew o) id) (i := 0) (by decide)
                  have r2' := fun o => RowAt.get (RowAt.touch (RowAt.touch HRO7.out HTD.out id) (Touch.new wr.drew o) id) (i := 2) (by decide)
                  rw [(HGG.out 0 (by decide)).1] at r0
                  rw [(HGG.out 2 (by decide)).1] at r2
                  simp only [(HGG.out 0 (by decide)).1] at r0'
                  simp only [(HGG.out 2 (by decide)).1] at r2'
                  have x0 := HTD.out.cell ((HI7.out 0 (by decide)).cell k hlt) id
                  have x2 := HTD.out.cell ((HI7.out 2 (by decide)).cell k hlt) id
                  have x0' := fun o => (Touch.new wr.drew o).cell x0 id
                  have x2' := fun o => (Touch.new wr.drew o).cell x2 id
                  rw [Nat.zero_add] at x0 x2
                  simp only [Nat.zero_add] at x0' x2'
                  have hb2 := exV_bd (qc_32 B) (qE B) (3 * k + 2)
                  have hq : (qz B h k 0, qz B h k 1, qz B h k 2) = (((exV (qc B) (qE B) (3 * k + 0) : Nat) : Int), valB (fun q => ((exV (qc B) (qE B) (3 * q + 1) : Nat) : Int)) h k, ((exV (qc B) (qE B) (3 * k + 2) : Nat) : Int) + 4) := by
                    unfold qz
                    simp only [HN.out, hlt, if_true]
                    simp
                  obtain ⟨A, hA⟩ : ∃ x, exV (qc B) (qE B) (3 * k + 0) = x := ⟨_, rfl⟩
                  obtain ⟨C, hC⟩ : ∃ x, exV (qc B) (qE B) (3 * k + 2) = x := ⟨_, rfl⟩
                  obtain ⟨O, hO⟩ : ∃ x, valB (fun q => ((exV (qc B) (qE B) (3 * q + 1) : Nat) : Int)) h k = x := ⟨_, rfl⟩
                  rw [hA] at x0 hq
                  simp only [hA] at x0'
                  rw [hC] at x2 hq hb2
                  simp only [hC] at x2'
                  rw [hO] at e1 hq
                  have fw := wrap_four hb2
                  have fwi := wrap_fourI hb2
                  have HQZ := Lib.hid hq
                  have HAP := Lib.hid (app3_500 hlt hn5)
                  have HM := Lib.hid (meas_u hlt)
                  have HLT := Lib.hid hlt
                  have fu1 := wrap_suc k (Nat.le_trans hk (Nat.le_trans hn5 (by decide)))
                  clear hA hC hO hq hb2 hk
                  obtain ⟨i0, hi, hz0', hz1, hz2⟩ := H42.out
                  go_wp2_with fail
                  go_region_law (refine step_append_mine rfl (.tmp 128) (.tmp 142) 29 29 rfl 42 i0 (.agg #[.int .i64 0, .int .i64 0, .int .i64 0]) 3 24 Try.underlying29 hi hz0' hz1 hz2 rfl u17 k _ rfl ((Touch.new wr.drew _).row (((Touch.refl (fun _ => False) wr).drew).row HRow.out (fun _ _ => id)) (fun _ _ => id)) _ 1 [.int .i64 A, .int .i64 O, .int .i64 ((C : Int) + 4)] rfl (src_cells wr.heap.size Try.underlying29 [.int .i64 A, .int .i64 O, .int .i64 ((C : Int) + 4)] (by simp [Value.oneCell']) _ (heap_alloc_new wr.drew _)) HAP.out.1 HAP.out.2 ?_; intro a6 c6 w6 hown6 ht6 hf6 _)
                  all_goals
                    have HA6 := Lib.hid (out_step (w8 := w8) HTD.out hown HQZ.out hown6 ht6 hf6)
                    clear hown6 ht6 hf6 r0 r2 r0' r2' x0 x2 x0' x2' e1 hown hi hz0' hz1 hz2 fwi fw
                    go_wp2_with fail
                    go_roundw
                    case rel =>
                      obtain ⟨r1, r2, r3⟩ := HA6.out
                      exact ⟨k + 1, _, HLT.out, by first | rfl | (rw [fu1]; go_num) | go_num, rfl, r1, r2, r3⟩
                    case measure => first | exact HM.out | (rw [fu1]; exact HM.out)
                · obtain rfl : k = i := Nat.le_antisymm hk (Nat.not_lt.1 hlt)
                  clear hlt hk
                  have hend := steps_end (w := w) HQ.out HW.out HN.out HB0.out h0 hn5 HHO.out HC7.out TW7.out HTo.out HRow.out hown
                  have HEND := Lib.hid hend
                  clear hend hown
                  go_wp2_with fail
                  try go_ret
                  exact HEND.out
end Go.Proofs.Ythnhacbagmhfoaa

/- seqs: Unpack of the program. -/
namespace Go.Proofs.Ythnhacbagmhfoaa
open Go.RowKit Go.WideShapes Go.Shelf Fs
set_option linter.unusedVariables false
set_option linter.unusedSimpArgs false
set_option maxRecDepth 100000

/-- Behind a Pack of what was read. -/
theorem arr_put_touch {w : World} {g : Nat} {h h' : H3} (k : Arr w g h) : Touch (· = g) w (put3 w g h') ∧ Arr (put3 w g h') g h' := ⟨touch_put3 w g h', k.put h'⟩
theorem unp_touch {w w0 w1 w2 w3 : World} {P5 P8 : Nat} (h0 : Touch (fun _ => False) w w0) (h1 : Touch (· = P8) w0 w1) (h2 : Touch (fun _ => False) w1 w2) (h3 : Touch (· = P5) w2 w3) (h8 : w.heap.size ≤ P8) (h5 : w.heap.size ≤ P5) : Touch (fun _ => False) w w3 :=
  ((h0.then h1 (fun i hi e => by omega)).trans h2).then h3 (fun i hi e => by omega)

theorem ne_8a (s : Nat) : ¬ s = s + 1 + 1 := by omega
theorem ne_8b (s : Nat) : ¬ s + 1 = s + 1 + 1 := by omega
theorem recs_put {w w' : World} {S : Nat → Prop} {a : Option Addr} {b o l c : Nat} {z : Nat → Nat → Int} (h : RecsIn 3 w a b o l c z) (ht : Touch S w w') (hs : 0 < l → ¬ S b) : RecsIn 3 w' a b o l c z :=
  ⟨h.at_, fun k => Nat.lt_of_lt_of_le (h.lt k) ht.size, h.le, h.max, fun i hi j hj => ht.cell (h.cell i hi j hj) (hs (Nat.lt_of_le_of_lt (Nat.zero_le _) hi)), h.wf⟩
theorem readQ_two {B : List Nat} {p : Nat × List Nat} (h : readQ B = some p) : 0 < B.length := by
  cases B with
  | nil => unfold readQ q0 twoQ at h; simp [twoP] at h
  | cons x l => simp
/-- What steps gives, all told. -/
theorem steps_uni {t : TypeId} {r G : Nat} {B : List Nat} {h : H3} {w w' : World} {e : Ending} (hp : StepsPost t r G B h w e w') :
    ∃ a b c n z bad l', e = .returned (.slice a n c) ∧ RecsIn 3 w' a b 0 n c z ∧ n ≤ 500 ∧ Cur w' t r G bad l' ∧ (0 < n → w.heap.size ≤ b) ∧ Touch (· = r) w w' ∧ ((bad = true ∧ readQ B = none) ∨ (bad = false ∧ z = qz B h ∧ readQ B = some (n, l'))) := by
  obtain ⟨t1, hp⟩ := hp
  cases hr : readQ B with
  | none =>
    rw [hr] at hp
    obtain ⟨a, b, c, n, z, l', h1, h2, h3, h4, h5⟩ := hp
    exact ⟨a, b, c, n, z, true, l', h1, h2, h3, h4, h5, t1, .inl ⟨rfl, rfl⟩⟩
  | some p =>
    obtain ⟨n, l'⟩ := p
    rw [hr] at hp
    obtain ⟨a, b, c, h1, h2, h3, h4⟩ := hp
    exact ⟨a, b, c, n, _, false, l', h1, h2, readQ_le hr, h3, h4, t1, .inr ⟨rfl, rfl, rfl⟩⟩
set_option maxHeartbeats 4000000 in
theorem punp_walk (w : World) (a : Option Addr) (b off c : Nat) (B : List Nat) (h : H3) (hw : WfH h) (hB : BytesAt w a b off B) (hc : B.length ≤ c) (hlt : 0 < B.length → b < w.heap.size) (h8 : ∀ x ∈ B, x < 256) (hl : B.length ≤ 10000) :
    Calls Try.prog 22 #[.slice a B.length c, h.val] w (UnpPost B h w) := by
  obtain ⟨x3, x5, x8, t0⟩ := alloc3 w (.cells #[.int .i64 h.a, .int .i64 h.b, .int .i64 h.c] 31) (.cells #[.int .i64 0, .int .i64 0, .int .i64 0] 31) (.cells #[.slice a B.length c, .bool false] 77)
  obtain ⟨w0, hw0⟩ : ∃ w0, ((w.alloc (.cells #[.int .i64 h.a, .int .i64 h.b, .int .i64 h.c] 31)).alloc (.cells #[.int .i64 0, .int .i64 0, .int .i64 0] 31)).alloc (.cells #[.slice a B.length c, .bool false] 77) = w0 := ⟨_, rfl⟩
  rw [hw0] at x3 x5 x8 t0
  have HW0 := Lib.hid hw0
  have hcur : Cur w0 77 (w.heap.size + 1 + 1) w.heap.size false B := ⟨a, b, off, c, x8, Ints.touch hB t0, hc, hlt, by omega⟩
  have HST := Lib.hid (psteps_walk w0 (w.heap.size + 1 + 1) w.heap.size B h hw hcur h8 hl)
  have H3A := Lib.hid (show Arr w0 w.heap.size h from x3)
  have H5A := Lib.hid (show Arr w0 (w.heap.size + 1) ⟨0, 0, 0⟩ from x5)
  have HT0 := Lib.hid t0
  have HB := Lib.hid hB
  have H8 := Lib.hid h8
  have HC := Lib.hid hc
  have HPK := Lib.hid (fun w a0 b0 l0 c0 z0 (w0 : RecsIn 3 w a0 b0 0 l0 c0 z0) (hl : l0 ≤ 500) => pack_walk w a0 b0 0 l0 c0 z0 w0 h (Nat.le_trans hl (by decide)))
  obtain ⟨Q, hQ⟩ : ∃ Q, UnpPost B h w = Q := ⟨_, rfl⟩
  rw [hQ]
  have HQ := Lib.hid hQ
  obtain ⟨n0, hn0⟩ : ∃ n, B.length = n := ⟨_, rfl⟩
  rw [hn0] at HW0 hc ⊢
  have HN0 := Lib.hid hn0
  have HCN := Lib.hid hc
  clear x3 x5 x8 t0 hw0 hcur hw hB hc hlt h8 hl hQ hn0
  unfold H3.val arr3 at HST HPK ⊢
  go_enter Try.func22, Try.ntmps22
  go_wp2_with fail
  rw [HW0.out]
  refine HST.out.mono ?_
  intro e w1 hp
  obtain ⟨al, bl, cl, n, z, bad, l', rfl, hrec, hn5, hcur, hbl, t1, hcase⟩ := steps_uni hp
  have H3B := Lib.hid (H3A.out.touch t1 (ne_8a _))
  have H5B := Lib.hid (H5A.out.touch t1 (ne_8b _))
  obtain ⟨q0, q1, q2⟩ := H3B.out.cells
  have HREC := Lib.hid hrec
  have HN5 := Lib.hid hn5
  have HCUR := Lib.hid hcur
  have HT1 := Lib.hid t1
  have HCS := Lib.hid hcase
  have HBL := Lib.hid hbl
  clear hp hrec hn5 hcur t1 hcase hbl
  go_wp2_with fail
  refine (HPK.out _ _ _ _ _ _ HREC.out HN5.out).mono ?_
  intro e w2 hp
  obtain ⟨a2, b2, c2, rfl, hb2, hbo2, ht2⟩ := pack_out hp
  obtain ⟨H2, hH2⟩ : ∃ H2, packH z h n = H2 := ⟨_, rfl⟩
  obtain ⟨L, hL⟩ : ∃ L, packL z h n = L := ⟨_, rfl⟩
  obtain ⟨K, hK⟩ : ∃ K, packOk z n = K := ⟨_, rfl⟩
  rw [hH2, hL, hK]
  rw [hL] at hb2
  obtain ⟨nl, hnl⟩ : ∃ x, L.length = x := ⟨_, rfl⟩
  rw [hnl]
  have H5C := Lib.hid (H5B.out.touch ht2 id)
  have H3C := Lib.hid (H3B.out.touch ht2 id)
  have tp := touch_put3 w2 (w.heap.size + 1) H2
  have HT3 := Lib.hid (unp_touch HT0.out HT1.out ht2 tp (by omega) (by omega))
  have HB3 := Lib.hid (Ints.touch HB.out HT3.out)
  have HL3 := Lib.hid (Ints.touchS hb2 tp (fun hp e => by
    have h1 := hbo2 (by rw [hL]; exact hp)
    have h2 := HT1.out.size
    have h3 := lt_of_block H5A.out
    omega))
  have HREC3 := Lib.hid (recs_put (recs_touch HREC.out ht2) tp (fun hp e => by
    have h1 := HBL.out hp
    have h3 := lt_of_block H5A.out
    omega))
  have HCR3 := Lib.hid ((HCUR.out.touch ht2 id (fun _ hh => hh.elim)).touch tp (fun e => by omega) (fun q e => by omega))
  have HHH := Lib.hid (And.intro hH2 (And.intro hL (And.intro hK hnl)))
  obtain ⟨f0, f1, f2⟩ := H5C.out.cells
  have g0 := H5C.out.free 0
  have g1 := H5C.out.free 1
  have g2 := H5C.out.free 2
  obtain ⟨y0, y1, y2⟩ := (H3C.out.touch tp (fun e => by omega)).cells
  have H53 := Lib.hid (H5C.out.put H2)
  obtain ⟨a9, b9, o9, c9, hh9, _⟩ := HCR3.out.out
  obtain ⟨k0, k1⟩ := two_cells hh9
  obtain ⟨m0, m1, m2⟩ := H53.out.cells
  have j0 := H53.out.free 0
  have j1 := H53.out.free 1
  have j2 := H53.out.free 2
  have k1u := k1
  unfold put3 at k1u
  obtain ⟨W3, hW3⟩ : ∃ W3, put3 w2 (w.heap.size + 1) H2 = W3 := ⟨_, rfl⟩
  rw [hW3] at HT3 HB3 HL3 HREC3 HCR3 H53 y0 y1 y2 k1 m0 m1 m2 j0 j1 j2
  have hW3' := hW3
  unfold put3 at hW3'
  have HW3 := Lib.hid hW3'
  clear hp hb2 hbo2 ht2 tp hH2 hL hK hnl hh9 k0 hW3 hW3' q0 q1 q2
  unfold H3.val arr3
  have hfail : unpQ B h = none → Touch (fun _ => False) w (put3 W3.drew (w.heap.size + 1) h) ∧ Arr (put3 W3.drew (w.heap.size + 1) h) (w.heap.size + 1) h := fun _ =>
    ⟨HT3.out.drew.then (touch_put3 _ _ _) (fun i hi e => by omega), Arr.put (H53.out.touch ((Touch.refl (fun _ => False) W3).drew) id) h⟩
  have HFL := Lib.hid hfail
  clear hfail
  cases bad with
  | true =>
    have hun : unpQ B h = none := by
      rcases HCS.out with ⟨_, hr⟩ | ⟨hb, _⟩
      · exact unpQ_none hr
      · cases hb
    have HUN := Lib.hid hun
    clear hun
    go_wp2_with fail
    rw [HW3.out]
    go_region
    all_goals
      go_wp2_with fail
      obtain ⟨p1, p2⟩ := HFL.out HUN.out
      refine bodyPost_ret (results_cell4 rfl _ _ _ _ _ rfl (Arr.load (h := h) (b := w.heap.size + 1) p2)) rfl ?_
      rw [← HQ.out]
      exact unp_no HUN.out p1
  | false =>
    obtain ⟨rfl, hrq⟩ : z = qz B h ∧ readQ B = some (n, l') := by
      rcases HCS.out with ⟨hb, _⟩ | ⟨_, h1, h2⟩
      · cases hb
      · exact ⟨h1, h2⟩
    have HRQ := Lib.hid hrq
    clear hrq
    cases K with
    | false =>
      have HUN := Lib.hid (unpQ_pack HRQ.out HHH.out.2.2.1)
      go_wp2_with fail
      rw [HW3.out]
      go_region
      all_goals
        go_wp2_with fail
        obtain ⟨p1, p2⟩ := HFL.out HUN.out
        refine bodyPost_ret (results_cell4 rfl _ _ _ _ _ rfl (Arr.load (h := h) (b := w.heap.size + 1) p2)) rfl ?_
        rw [← HQ.out]
        exact unp_no HUN.out p1
    | true =>
      obtain ⟨e1, e2, e3, e4⟩ := HHH.out
      have hLB : L = packB (qz B h) h n := by rw [← e2]; unfold packL; rw [if_pos e3]
      have hHH : H2 = histO (fun i => qz B h i 1) h n := by rw [← e1]; unfold packH; rw [if_pos e3]
      obtain ⟨u1, u2⟩ := pack_le (h := h) e3
      have HPX := Lib.hid (prefix_walk (c := c) (d := c2) HB3.out HL3.out HN0.out e4 HCN.out H8.out (by rw [hLB]; exact pack_256 e3) (by have := readQ_two HRQ.out; have := HN0.out; omega) (by rw [← e4, hLB]; omega))
      have HLB := Lib.hid hLB
      have HHB := Lib.hid hHH
      have HK3 := Lib.hid e3
      have HNL := Lib.hid e4
      obtain ⟨D, hD⟩ : ∃ D, decide (L <+: B) = D := ⟨_, rfl⟩
      rw [hD] at HPX
      have HD := Lib.hid hD
      clear e1 e2 e3 e4 hLB hHH u1 u2 hD
      go_wp2_with fail
      rw [HW3.out]
      refine HPX.out.mono ?_
      rintro e w9 ⟨rfl, rfl⟩
      cases D with
      | false =>
        have HUN := Lib.hid (unpQ_pre (h := h) HRQ.out (by rw [← HLB.out]; exact of_decide_eq_false HD.out))
        go_wp2_with fail
        go_region
        all_goals
          go_wp2_with fail
          obtain ⟨p1, p2⟩ := HFL.out HUN.out
          refine bodyPost_ret (results_cell4 rfl _ _ _ _ _ rfl (Arr.load (h := h) (b := w.heap.size + 1) p2)) rfl ?_
          rw [← HQ.out]
          exact unp_no HUN.out p1
      | true =>
        have HUY := Lib.hid (unpQ_yes (h := h) HRQ.out HK3.out (by rw [← HLB.out]; exact of_decide_eq_true HD.out))
        go_wp2_with fail
        go_region
        all_goals
          go_wp2_with fail
          have ha := Arr.put (H53.out.touch ((Touch.refl (fun _ => False) W3).drew) id) H2
          have tp := touch_put3 W3.drew (w.heap.size + 1) H2
          refine bodyPost_ret (results_cell4 rfl _ _ _ _ _ rfl (Arr.load (h := H2) (b := w.heap.size + 1) ha)) rfl ?_
          rw [← HQ.out]
          refine ⟨HT3.out.drew.then tp (fun i hi e => by omega), ?_⟩
          rw [HUY.out]
          refine ⟨al, bl, cl, ?_, recs_put (recs_touch HREC3.out ((Touch.refl (fun _ => False) W3).drew)) tp (fun hp e => ?_), fun hp => ?_⟩
          · rw [← HHB.out, ← HLB.out, HNL.out]; rfl
          · have h1 := HBL.out hp
            have h3 := lt_of_block H5A.out
            omega
          · exact Nat.le_trans HT0.out.size (HBL.out hp)
end Go.Proofs.Ythnhacbagmhfoaa

/- seqs: what was packed is read. -/
namespace Go.Proofs.Ythnhacbagmhfoaa
open Go.RowKit Go.WideShapes Go.Shelf Fs
set_option linter.unusedVariables false
set_option linter.unusedSimpArgs false
set_option maxRecDepth 100000

theorem adj_out (n : Nat) (hn : 0 < n) (size : Int) {i : Nat} (hi : n ≤ i) : ∀ f z, adj n size f z i = z i
  | 0, z => rfl
  | f + 1, z => by
    rw [adj]
    split
    · rfl
    · rw [adj_out n hn size hi f]
      unfold bump addAt
      have := mxI_le z (n - 1)
      rw [if_neg (by omega)]
theorem cntZ_zero {y : Nat → Int} {s : Nat} : ∀ {k : Nat}, (∀ j, j < k → y j ≠ s) → cntZ y k s = 0
  | 0, _ => rfl
  | k + 1, h => by
    simp only [cntZ]
    rw [if_neg (fun e => h k (by omega) e.symm), cntZ_zero (fun j hj => h j (by omega))]
theorem rowZ_out {v : Nat → Nat} {n : Nat} (hv : ∀ i, i < n → v i < 32768) {i : Nat} (hi : 16 ≤ i) : rowZ v n i = 0 := by
  unfold rowZ normZ
  rw [adj_out 16 (by decide) _ hi]
  unfold startZ
  rw [if_neg]
  rw [cntZ_zero (fun j hj => by have := codeC_lt (hv j hj); unfold codeI; omega)]
  omega
theorem rowN_z {v : Nat → Nat} {n : Nat} (hn : 0 < n) (hn5 : n ≤ 500) (hv : ∀ i, i < n → v i < 32768) : zN (rowN v n) = rowZ v n := by
  funext i
  unfold zN rowN
  by_cases hi : i < 16
  · have := row_bd hn hn5 hv i hi
    simp [hi]
    omega
  · rw [List.getD_eq_getElem?_getD, List.getElem?_eq_none (by simp; omega), rowZ_out hv (by omega)]; rfl
theorem ofBits_none : ofBits (fun _ => false) 8 = 0 := by decide
theorem bytesL_z (D : List Bool) : zB (bytesL D) = byteAt (D ++ [true]) := by
  funext i
  unfold zB bytesL
  by_cases hi : i < D.length / 8 + 1
  · simp [hi]
  · rw [List.getD_eq_getElem?_getD, List.getElem?_eq_none (by simp; omega)]
    unfold byteAt
    have : (fun j => (D ++ [true]).getD (8 * i + j) false) = fun _ => false := by
      funext j
      rw [List.getD_eq_getElem?_getD, List.getElem?_eq_none (by simp; omega)]; rfl
    rw [this, ofBits_none]; rfl
theorem bits_back (D : List Bool) : bitsIn (zB (bytesL D)) (bytesL D).length = some D := by
  rw [bytesL_z, bytesL_len]; exact bitsIn_back D
def codesL (v : Nat → Nat) (n : Nat) : List Nat := (List.range n).map fun i => codeC (v i)
theorem row_dec {v : Nat → Nat} {n : Nat} (hn : 0 < n) (hn5 : n ≤ 500) (hv : ∀ i, i < n → v i < 32768) :
    decZ (rowN v n).length (zN (rowN v n)) (bytesL (rowD v n)).length (zB (bytesL (rowD v n))) n = some (codesL v n) := by
  have hiso := (norm_spec _ _ _ (row_ok hn hn5 hv)).2.2.2
  obtain ⟨t, l, he, ht, hl, hd⟩ := row_enc hn hn5 hv
  unfold decZ
  rw [rowN_z hn hn5 hv, row_len, bits_back]
  have hok : isOk (rowZ v n) 16 ((6 : Nat) : Int) = true := hiso
  rw [if_pos hok]
  have hD : rowD v n = putL (t : Int) ((6 : Nat) : Int) l := by unfold rowD; rw [he]
  rw [hD]
  show decF _ _ _ 6 n (putL (t : Int) ((6 : Nat) : Int) l) = _
  rw [hd, backL_rev]
  unfold codesL codeI
  simp [Function.comp]
theorem two_read {k : Nat} (hk : k ≤ 65535) (l : List Nat) : twoQ false (two2 k ++ l) = (k, false, l) := by
  have : k % 256 + 256 * (k / 256 % 256) = k := by omega
  simp [two2, twoQ, twoP, this]
theorem take_read {x l : List Nat} {k : Nat} (hk : x.length = k) : takeQ false (x ++ l) k = (x, false, l) := by
  subst hk
  unfold takeQ
  rw [if_neg (by simp)]
  simp
theorem row_read {v : Nat → Nat} {n : Nat} (hn : 0 < n) (hn5 : n ≤ 500) (hv : ∀ i, i < n → v i < 32768) (l : List Nat) : rowQ false (rowB v n ++ l) n = (some (codesL v n), false, l) := by
  have hdl := rowD_len hn hn5 hv
  have hbl := bytesL_len (rowD v n)
  unfold rowQ rowB
  rw [List.append_assoc, take_read row_len]
  simp only
  rw [List.append_assoc, two_read (by omega)]
  simp only
  rw [take_read rfl]
  simp only
  rw [row_dec hn hn5 hv]
  rfl
theorem codesL_get {v : Nat → Nat} {n i : Nat} (hi : i < n) : (codesL v n).getD i 0 = codeC (v i) := by simp [codesL, hi]
theorem code_pred (v : Nat) : codeC v - 1 = codeN v := by
  unfold codeC codeN
  split
  · rename_i h; subst h; decide
  · omega
theorem value_back (v : Nat) : valueP (codeC v) (codeX v) = v := by
  unfold valueP
  by_cases h : v = 0
  · subst h; rfl
  · obtain ⟨h1, h2⟩ := code_parts h
    have hc : codeC v ≠ 0 := by unfold codeC; rw [if_neg h]; omega
    rw [if_neg hc, code_pred]
    exact h2
theorem take_putC {v : Nat} (hv : v < 32768) (l : List Bool) : takenV (putC v l) ((codeC v - 1 : Nat) : Int) = codeX v ∧ takenL (putC v l) ((codeC v - 1 : Nat) : Int) = l ∧ takeOk ((codeC v - 1 : Nat) : Int) (putC v l).length = true := by
  have hN : codeN v ≤ 24 := by
    unfold codeN
    have := log2_lt (v := v) (k := 15) hv (by omega); omega
  have hp : putC v l = l ++ Go.Proofs.Ythnhacbagmhfoaa.digits (codeX v) (codeN v) := putL_nat _ (codeX_lt v) hN
  rw [hp, code_pred]
  exact taken_app l (codeX v) (codeN v) (codeX_lt v) hN
section
variable {vl vo vm : Nat → Nat} {n : Nat} (hv : ∀ i, i < n → vl i < 32768 ∧ vo i < 32768 ∧ vm i < 32768) {cs : Nat → Nat} (hc : ∀ i, i < n → cs (3 * i) = codeC (vl i) ∧ cs (3 * i + 1) = codeC (vo i) ∧ cs (3 * i + 2) = codeC (vm i))
include hv hc
theorem ex_round {i : Nat} (hi : i < n) (h0 : exE cs (extL vl vo vm n n) (3 * i) = extL vl vo vm n (n - i)) :
    (exE cs (extL vl vo vm n n) (3 * (i + 1)) = extL vl vo vm n (n - (i + 1))) ∧ (exV cs (extL vl vo vm n n) (3 * i) = vl i ∧ exV cs (extL vl vo vm n n) (3 * i + 1) = vo i ∧ exV cs (extL vl vo vm n n) (3 * i + 2) = vm i) ∧ exK cs (extL vl vo vm n n) (3 * (i + 1)) = exK cs (extL vl vo vm n n) (3 * i) := by
  obtain ⟨v0, v1, v2⟩ := hv i hi
  obtain ⟨c0, c1, c2⟩ := hc i hi
  have hst : extL vl vo vm n (n - i) = putC (vl i) (putC (vo i) (putC (vm i) (extL vl vo vm n (n - (i + 1))))) := by
    rw [show n - i = (n - (i + 1)) + 1 by omega, extL, show n - 1 - (n - (i + 1)) = i by omega]
    rfl
  obtain ⟨a1, a2, a3⟩ := take_putC v0 (putC (vo i) (putC (vm i) (extL vl vo vm n (n - (i + 1)))))
  obtain ⟨b1, b2, b3⟩ := take_putC v1 (putC (vm i) (extL vl vo vm n (n - (i + 1))))
  obtain ⟨d1, d2, d3⟩ := take_putC v2 (extL vl vo vm n (n - (i + 1)))
  rw [← hst, ← h0, ← c0] at a1 a2 a3
  have e1 : exE cs (extL vl vo vm n n) (3 * i + 1) = putC (vo i) (putC (vm i) (extL vl vo vm n (n - (i + 1)))) := a2
  rw [← e1, ← c1] at b1 b2 b3
  have e2 : exE cs (extL vl vo vm n n) (3 * i + 2) = putC (vm i) (extL vl vo vm n (n - (i + 1))) := b2
  rw [← e2, ← c2] at d1 d2 d3
  refine ⟨d2, ⟨?_, ?_, ?_⟩, ?_⟩
  · unfold exV; rw [a1, c0, value_back]
  · unfold exV; rw [b1, c1, value_back]
  · unfold exV; rw [d1, c2, value_back]
  · have hK : exK cs (extL vl vo vm n n) (3 * (i + 1)) = (((exK cs (extL vl vo vm n n) (3 * i) && takeOk ((cs (3 * i) - 1 : Nat) : Int) (exE cs (extL vl vo vm n n) (3 * i)).length) && takeOk ((cs (3 * i + 1) - 1 : Nat) : Int) (exE cs (extL vl vo vm n n) (3 * i + 1)).length) && takeOk ((cs (3 * i + 2) - 1 : Nat) : Int) (exE cs (extL vl vo vm n n) (3 * i + 2)).length) := rfl
    rw [hK, a3, b3, d3, Bool.and_true, Bool.and_true, Bool.and_true]
theorem ex_all : ∀ i, i ≤ n → exE cs (extL vl vo vm n n) (3 * i) = extL vl vo vm n (n - i) ∧ exK cs (extL vl vo vm n n) (3 * i) = true
  | 0, _ => ⟨rfl, rfl⟩
  | i + 1, h => by
    obtain ⟨h1, h2⟩ := ex_all i (by omega)
    obtain ⟨r1, _, r3⟩ := ex_round hv hc (by omega) h1
    exact ⟨r1, by rw [r3]; exact h2⟩
theorem ex_vals {i : Nat} (hi : i < n) : exV cs (extL vl vo vm n n) (3 * i) = vl i ∧ exV cs (extL vl vo vm n n) (3 * i + 1) = vo i ∧ exV cs (extL vl vo vm n n) (3 * i + 2) = vm i :=
  (ex_round hv hc hi (ex_all hv hc i (Nat.le_of_lt hi)).1).2.1
end
/-- What was packed is read. -/
theorem read_pack {z : Nat → Nat → Int} {h : H3} {n : Nat} (hp : packOk z n = true) (R : List Nat) :
    readQ (packB z h n ++ R) = some (n, R) ∧ ∀ i, i < n → exV (qc (packB z h n ++ R)) (qE (packB z h n ++ R)) (3 * i) = vLit z i ∧ exV (qc (packB z h n ++ R)) (qE (packB z h n ++ R)) (3 * i + 1) = vOff z h i ∧ exV (qc (packB z h n ++ R)) (qE (packB z h n ++ R)) (3 * i + 2) = vMore z i := by
  have h5 := (pack_ok hp).1
  by_cases h0 : n = 0
  · subst h0
    refine ⟨?_, fun i hi => absurd hi (Nat.not_lt_zero _)⟩
    have : q0 (packB z h 0 ++ R) = (0, false, R) := two_read (k := 0) (by decide) R
    unfold readQ
    rw [this]; rfl
  · have hn := Nat.pos_of_ne_zero h0
    have hv := fun i hi => pack_lt (h := h) hp (i := i) hi
    have hB : packB z h n ++ R = two2 n ++ (rowB (vLit z) n ++ (rowB (vOff z h) n ++ (rowB (vMore z) n ++ (two2 (bytesL (extL (vLit z) (vOff z h) (vMore z) n n)).length ++ (bytesL (extL (vLit z) (vOff z h) (vMore z) n n) ++ R))))) := by
      unfold packB
      rw [if_neg h0]
      unfold extB
      simp only [List.append_assoc]
    rw [hB]
    have hxl := extL_len (vLit z) (vOff z h) (vMore z) n n
    have hbl := bytesL_len (extL (vLit z) (vOff z h) (vMore z) n n)
    obtain ⟨l4, h4⟩ : ∃ x, bytesL (extL (vLit z) (vOff z h) (vMore z) n n) ++ R = x := ⟨_, rfl⟩
    obtain ⟨l3, h3⟩ : ∃ x, two2 (bytesL (extL (vLit z) (vOff z h) (vMore z) n n)).length ++ l4 = x := ⟨_, rfl⟩
    obtain ⟨l2, h2⟩ : ∃ x, rowB (vMore z) n ++ l3 = x := ⟨_, rfl⟩
    obtain ⟨l1, h1⟩ : ∃ x, rowB (vOff z h) n ++ l2 = x := ⟨_, rfl⟩
    obtain ⟨l0, h0'⟩ : ∃ x, rowB (vLit z) n ++ l1 = x := ⟨_, rfl⟩
    rw [h4, h3, h2, h1, h0']
    obtain ⟨B, hBB⟩ : ∃ x, two2 n ++ l0 = x := ⟨_, rfl⟩
    rw [hBB]
    have e0 : q0 B = (n, false, l0) := by rw [← hBB]; exact two_read (by omega) _
    have e1 : q1 B = (some (codesL (vLit z) n), false, l1) := by unfold q1; rw [e0, ← h0']; exact row_read hn h5 (fun i hi => (hv i hi).1) _
    have e2 : q2 B = (some (codesL (vOff z h) n), false, l2) := by unfold q2; rw [e1, e0, ← h1]; exact row_read hn h5 (fun i hi => (hv i hi).2.1) _
    have e3 : q3 B = (some (codesL (vMore z) n), false, l3) := by unfold q3; rw [e2, e0, ← h2]; exact row_read hn h5 (fun i hi => (hv i hi).2.2) _
    have e4 : q4 B = ((bytesL (extL (vLit z) (vOff z h) (vMore z) n n)).length, false, l4) := by unfold q4; rw [e3, ← h3]; exact two_read (by omega) _
    have e5 : q5 B = (bytesL (extL (vLit z) (vOff z h) (vMore z) n n), false, R) := by unfold q5; rw [e4, ← h4]; exact take_read rfl
    have e6 : q6 B = some (extL (vLit z) (vOff z h) (vMore z) n n) := by unfold q6; rw [e5]; exact bits_back _
    have eE : qE B = extL (vLit z) (vOff z h) (vMore z) n n := by unfold qE; rw [e6]; rfl
    have ec : ∀ i, i < n → qc B (3 * i) = codeC (vLit z i) ∧ qc B (3 * i + 1) = codeC (vOff z h i) ∧ qc B (3 * i + 2) = codeC (vMore z i) := fun i hi => by
      have k0 := qc_at B i 0 (by decide)
      have k1 := qc_at B i 1 (by decide)
      have k2 := qc_at B i 2 (by decide)
      unfold qo qr at k0 k1 k2
      simp only [e1, e2, e3, Option.getD_some] at k0 k1 k2
      rw [codesL_get hi] at k0 k1 k2
      exact ⟨k0, k1, k2⟩
    have hho : headOk B = true := by unfold headOk; rw [e5, e6]; rfl
    rw [eE]
    refine ⟨?_, fun i hi => ex_vals hv ec hi⟩
    have hk := (ex_all hv ec n (Nat.le_refl _)).2
    unfold readQ
    rw [e0, eE]
    simp only
    rw [if_neg (by decide), if_neg h0, if_neg (by omega), if_pos ⟨hho, hk⟩, e5]
end Go.Proofs.Ythnhacbagmhfoaa

/- seqs: what hangs on the steps alone; steps come back. -/
namespace Go.Proofs.Ythnhacbagmhfoaa
open Go.RowKit Go.WideShapes Go.Shelf Fs
set_option linter.unusedVariables false
set_option linter.unusedSimpArgs false
set_option maxRecDepth 100000

theorem idxH_cases (h : H3) (x : Int) : (idxH h x = 0 ∧ h.a = x) ∨ (idxH h x = 1 ∧ h.b = x) ∨ (idxH h x = 2 ∧ h.c = x) ∨ idxH h x = -1 := by
  unfold idxH
  by_cases h1 : h.a = x
  · exact .inl ⟨by rw [if_pos h1], h1⟩
  by_cases h2 : h.b = x
  · exact .inr (.inl ⟨by rw [if_neg h1, if_pos h2], h2⟩)
  by_cases h3 : h.c = x
  · exact .inr (.inr (.inl ⟨by rw [if_neg h1, if_neg h2, if_pos h3], h3⟩))
  · exact .inr (.inr (.inr (by rw [if_neg h1, if_neg h2, if_neg h3])))
/-- An offset out of its value. -/
theorem off_of_val (h : H3) (x : Int) (hx : 1 ≤ x) : max (valH h x) 0 = valH h x ∧ offB h (valH h x) = x ∧ valH h x ≤ x + 2 := by
  unfold valH
  rcases idxH_cases h x with ⟨e, k⟩ | ⟨e, k⟩ | ⟨e, k⟩ | e
  · rw [e]; exact ⟨by simp <;> omega, by simp [offB, k], by simp; omega⟩
  · rw [e]; exact ⟨by simp <;> omega, by simp [offB, k], by simp; omega⟩
  · rw [e]; exact ⟨by simp <;> omega, by simp [offB, k], by simp; omega⟩
  · rw [e]
    simp only [show (-1 : Int) < 0 from by decide, if_true]
    refine ⟨by omega, ?_, by omega⟩
    unfold offB
    rw [if_neg (by omega), if_neg (by omega), if_neg (by omega)]; omega
theorem hist_back (z : Nat → Int) (h : H3) (n : Nat) (hz : ∀ i, i < n → 1 ≤ z i) : ∀ k, k ≤ n → histB (valO z h) h k = histO z h k := by
  intro k
  induction k with
  | zero => intro _; rfl
  | succ k ih =>
    intro hk
    have e := ih (by omega)
    obtain ⟨h1, h2, _⟩ := off_of_val (histO z h k) (z k) (hz k (by omega))
    simp only [histB, histO]
    rw [e]
    unfold valO
    rw [h1, h2]
theorem val_back (z : Nat → Int) (h : H3) (n : Nat) (hz : ∀ i, i < n → 1 ≤ z i) (k : Nat) (hk : k < n) : valB (valO z h) h k = z k := by
  obtain ⟨h1, h2, _⟩ := off_of_val (histO z h k) (z k) (hz k hk)
  unfold valB
  rw [hist_back z h n hz k (by omega)]
  unfold valO
  rw [h1, h2]

theorem histB_congr {z z' : Nat → Int} {h : H3} : ∀ {n : Nat}, (∀ i, i < n → z i = z' i) → histB z h n = histB z' h n
  | 0, _ => rfl
  | n + 1, hz => by
    have e := histB_congr (z := z) (z' := z') (h := h) (n := n) (fun i hi => hz i (by omega))
    simp only [histB]
    rw [e, hz n (by omega)]
theorem histO_congr {z z' : Nat → Int} {h : H3} : ∀ {n : Nat}, (∀ i, i < n → z i = z' i) → histO z h n = histO z' h n
  | 0, _ => rfl
  | n + 1, hz => by
    have e := histO_congr (z := z) (z' := z') (h := h) (n := n) (fun i hi => hz i (by omega))
    simp only [histO]
    rw [e, hz n (by omega)]
theorem valB_congr {z z' : Nat → Int} {h : H3} {n : Nat} (hz : ∀ i, i < n + 1 → z i = z' i) : valB z h n = valB z' h n := by
  unfold valB
  rw [histB_congr (fun i hi => hz i (by omega)), hz n (by omega)]
theorem cntZ_congr {y y' : Nat → Int} : ∀ {k : Nat}, (∀ i, i < k → y i = y' i) → cntZ y k = cntZ y' k
  | 0, _ => rfl
  | k + 1, h => by
    funext s
    simp only [cntZ]
    rw [cntZ_congr (fun i hi => h i (by omega)), h k (by omega)]
theorem backL_congr {y y' : Nat → Int} {n : Nat} (h : ∀ i, i < n → y i = y' i) : backL y n n = backL y' n n := by
  unfold backL
  refine List.map_congr_left fun j hj => ?_
  rw [h (n - 1 - j) (by have := List.mem_range.1 hj; omega)]
theorem rowB_congr {v v' : Nat → Nat} {n : Nat} (h : ∀ i, i < n → v i = v' i) : rowB v n = rowB v' n := by
  have hc : ∀ i, i < n → codeI v i = codeI v' i := fun i hi => by unfold codeI; rw [h i hi]
  have hz : rowZ v n = rowZ v' n := by unfold rowZ; rw [cntZ_congr hc]
  have hb := backL_congr hc
  have he : rowE v n = rowE v' n := by unfold rowE; rw [hz, hb]
  have hd : rowD v n = rowD v' n := by unfold rowD; rw [he]
  have hn : rowN v n = rowN v' n := by unfold rowN; rw [hz]
  unfold rowB
  rw [hn, hd]
theorem extL_congr {vl vo vm vl' vo' vm' : Nat → Nat} {n : Nat} (h : ∀ i, i < n → vl i = vl' i ∧ vo i = vo' i ∧ vm i = vm' i) : ∀ k, k ≤ n → extL vl vo vm n k = extL vl' vo' vm' n k
  | 0, _ => rfl
  | k + 1, hk => by
    obtain ⟨h1, h2, h3⟩ := h (n - 1 - k) (by omega)
    rw [extL, extL, extL_congr h k (by omega), h1, h2, h3]
theorem extB_congr {vl vo vm vl' vo' vm' : Nat → Nat} {n : Nat} (h : ∀ i, i < n → vl i = vl' i ∧ vo i = vo' i ∧ vm i = vm' i) : extB vl vo vm n = extB vl' vo' vm' n := by
  unfold extB
  rw [extL_congr h n (Nat.le_refl _)]
def Agree (z z' : Nat → Nat → Int) (n : Nat) : Prop := ∀ i, i < n → ∀ j, j < 3 → z i j = z' i j
theorem allM_congr {z z' : Nat → Nat → Int} : ∀ {n : Nat}, Agree z z' n → allM z n = allM z' n
  | 0, _ => rfl
  | n + 1, h => by
    rw [allM, allM, allM_congr (fun i hi => h i (by omega))]
    unfold mayB
    rw [h n (by omega) 0 (by decide), h n (by omega) 1 (by decide), h n (by omega) 2 (by decide)]
theorem packOk_congr {z z' : Nat → Nat → Int} {n : Nat} (h : Agree z z' n) : packOk z n = packOk z' n := by unfold packOk; rw [allM_congr h]
theorem packB_congr {z z' : Nat → Nat → Int} {h : H3} {n : Nat} (hz : Agree z z' n) : packB z h n = packB z' h n := by
  have h1 : ∀ i, i < n → vLit z i = vLit z' i := fun i hi => by unfold vLit; rw [hz i hi 0 (by decide)]
  have h2 : ∀ i, i < n → vOff z h i = vOff z' h i := fun i hi => by
    unfold vOff valO
    rw [histO_congr (z' := fun i => z' i 1) (fun j hj => hz j (by omega) 1 (by decide))]
    show (valH _ (z i 1)).toNat = (valH _ (z' i 1)).toNat
    rw [hz i hi 1 (by decide)]
  have h3 : ∀ i, i < n → vMore z i = vMore z' i := fun i hi => by unfold vMore; rw [hz i hi 2 (by decide)]
  unfold packB
  rw [rowB_congr h1, rowB_congr h2, rowB_congr h3, extB_congr (fun i hi => ⟨h1 i hi, h2 i hi, h3 i hi⟩)]
theorem hist_congr3 {z z' : Nat → Nat → Int} {h : H3} {n : Nat} (hz : Agree z z' n) : histO (fun i => z i 1) h n = histO (fun i => z' i 1) h n := histO_congr (fun i hi => hz i hi 1 (by decide))
theorem readQ_n {B : List Nat} {n : Nat} {R : List Nat} (h : readQ B = some (n, R)) : (q0 B).1 = n := by
  unfold readQ at h
  split at h
  · cases h
  · split at h
    · rename_i h2
      simp only [Option.some.injEq, Prod.mk.injEq] at h
      rw [h2]; exact h.1
    · split at h
      · cases h
      · split at h
        · simp only [Option.some.injEq, Prod.mk.injEq] at h
          exact h.1
        · cases h
/-- Steps come back. -/
theorem steps_back {z : Nat → Nat → Int} {h : H3} {n : Nat} {B : List Nat} (hp : packOk z n = true) (hb : packB z h n <+: B) :
    ∃ R, B = packB z h n ++ R ∧ readQ B = some (n, R) ∧ Agree (qz B h) z n ∧ histB (fun i => ((exV (qc B) (qE B) (3 * i + 1) : Nat) : Int)) h n = histO (fun i => z i 1) h n := by
  obtain ⟨R, rfl⟩ := hb
  obtain ⟨hr, hv⟩ := read_pack (h := h) hp R
  have hq0 : (q0 (packB z h n ++ R)).1 = n := readQ_n hr
  have hone : ∀ i, i < n → 1 ≤ z i 1 := fun i hi => ((pack_ok hp).2 i hi).2.2.1
  have hvo : ∀ i, i < n → ((exV (qc (packB z h n ++ R)) (qE (packB z h n ++ R)) (3 * i + 1) : Nat) : Int) = valO (fun i => z i 1) h i := fun i hi => by rw [(hv i hi).2.1, off_cast hp hi]
  refine ⟨R, rfl, hr, fun i hi j hj => ?_, ?_⟩
  · unfold qz
    rw [hq0, if_pos hi]
    have hmay := (allM_iff z n).1 (by have := hp; unfold packOk at this; rw [Bool.and_eq_true] at this; exact this.2) i hi
    have : j = 0 ∨ j = 1 ∨ j = 2 := by omega
    rcases this with rfl | rfl | rfl
    · rw [if_pos rfl, (hv i hi).1, lit_cast hmay]
    · rw [if_neg (by decide), if_pos rfl]
      rw [valB_congr (z' := valO (fun i => z i 1) h) (fun k hk => hvo k (by omega))]
      exact val_back (fun i => z i 1) h n hone i hi
    · rw [if_neg (by decide), if_neg (by decide), if_pos rfl, (hv i hi).2.2, more_cast hmay]
      omega
  · rw [histB_congr hvo]
    exact hist_back (fun i => z i 1) h n hone n (Nat.le_refl _)
theorem unp_back {z : Nat → Nat → Int} {h : H3} {n : Nat} {B : List Nat} (hp : packOk z n = true) (hb : packB z h n <+: B) : unpQ B h = some n ∧ Agree (qz B h) z n := by
  obtain ⟨R, rfl, hr, hag, _⟩ := steps_back hp hb
  refine ⟨unpQ_yes hr (by rw [packOk_congr hag]; exact hp) ?_, hag⟩
  rw [packB_congr hag]
  exact hb
/-- The document asks the same. -/
theorem doc_same {B : List Nat} {h : H3} {n : Nat} {R : List Nat} (hr : readQ B = some (n, R)) (hp : packOk (qz B h) n = true) :
    (packB (qz B h) h n = B.take (B.length - R.length) ↔ packB (qz B h) h n <+: B) ∧
    (packB (qz B h) h n <+: B → B.length - R.length = (packB (qz B h) h n).length ∧ histB (fun i => ((exV (qc B) (qE B) (3 * i + 1) : Nat) : Int)) h n = histO (fun i => qz B h i 1) h n) := by
  have key : packB (qz B h) h n <+: B → B.length - R.length = (packB (qz B h) h n).length ∧ B = packB (qz B h) h n ++ R ∧ histB (fun i => ((exV (qc B) (qE B) (3 * i + 1) : Nat) : Int)) h n = histO (fun i => qz B h i 1) h n := fun hb => by
    obtain ⟨R', hB, hr', _, hh⟩ := steps_back hp hb
    rw [hr] at hr'
    obtain rfl : R = R' := by injection hr' with e; injection e
    have hl : B.length = (packB (qz B h) h n).length + R.length := by
      have := congrArg List.length hB
      rwa [List.length_append] at this
    exact ⟨by omega, hB, hh⟩
  refine ⟨⟨fun e => ?_, fun hb => ?_⟩, fun hb => ⟨(key hb).1, (key hb).2.2⟩⟩
  · rw [e]; exact List.take_prefix _ _
  · obtain ⟨h1, h2, _⟩ := key hb
    rw [h1]
    generalize packB (qz B h) h n = L at h2 ⊢
    rw [h2]; simp
end Go.Proofs.Ythnhacbagmhfoaa

/- seqs: what the laws want: Unpack's results, Same, may. -/
namespace Go.Proofs.Ythnhacbagmhfoaa
open Go.RowKit Go.WideShapes Go.Shelf Fs
set_option linter.unusedVariables false
set_option linter.unusedSimpArgs false
set_option maxRecDepth 100000

def unpN (B : List Nat) (h : H3) : Nat := (unpQ B h).getD 0
def unpH (B : List Nat) (h : H3) : H3 := match unpQ B h with
  | none => h
  | some n => histO (fun i => qz B h i 1) h n
def unpS (B : List Nat) (h : H3) : Nat := match unpQ B h with
  | none => 0
  | some n => (packB (qz B h) h n).length
theorem unp_out {B : List Nat} {h : H3} (hw : WfH h) {w w' : World} {e : Ending} (hp : UnpPost B h w e w') :
    ∃ a b c, e = .returned (.tuple #[.slice a (unpN B h) c, (unpH B h).val, .int .i64 (unpS B h : Nat), .bool (unpQ B h).isSome]) ∧ RecsIn 3 w' a b 0 (unpN B h) c (qz B h) ∧ Touch (fun _ => False) w w' := by
  obtain ⟨ht, hm⟩ := hp
  unfold unpN unpH unpS
  cases hq : unpQ B h with
  | none =>
    rw [hq] at hm
    exact ⟨none, 0, 0, hm, recs_none _ _ (Nat.zero_le _) _ (qz_wf hw) _, ht⟩
  | some n =>
    rw [hq] at hm
    obtain ⟨a, b, c, he, hr, _⟩ := hm
    exact ⟨a, b, c, he, hr, ht⟩
theorem unpN_le {B : List Nat} {h : H3} : unpN B h ≤ 500 := by
  unfold unpN
  cases hq : unpQ B h with
  | none => exact Nat.zero_le _
  | some n =>
    unfold unpQ at hq
    split at hq
    · cases hq
    · rename_i n' l' hr
      split at hq
      · cases hq; exact readQ_le hr
      · cases hq
theorem eq42 (a b c a' b' c' : Int) (w : World) : (Op.equalIn 10000 42 (.agg #[.int .i64 a, .int .i64 b, .int .i64 c]) (.agg #[.int .i64 a', .int .i64 b', .int .i64 c'])).run Try.prog w = .ok (a == a' && (b == b' && c == c')) w := by
  have u3 := Try.underlying3
  have a3 := Try.isAgg3
  have z3 := Try.sizeOf3
  have hS : Try.prog.underlying 42 = some (.struct (Try.prog.fieldsOf 42)) := by kernel_rfl
  have hp : Try.prog.stoodInHeld 42 = false := by kernel_rfl
  rw [show (10000 : Nat) = 9999 + 1 from rfl, run_equalIn_agg w 9999 42 _ _ hS hp]
  simp only [Program.fieldsOf, Try.underlying42]
  go_simp
  by_cases h1 : a = a' <;> by_cases h2 : b = b' <;> by_cases h3 : c = c' <;> simp [h1, h2, h3]
set_option maxHeartbeats 2000000 in
theorem sameS_walk (a1 : Option Addr) (b1 o1 c1 : Nat) (a2 : Option Addr) (b2 o2 c2 n : Nat) (z1 z2 : Nat → Nat → Int) (w : World) (h1 : RecsIn 3 w a1 b1 o1 n c1 z1) (h2 : RecsIn 3 w a2 b2 o2 n c2 z2) (hz : Agree z1 z2 n) (hn : n ≤ 500) :
    Calls Try.prog 23 #[.slice a1 n c1, .slice a2 n c2] w fun e w' => e = .returned (.bool true) ∧ ∃ m, w' = w.drewN m := by
  have H1 := Lib.hid h1
  have H2 := Lib.hid h2
  have HZ := Lib.hid hz
  clear h1 h2 hz
  go_enter Try.func23, Try.ntmps23
  go_wp2_with fail
  go_loopw [5] (fun i wr => ∃ k m : Nat, k ≤ n ∧ i = .int .i64 k ∧ wr = w.drewN m) (fun i _ => n - (intOf i).toNat)
  case atStart => exact ⟨0, 0, Nat.zero_le _, rfl, rfl⟩
  case round =>
    obtain ⟨k, m, hk, rfl, rfl⟩ := hrel
    by_cases hlt : k < n
    · obtain rfl := H1.out.at_ (Nat.lt_of_le_of_lt (Nat.zero_le _) hlt)
      obtain rfl := H2.out.at_ (Nat.lt_of_le_of_lt (Nat.zero_le _) hlt)
      have kk := fun m => rec3 H1.out (Touch.eq_drewN (S := fun _ => False) w m) hlt
      have qq := fun m => rec3 H2.out (Touch.eq_drewN (S := fun _ => False) w m) hlt
      have z0 := HZ.out k hlt 0 (by decide)
      have z1' := HZ.out k hlt 1 (by decide)
      have z2' := HZ.out k hlt 2 (by decide)
      rw [← z0, ← z1', ← z2'] at qq
      obtain ⟨x, hx⟩ : ∃ x, z1 k 0 = x := ⟨_, rfl⟩
      obtain ⟨y, hy⟩ : ∃ x, z1 k 1 = x := ⟨_, rfl⟩
      obtain ⟨q, hq⟩ : ∃ x, z1 k 2 = x := ⟨_, rfl⟩
      rw [hx, hy, hq] at kk qq
      have e1 := fun m => (kk m).1
      have e2 := fun m => (kk m).2.1
      have e3 := fun m => (kk m).2.2
      have g1 := fun m => (qq m).1
      have g2 := fun m => (qq m).2.1
      have g3 := fun m => (qq m).2.2
      have eqS := fun w => eq42 x y q x y q w
      simp only [beq_self_eq_true, Bool.and_true] at eqS
      have HLT := Lib.hid hlt
      have HM := Lib.hid (meas_u hlt)
      have fu1 := wrap_suc k (Nat.le_trans hk (Nat.le_trans hn (by decide)))
      clear kk qq z0 z1' z2' hx hy hq hk
      go_wp2_with fail
      go_quiet (fail)
      go_wp2_with fail
      go_roundw
      case rel => exact ⟨k + 1, _, HLT.out, by first | rfl | (rw [fu1]; go_num) | go_num, rfl⟩
      case measure => first | exact HM.out | (rw [fu1]; exact HM.out)
    · obtain rfl : k = n := Nat.le_antisymm hk (Nat.not_lt.1 hlt)
      go_wp2_with fail
      go_ret
      exact ⟨rfl, m, rfl⟩
theorem may_false {z : Nat → Nat → Int} {k n : Nat} (hk : k < n) (h : mayB (z k) = false) : allM z n = false := by
  cases hh : allM z n with
  | false => rfl
  | true => rw [(allM_iff z n).1 hh k hk] at h; cases h
set_option maxHeartbeats 2000000 in
theorem lawmay_walk (a : Option Addr) (b o c n : Nat) (z : Nat → Nat → Int) (w : World) (h : RecsIn 3 w a b o n c z) (hn : n ≤ 500) :
    Calls Try.prog 24 #[.slice a n c] w fun e w' => e = .returned (.bool (allM z n)) ∧ Touch (fun _ => False) w w' := by
  have H := Lib.hid h
  obtain ⟨AM, hAM⟩ : ∃ x, allM z n = x := ⟨_, rfl⟩
  rw [hAM]
  have HAM := Lib.hid hAM
  clear h hAM
  go_enter Try.func24, Try.ntmps24
  go_wp2_with fail
  go_loopw [3] (fun i wr => ∃ k : Nat, k ≤ n ∧ i = .int .i64 k ∧ allM z k = true ∧ Touch (fun _ => False) w wr) (fun i _ => n - (intOf i).toNat)
  case atStart => exact ⟨0, Nat.zero_le _, rfl, rfl, Touch.refl _ _⟩
  case round =>
    obtain ⟨k, hk, rfl, hall, ht⟩ := hrel
    have HT := Lib.hid ht
    have HALL := Lib.hid hall
    clear ht hall
    by_cases hlt : k < n
    · obtain rfl := H.out.at_ (Nat.lt_of_le_of_lt (Nat.zero_le _) hlt)
      obtain ⟨e1, e2, e3⟩ := rec3 H.out HT.out hlt
      have hbad := fun (hb : mayB (z k) = false) => (may_false hlt hb : allM z n = false)
      have hgood := fun (hb : mayB (z k) = true) => (show allM z (k + 1) = true from by rw [allM, HALL.out, hb]; rfl)
      unfold mayB at hbad hgood
      obtain ⟨x0, hx0⟩ : ∃ x, z k 0 = x := ⟨_, rfl⟩
      obtain ⟨x1, hx1⟩ : ∃ x, z k 1 = x := ⟨_, rfl⟩
      obtain ⟨x2, hx2⟩ : ∃ x, z k 2 = x := ⟨_, rfl⟩
      rw [hx0] at e1
      rw [hx1] at e2
      rw [hx2] at e3
      rw [hx0, hx1, hx2] at hbad hgood
      have HBAD := Lib.hid hbad
      have HGOOD := Lib.hid hgood
      have HLT := Lib.hid hlt
      have HM := Lib.hid (meas_u hlt)
      have fu1 := wrap_suc k (Nat.le_trans hk (Nat.le_trans hn (by decide)))
      have hd5 : decide ((k : Int) < 501) = true := decide_eq_true (by omega)
      have tn := HT.out.trans (Touch.new wr (.cells #[.int .i64 x0, .int .i64 x1, .int .i64 x2] 42))
      have HTN := Lib.hid tn
      clear hx0 hx1 hx2 hbad hgood tn
      by_cases hm : 0 ≤ x0 ∧ x0 ≤ 500 ∧ 1 ≤ x1 ∧ x1 ≤ 2500 ∧ 4 ≤ x2 ∧ x2 ≤ 500
      · obtain ⟨m1, m2, m3, m4, m5, m6⟩ := hm
        have HG := Lib.hid (HGOOD.out (decide_eq_true ⟨m1, m2, m3, m4, m5, m6⟩))
        have d1 : decide (x0 < 0) = false := decide_eq_false (by omega)
        have d2 : decide ((500 : Int) < x0) = false := decide_eq_false (by omega)
        have d3 : decide (x1 < 1) = false := decide_eq_false (by omega)
        have d4 : decide ((2500 : Int) < x1) = false := decide_eq_false (by omega)
        have d5 : decide (x2 < 4) = false := decide_eq_false (by omega)
        have d6 : decide ((500 : Int) < x2) = false := decide_eq_false (by omega)
        clear m1 m2 m3 m4 m5 m6
        go_wp2_with fail
        go_roundw
        case rel => exact ⟨k + 1, HLT.out, by first | rfl | (rw [fu1]; go_num) | go_num, HG.out, HTN.out⟩
        case measure => first | exact HM.out | (rw [fu1]; exact HM.out)
      · have hB := HBAD.out (decide_eq_false hm)
        have hA : AM = false := by rw [← HAM.out]; exact hB
        subst hA
        clear hB hk
        by_cases c1 : x0 < 0
        · have d1 : decide (x0 < 0) = true := decide_eq_true c1
          go_wp2_with fail
          try go_ret
          exact ⟨rfl, HTN.out⟩
        have d1 : decide (x0 < 0) = false := decide_eq_false c1
        by_cases c2 : (500 : Int) < x0
        · have d2 : decide ((500 : Int) < x0) = true := decide_eq_true c2
          go_wp2_with fail
          try go_ret
          exact ⟨rfl, HTN.out⟩
        have d2 : decide ((500 : Int) < x0) = false := decide_eq_false c2
        by_cases c3 : x1 < 1
        · have d3 : decide (x1 < 1) = true := decide_eq_true c3
          go_wp2_with fail
          try go_ret
          exact ⟨rfl, HTN.out⟩
        have d3 : decide (x1 < 1) = false := decide_eq_false c3
        by_cases c4 : (2500 : Int) < x1
        · have d4 : decide ((2500 : Int) < x1) = true := decide_eq_true c4
          go_wp2_with fail
          try go_ret
          exact ⟨rfl, HTN.out⟩
        have d4 : decide ((2500 : Int) < x1) = false := decide_eq_false c4
        by_cases c5 : x2 < 4
        · have d5 : decide (x2 < 4) = true := decide_eq_true c5
          go_wp2_with fail
          try go_ret
          exact ⟨rfl, HTN.out⟩
        have d5 : decide (x2 < 4) = false := decide_eq_false c5
        have d6 : decide ((500 : Int) < x2) = true := decide_eq_true (by omega)
        go_wp2_with fail
        try go_ret
        exact ⟨rfl, HTN.out⟩
    · obtain rfl : k = n := Nat.le_antisymm hk (Nat.not_lt.1 hlt)
      have hA : AM = true := by rw [← HAM.out]; exact HALL.out
      subst hA
      have hd5 : decide ((k : Int) ≤ 500) = true := decide_eq_true (by omega)
      clear hlt hk
      go_wp2_with fail
      try go_ret
      exact ⟨rfl, HT.out⟩
end Go.Proofs.Ythnhacbagmhfoaa

/- seqs: the document's Unpack: what its loop keeps. -/
namespace Go.Proofs.Ythnhacbagmhfoaa
open Go.RowKit Go.WideShapes Go.Shelf Fs
set_option linter.unusedVariables false
set_option linter.unusedSimpArgs false
set_option maxRecDepth 100000

theorem zB_lt {l : List Nat} (h : ∀ x ∈ l, x < 256) (i : Nat) : zB l i < 256 := by
  unfold zB
  rw [List.getD_eq_getElem?_getD]
  cases hh : l[i]? with
  | none => decide
  | some x => exact h x (List.mem_of_getElem? hh)
/-- What the extras' loop keeps: the cursor, the reader, the bytes. -/
structure CvI (B : List Nat) (r G t : Nat) (a : Option Addr) (b off cap : Nat) (m : Nat) (w : World) : Prop where
  cur : Cur w 83 r G (!exK (qc B) (qE B) m) (q5 B).2.2
  rd : ∃ M, Rd w t (.slice a (q5 B).1.length cap) M ∧ readBits (zB (q5 B).1) M = exE (qc B) (qE B) m ∧ M ≤ 8 * (q5 B).1.length
  seen : Seen w a b off (q5 B).1.length (zB (q5 B).1)
theorem CvI.touch {B : List Nat} {r G t : Nat} {a : Option Addr} {b off cap m : Nat} {w w' : World} {S : Nat → Prop} (h : CvI B r G t a b off cap m w) (ht : Touch S w w') (hr : ¬ S r) (htt : ¬ S t) (hS : ∀ q, S q → G ≤ q) (hb : b < G) : CvI B r G t a b off cap m w' := by
  obtain ⟨M, h1, h2, h3⟩ := h.rd
  exact ⟨h.cur.touch ht hr hS, ⟨M, h1.touch ht htt, h2, h3⟩, h.seen.touch ht (fun e => by have := hS b e; omega)⟩
theorem cv_step {B : List Nat} {r G t : Nat} {a : Option Addr} {b off cap m : Nat} {w : World} (h : CvI B r G t a b off cap m w) (hb : b < G) (hGr : G ≤ r) (hrt : r < t) (hlen : (q5 B).1.length ≤ 65535) :
    Calls Try.prog 56 #[.pointer (some ⟨r, 0, none⟩), .pointer (some ⟨t, 0, none⟩), .int .i64 (qc B m : Nat)] w fun e w' => e = .returned (.int .i64 (exV (qc B) (qE B) m : Nat)) ∧ CvI B r G t a b off cap (m + 1) w' ∧ Touch (fun q => q = r ∨ q = t) w w' := by
  obtain ⟨M, h1, h2, h3⟩ := h.rd
  refine (cval_walk w r G t b off (q5 B).1.length cap M (qc B m) a (zB (q5 B).1) (!exK (qc B) (qE B) m) (q5 B).2.2 h.cur h1 h.seen h3 (by omega) (by omega) (qc_32 B m) (by omega) (by omega)).mono ?_
  rintro e w' ⟨he, hc, hr, ht⟩
  have hM : takeOk ((qc B m - 1 : Nat) : Int) M = takeOk ((qc B m - 1 : Nat) : Int) (exE (qc B) (qE B) m).length := by rw [← h2, readBits_length]
  refine ⟨?_, ⟨?_, ⟨leftN M ((qc B m - 1 : Nat) : Int), hr, ?_, Nat.le_trans (leftN_le _ _) h3⟩, h.seen.touch ht (fun e => by omega)⟩, ht⟩
  · rw [he, h2]; rfl
  · have : (!exK (qc B) (qE B) (m + 1)) = (!exK (qc B) (qE B) m || !takeOk ((qc B m - 1 : Nat) : Int) M) := by
      rw [hM]
      show (!(exK (qc B) (qE B) m && takeOk _ _)) = _
      rw [Bool.not_and]
    rw [this]; exact hc
  · rw [← takenL_read, h2]; rfl
/-- Steps without their offsets. -/
def tripD (B : List Nat) (k : Nat) : List (Int × Int × Int) := (List.range k).map fun i => ((exV (qc B) (qE B) (3 * i) : Int), 0, (exV (qc B) (qE B) (3 * i + 2) : Int) + 4)
theorem tripD_succ (B : List Nat) (k : Nat) : tripD B (k + 1) = tripD B k ++ [((exV (qc B) (qE B) (3 * k) : Int), 0, (exV (qc B) (qE B) (3 * k + 2) : Int) + 4)] := by simp [tripD, List.range_succ]
theorem tripD_len (B : List Nat) (k : Nat) : (tripD B k).length = k := by simp [tripD]
def valD (B : List Nat) (i : Nat) : Int := (exV (qc B) (qE B) (3 * i + 1) : Int)
structure DocI (B : List Nat) (r G t : Nat) (a : Option Addr) (b off cap : Nat) (w0 : World) (k : Nat) (vl vv : Value) (w : World) : Prop where
  cv : CvI B r G t a b off cap (3 * k) w
  rl : w.ownsRow 0 42 3 vl k (recL (tripD B k))
  rv : w.ownsRow 0 3 1 vv k (cellsZ .i64 (valD B) k)
  ol : OwnB w0.heap.size vl
  ov : OwnB w0.heap.size vv
  touch : Touch (fun q => q = r ∨ q = t) w0 w
theorem exK_down {cs : Nat → Nat} {E : List Bool} {m : Nat} : ∀ {n : Nat}, m ≤ n → exK cs E n = true → exK cs E m = true
  | 0, h, hk => by obtain rfl : m = 0 := by omega
                   exact hk
  | n + 1, h, hk => by
    by_cases e : m = n + 1
    · subst e; exact hk
    · simp only [exK, Bool.and_eq_true] at hk
      exact exK_down (by omega) hk.1
theorem own_ne2 {w : World} {e e' : TypeId} {s s' n n' : Nat} {v v' : Value} {xs xs' : List Value} (h : w.ownsRow 0 e s v n xs) (h' : w.ownsRow 0 e' s' v' n' xs') (hne : e ≠ e') (k : Nat) (hk : v.ownBlock = some k) : v'.ownBlock ≠ some k := fun hk' => by
  obtain ⟨cur, hc⟩ := own_at h' hk'
  exact own_ne h hc hne hk
/-- Behind the first number of a step: its block. -/
structure DocB (B : List Nat) (r G t : Nat) (a : Option Addr) (b off cap : Nat) (w0 : World) (k m kv P : Nat) (x y : Int) (vl vv : Value) (w : World) : Prop where
  cv : CvI B r G t a b off cap m w
  rl : w.ownsRow 0 42 3 vl k (recL (tripD B k))
  rv : w.ownsRow 0 3 1 vv kv (cellsZ .i64 (valD B) kv)
  ol : OwnB w0.heap.size vl
  ov : OwnB w0.heap.size vv
  blk : w.heap[P]? = some (.cells #[.int .i64 x, .int .i64 0, .int .i64 y] 42 (0, 0))
  ap : vl.ownBlock ≠ some P
  pt : t < P ∧ w0.heap.size ≤ P
  touch : Touch (fun q => q = r ∨ q = t) w0 w
section
variable {B : List Nat} {r G t : Nat} {a : Option Addr} {b off cap : Nat} {w0 : World} {k m kv P : Nat} {x y : Int} {vl vv : Value} {w w' : World}
theorem rt_row {e : TypeId} {s n : Nat} {v : Value} {xs : List Value} (hrow : w.ownsRow 0 e s v n xs) (ho : OwnB w0.heap.size v) (hr0 : r < w0.heap.size) (ht0 : t < w0.heap.size) (ht : Touch (fun q => q = r ∨ q = t) w w') : w'.ownsRow 0 e s v n xs :=
  ht.row hrow (fun q hq e => by have := ho q hq; omega)
theorem DocI.start (h : DocI B r G t a b off cap w0 k vl vv w) (hr0 : r < w0.heap.size) (ht0 : t < w0.heap.size) (hrt : r < t) (hb : b < G) (hGr : G ≤ r) (hc : CvI B r G t a b off cap (3 * k + 1) w') (ht : Touch (fun q => q = r ∨ q = t) w w') :
    DocB B r G t a b off cap w0 k (3 * k + 1) k w'.heap.size x 0 vl vv (w'.alloc (.cells #[.int .i64 x, .int .i64 0, .int .i64 0] 42)) := by
  have tn := Touch.new w' (.cells #[.int .i64 x, .int .i64 0, .int .i64 0] 42)
  have hs := Nat.le_trans h.touch.size ht.size
  have hrl := rt_row h.rl h.ol hr0 ht0 ht
  refine ⟨hc.touch tn id id (fun _ hh => hh.elim) hb, tn.row hrl (fun _ _ => id), tn.row (rt_row h.rv h.ov hr0 ht0 ht) (fun _ _ => id), h.ol, h.ov, heap_alloc_new w' _, fun e => ?_, ⟨by omega, hs⟩, (h.touch.trans ht).trans (tn.mono (fun _ _ hh => hh.elim))⟩
  have := own_below hrl e; omega
theorem DocB.call (h : DocB B r G t a b off cap w0 k m kv P x y vl vv w) (hr0 : r < w0.heap.size) (ht0 : t < w0.heap.size) (hrt : r < t) (hc : CvI B r G t a b off cap (m + 1) w') (ht : Touch (fun q => q = r ∨ q = t) w w') : DocB B r G t a b off cap w0 k (m + 1) kv P x y vl vv w' := by
  obtain ⟨p1, p2⟩ := h.pt
  exact ⟨hc, rt_row h.rl h.ol hr0 ht0 ht, rt_row h.rv h.ov hr0 ht0 ht, h.ol, h.ov, ht.heap h.blk (fun e => by omega), h.ap, h.pt, h.touch.trans ht⟩
theorem DocB.new (h : DocB B r G t a b off cap w0 k m kv P x y vl vv w) (hb : b < G) (o : Obj) : DocB B r G t a b off cap w0 k m kv P x y vl vv (w.alloc o) := by
  have tn := Touch.new w o
  exact ⟨h.cv.touch tn id id (fun _ hh => hh.elim) hb, tn.row h.rl (fun _ _ => id), tn.row h.rv (fun _ _ => id), h.ol, h.ov, tn.heap h.blk id, h.ap, h.pt, h.touch.trans (tn.mono (fun _ _ hh => hh.elim))⟩
theorem DocB.val (h : DocB B r G t a b off cap w0 k m kv P x y vl vv w) (hb : b < G) (hr0 : r < w0.heap.size) (ht0 : t < w0.heap.size) (hG0 : G ≤ w0.heap.size) {q : Int} (hq : valD B kv = q) {a' : Option Addr} {c' : Nat}
    (hr : w'.ownsRow 0 3 1 (.slice a' (kv + 1) c') (kv + 1) (cellsZ .i64 (valD B) kv ++ [.int .i64 q])) (ht : Touch (fun b => vv.ownBlock = some b) w w') (hf : Fresh w.heap.size vv (.slice a' (kv + 1) c')) :
    DocB B r G t a b off cap w0 k m (kv + 1) P x y vl (.slice a' (kv + 1) c') w' := by
  have hv := h.ov
  refine ⟨h.cv.touch ht (fun e => by have := hv r e; omega) (fun e => by have := hv t e; omega) (fun q e => by have := hv q e; omega) hb, ht.row h.rl (fun j hj e => own_ne2 h.rl h.rv (by decide) j hj e), by rw [cellsZ_succ, hq]; exact hr, h.ol, hv.fresh hf h.touch.size, ht.heap h.blk (fun e => own_ne h.rv h.blk (by decide) e), h.ap, h.pt, ?_⟩
  exact h.touch.then ht (fun i hi e => by have := hv i e; omega)
theorem DocB.more (h : DocB B r G t a b off cap w0 k m kv P x y vl vv w) (hb : b < G) (hr0 : r < w0.heap.size) (ht0 : t < w0.heap.size) (hrt : r < t) (hGr : G ≤ r) (y' : Int) : DocB B r G t a b off cap w0 k m kv P x y' vl vv (w.setCell ⟨P, 2, none⟩ (.int .i64 y')) := by
  have tc := touch_cell w P 2 (.int .i64 y')
  obtain ⟨p1, p2⟩ := h.pt
  refine ⟨h.cv.touch tc (by omega) (by omega) (fun q e => by omega) hb, tc.row h.rl (fun j hj e => h.ap (by rw [hj, e])), tc.row h.rv (fun j hj e => own_ne h.rv h.blk (by decide) (by rw [hj, e])), h.ol, h.ov, heap_setCell_same (o := 2) h.blk (.int .i64 y'), h.ap, h.pt, ?_⟩
  exact h.touch.then tc (fun i hi e => by omega)
theorem DocB.done (h : DocB B r G t a b off cap w0 k (3 * (k + 1)) (k + 1) P x y vl vv w) (hb : b < G) (hr0 : r < w0.heap.size) (ht0 : t < w0.heap.size) (hG0 : G ≤ w0.heap.size) (hx : ((exV (qc B) (qE B) (3 * k) : Int), (0 : Int), (exV (qc B) (qE B) (3 * k + 2) : Int) + 4) = (x, 0, y)) {a' : Option Addr} {c' : Nat}
    (hr : w'.ownsRow 0 42 3 (.slice a' (k + 1) c') (k + 1) (recL (tripD B k) ++ [.int .i64 x, .int .i64 0, .int .i64 y])) (ht : Touch (fun b => vl.ownBlock = some b) w w') (hf : Fresh w.heap.size vl (.slice a' (k + 1) c')) :
    DocI B r G t a b off cap w0 (k + 1) (.slice a' (k + 1) c') vv w' := by
  have hv := h.ol
  refine ⟨h.cv.touch ht (fun e => by have := hv r e; omega) (fun e => by have := hv t e; omega) (fun q e => by have := hv q e; omega) hb, by rw [tripD_succ, recL_snoc, hx]; exact hr, ht.row h.rv (fun j hj e => own_ne2 h.rv h.rl (by decide) j hj e), hv.fresh hf h.touch.size, h.ov, ?_⟩
  exact h.touch.then ht (fun i hi e => by have := hv i e; omega)
end
end Go.Proofs.Ythnhacbagmhfoaa

/- seqs: the document's Unpack. -/
namespace Go.Proofs.Ythnhacbagmhfoaa
open Go.RowKit Go.WideShapes Go.Shelf Fs
set_option linter.unusedVariables false
set_option linter.unusedSimpArgs false
set_option maxRecDepth 100000

theorem q6_many (B : List Nat) : q6 B = (manyIn (zB (q5 B).1) (q5 B).1.length).map (readBits (zB (q5 B).1)) := bitsIn_many _ _
theorem readQ_zero {B : List Nat} (h1 : (q0 B).2.1 = false) (h2 : (q0 B).1 = 0) : readQ B = some (0, (q0 B).2.2) := by
  unfold readQ; rw [h1, if_neg (by decide), if_pos h2]
theorem unpQ_zero {B : List Nat} {h : H3} (h1 : (q0 B).2.1 = false) (h2 : (q0 B).1 = 0) : unpQ B h = some 0 := by
  refine unpQ_yes (readQ_zero h1 h2) rfl ?_
  show [0, 0] <+: B
  unfold q0 twoQ at h1 h2
  match B with
  | [] => simp [twoP] at h1
  | [x] => simp [twoP] at h1
  | x :: y :: l =>
    simp [twoP] at h2
    obtain ⟨rfl, rfl⟩ : x = 0 ∧ y = 0 := by omega
    exact ⟨l, rfl⟩

theorem three_cells {w : World} {g : Nat} {u v x : Value} {e : TypeId} (h : w.heap[g]? = some (.cells #[u, v, x] e (0, 0))) : w.cell? ⟨g, 0, none⟩ = some u ∧ w.cell? ⟨g, 1, none⟩ = some v ∧ w.cell? ⟨g, 2, none⟩ = some x := by simp [World.cell?, h]
theorem three_free {w : World} {g : Nat} {u v x : Value} {e : TypeId} (h : w.heap[g]? = some (.cells #[u, v, x] e (0, 0))) (i : Nat) : w.frozen? ⟨g, i, none⟩ = false := by simp [World.frozen?, h]
theorem heap_set_new (w : World) (p : Addr) (v : Value) (o : Obj) : ((w.setCell p v).alloc o).heap[w.heap.size]? = some o := by
  have := heap_alloc_new (w.setCell p v) o
  have e : (w.setCell p v).heap.size = w.heap.size := by simp [World.setCell]
  rwa [e] at this
/-- The steps' numbers while the offsets are laid. -/
def lzD (B : List Nat) (h : H3) (j m : Nat) : Int :=
  if m % 3 = 0 then (exV (qc B) (qE B) (3 * (m / 3)) : Int) else if m % 3 = 1 then (if m / 3 < j then valB (valD B) h (m / 3) else 0) else (exV (qc B) (qE B) (3 * (m / 3) + 2) : Int) + 4
structure LayI (B : List Nat) (h : H3) (w0 : World) (k j : Nat) (a : Option Addr) (g c : Nat) (w : World) : Prop where
  kc : k ≤ c
  cm : c ≤ maxLen
  at_ : 0 < k → a = some ⟨g, 0, none⟩ ∧ RowAt w g 42 (k * 3) (fun m => .int .i64 (lzD B h j m)) ∧ w0.heap.size ≤ g
theorem recL_tripD {B : List Nat} {h : H3} {k m : Nat} (hm : m < k * 3) : (recL (tripD B k))[m]? = some (.int .i64 (lzD B h 0 m)) := by
  have hi : m / 3 < k := by omega
  have hg : (tripD B k)[m / 3]? = some ((exV (qc B) (qE B) (3 * (m / 3)) : Int), 0, (exV (qc B) (qE B) (3 * (m / 3) + 2) : Int) + 4) := by simp [tripD, hi]
  obtain ⟨h0, h1, h2⟩ := recL_get _ _ _ hg
  have : m % 3 = 0 ∨ m % 3 = 1 ∨ m % 3 = 2 := by omega
  unfold lzD
  rcases this with e | e | e
  · rw [show m / 3 * 3 = m by omega] at h0
    rw [if_pos e]; exact h0
  · rw [show m / 3 * 3 + 1 = m by omega] at h1
    rw [if_neg (by omega), if_pos e, if_neg (by omega)]; exact h1
  · rw [show m / 3 * 3 + 2 = m by omega] at h2
    rw [if_neg (by omega), if_neg (by omega)]; exact h2
theorem doc_form {B : List Nat} {h : H3} {w0 w : World} {k : Nat} {v : Value} (hr : w.ownsRow 0 42 3 v k (recL (tripD B k))) (ho : OwnB w0.heap.size v) : ∃ a g c, v = .slice a k c ∧ LayI B h w0 k 0 a g c w := by
  rcases hr.2 with ⟨rfl, rfl⟩ | ⟨g, cap, cur, rfl, _, hg, h1, h2, h3, h4⟩
  · exact ⟨none, 0, 0, rfl, ⟨Nat.le_refl _, Nat.zero_le _, fun hp => absurd hp (Nat.lt_irrefl _)⟩⟩
  · refine ⟨_, g, cap, rfl, ⟨h1, h2, fun _ => ⟨rfl, ⟨cur, hg, fun m hm => ?_⟩, ho g rfl⟩⟩⟩
    have := recL_tripD (B := B) (h := h) hm
    rw [← h4] at this
    rw [← this, List.getElem?_take]
    simp [hm]
theorem LayI.touch {B : List Nat} {h : H3} {w0 w w' : World} {k j : Nat} {a : Option Addr} {g c : Nat} (hl : LayI B h w0 k j a g c w) (ht : Touch (fun _ => False) w w') : LayI B h w0 k j a g c w' :=
  ⟨hl.kc, hl.cm, fun hp => ⟨(hl.at_ hp).1, RowAt.touch (hl.at_ hp).2.1 ht id, (hl.at_ hp).2.2⟩⟩
theorem LayI.next {B : List Nat} {h : H3} {w0 w : World} {k j : Nat} {a : Option Addr} {g c : Nat} (hl : LayI B h w0 k j a g c w) (hj : j < k) : LayI B h w0 k (j + 1) a g c (w.setCell ⟨g, j * 3 + 1, none⟩ (.int .i64 (valB (valD B) h j))) := by
  refine ⟨hl.kc, hl.cm, fun hp => ⟨(hl.at_ hp).1, ((hl.at_ hp).2.1.set (j * 3 + 1) (.int .i64 (valB (valD B) h j))).congr (fun m hm => ?_), (hl.at_ hp).2.2⟩⟩
  unfold lzD
  by_cases e : m = j * 3 + 1
  · subst e
    rw [if_pos rfl, if_neg (by omega), if_pos (by omega), if_pos (by omega), show (j * 3 + 1) / 3 = j by omega]
  · rw [if_neg e]
    by_cases e0 : m % 3 = 0
    · rw [if_pos e0, if_pos e0]
    · rw [if_neg e0, if_neg e0]
      by_cases e1 : m % 3 = 1
      · rw [if_pos e1, if_pos e1]
        by_cases e2 : m / 3 < j
        · rw [if_pos e2, if_pos (by omega)]
        · rw [if_neg e2, if_neg (by omega)]
      · rw [if_neg e1, if_neg e1]
theorem LayI.recs {B : List Nat} {h : H3} {w0 w : World} {k : Nat} {a : Option Addr} {g c n : Nat} (hl : LayI B h w0 k k a g c w) (hw : WfH h) (hn : (q0 B).1 = n) (hk : k ≤ n) : RecsIn 3 w a g 0 k c (qz B h) := by
  refine ⟨fun hp => (hl.at_ hp).1, fun hp => RowAt.lt (hl.at_ hp).2.1, hl.kc, hl.cm, fun i hi j hj => ?_, qz_wf hw⟩
  have := RowAt.get (hl.at_ (by omega)).2.1 (i := i * 3 + j) (by omega)
  rw [Nat.zero_add, this]
  have e1 : (i * 3 + j) % 3 = j := by omega
  have e2 : (i * 3 + j) / 3 = i := by omega
  have hin : i < n := by omega
  have e1 : (i * 3 + j) % 3 = j := by omega
  have e2 : (i * 3 + j) / 3 = i := by omega
  have hin : i < n := by omega
  have e1 : (i * 3 + j) % 3 = j := by omega
  have e2 : (i * 3 + j) / 3 = i := by omega
  have hin : i < n := by omega
  have e1 : (i * 3 + j) % 3 = j := by omega
  have e2 : (i * 3 + j) / 3 = i := by omega
  have hin : i < n := by omega
  have e1 : (i * 3 + j) % 3 = j := by omega
  have e2 : (i * 3 + j) / 3 = i := by omega
  have hin : i < n := by omega
  have e1 : (i * 3 + j) % 3 = j := by omega
  have e2 : (i * 3 + j) / 3 = i := by omega
  have hin : i < n := by omega
  have e1 : (i * 3 + j) % 3 = j := by omega
  have e2 : (i * 3 + j) / 3 = i := by omega
  have hin : i < n := by omega
  have e1 : (i * 3 + j) % 3 = j := by omega
  have e2 : (i * 3 + j) / 3 = i := by omega
  have hin : i < n := by omega
  have e1 : (i * 3 + j) % 3 = j := by omega
  have e2 : (i * 3 + j) / 3 = i := by omega
  have hin : i < n := by omega
  have e1 : (i * 3 + j) % 3 = j := by omega
  have e2 : (i * 3 + j) / 3 = i := by omega
  have hin : i < n := by omega
  unfold lzD qz
  simp only [e1, e2, hn]
  have : j = 0 ∨ j = 1 ∨ j = 2 := by omega
  rcases this with rfl | rfl | rfl
  · simp [hin]
  · simp [hin, hi, valD]
    rfl
  · simp [hin]
theorem wrap_subN {n l : Nat} (h : l ≤ n) (hn : n ≤ 10000) : wrap64 ((n : Int) - (l : Int)) = ((n - l : Nat) : Int) := by unfold wrap64; omega
theorem strL_inj {l m : List Nat} (hl : ∀ x ∈ l, x < 256) (hm : ∀ x ∈ m, x < 256) (h : strL l = strL m) : l = m := by
  have h1 := congrArg (fun b => b.data.toList) h
  unfold strL at h1
  simp only [strOfNums_data] at h1
  have h2 : Lib.bytesOf (l.map fun (x : Nat) => (x : Int)) = Lib.bytesOf (m.map fun (x : Nat) => (x : Int)) := h1
  rw [← byte_inv hl, ← byte_inv hm, h2]
theorem rt_ne {s r t : Nat} (h1 : s ≤ r) (h2 : r < t) (h3 : s + 1 + 1 = r) : ¬ (s = r ∨ s = t) := by omega
theorem rt_ne5 {s r t : Nat} (h1 : s ≤ r) (h2 : r < t) (h3 : s + 1 + 1 = r) : ¬ (s + 1 = r ∨ s + 1 = t) := by omega
theorem rt_out {w w7 wr : World} {r t : Nat} (h : Touch (fun _ => False) w w7) (k : Touch (fun q => q = r ∨ q = t) w7 wr) (h1 : w.heap.size ≤ r) (h2 : r < t) : Touch (fun _ => False) w wr := h.then k (fun i hi e => by omega)
theorem readQ_ex {B : List Nat} {n : Nat} (hb : (q0 B).2.1 = false) (hn : (q0 B).1 = n) (h0 : ¬ n = 0) (h5 : n ≤ 500) (he : exK (qc B) (qE B) (3 * n) = false) : readQ B = none := by
  unfold readQ
  rw [hb, if_neg (by decide), hn, if_neg h0, if_neg (by omega), he, if_neg (by simp)]
theorem readQ_go {B : List Nat} {n : Nat} (hb : (q0 B).2.1 = false) (hn : (q0 B).1 = n) (h0 : ¬ n = 0) (h5 : n ≤ 500) (hh : headOk B = true) (he : exK (qc B) (qE B) (3 * n) = true) : readQ B = some (n, (q5 B).2.2) := by
  unfold readQ
  rw [hb, if_neg (by decide), hn, if_neg h0, if_neg (by omega), he, hh, if_pos ⟨rfl, rfl⟩]
theorem str_ne {l m : List Nat} (hl : ∀ x ∈ l, x < 256) (hm : ∀ x ∈ m, x < 256) (h : ¬ l = m) : ((strL l).toList == (strL m).toList) = false := by
  rw [beq_eq_false_iff_ne]
  intro e
  apply h
  unfold strL at e
  rw [Lib.strOfNums_toList, Lib.strOfNums_toList] at e
  rw [← byte_inv hl, ← byte_inv hm, e]
/-- A row of codes in memory. -/
theorem row_code {B : List Nat} {w : World} {a : Option Addr} {b n j : Nat} {o : List Nat} (h : Ints .i64 w a b 0 o.length (zN o)) (hn : o.length = n) (hj : j < 3) (ho : qo B j = o) : Ints .i64 w a b 0 n (fun i => ((qc B (3 * i + j) : Nat) : Int)) := by
  subst hn
  refine ⟨h.at_, fun i hi => ?_⟩
  rw [h.cell i hi, qc_at B i j hj, ho]
  rfl
theorem ne_t {w w' : World} {a : Option Addr} {b n : Nat} {z : Nat → Int} (h : Ints .i64 w a b 0 n z) (hn : 0 < n) : b ≠ w.heap.size := by
  have := ints_lt h hn; omega
theorem rt_cell {w0 w : World} {r t b i : Nat} {v : Value} (h : w0.cell? ⟨b, i, none⟩ = some v) (ht : Touch (fun q => q = r ∨ q = t) w0 w) (hr : b ≠ r) (hb : b ≠ t) : w.cell? ⟨b, i, none⟩ = some v := ht.cell h (fun e => e.elim hr hb)
set_option maxHeartbeats 8000000 in
theorem cunp_walk (w : World) (a : Option Addr) (b off c : Nat) (B : List Nat) (h : H3) (hw : WfH h) (hB : BytesAt w a b off B) (hc : B.length ≤ c) (hlt : 0 < B.length → b < w.heap.size) (h8 : ∀ x ∈ B, x < 256) (hl : B.length ≤ 10000) :
    Calls Try.prog 26 #[.slice a B.length c, h.val] w (UnpPost B h w) := by
  have H42 := Lib.hid (info_parts Try.info42c)
  have H3I := Lib.hid (info_parts Try.info3)
  obtain ⟨x3, x5, x8, t0⟩ := alloc3 w (.cells #[.int .i64 h.a, .int .i64 h.b, .int .i64 h.c] 31) (.cells #[.int .i64 0, .int .i64 0, .int .i64 0] 31) (.cells #[.slice a B.length c, .bool false] 83)
  obtain ⟨w0, hw0⟩ : ∃ w0, ((w.alloc (.cells #[.int .i64 h.a, .int .i64 h.b, .int .i64 h.c] 31)).alloc (.cells #[.int .i64 0, .int .i64 0, .int .i64 0] 31)).alloc (.cells #[.slice a B.length c, .bool false] 83) = w0 := ⟨_, rfl⟩
  rw [hw0] at x3 x5 x8 t0
  have HW0 := Lib.hid hw0
  have hcur : Cur w0 83 (w.heap.size + 1 + 1) w.heap.size false B := ⟨a, b, off, c, x8, Ints.touch hB t0, hc, hlt, by omega⟩
  have HTW := Lib.hid (ctwo_walk w0 (w.heap.size + 1 + 1) w.heap.size false B hcur h8 (by omega))
  have H3A := Lib.hid (show Arr w0 w.heap.size h from x3)
  have H5A := Lib.hid (show Arr w0 (w.heap.size + 1) ⟨0, 0, 0⟩ from x5)
  have HT0 := Lib.hid t0
  have HSZ := Lib.hid (show w.heap.size + 1 + 1 < w0.heap.size from lt_of_block x8)
  have HB := Lib.hid hB
  have H8 := Lib.hid h8
  have HL := Lib.hid hl
  have HC := Lib.hid hc
  have HW := Lib.hid hw
  obtain ⟨Q, hQ⟩ : ∃ Q, UnpPost B h w = Q := ⟨_, rfl⟩
  rw [hQ]
  have HQ := Lib.hid hQ
  obtain ⟨nb, hnb⟩ : ∃ n, B.length = n := ⟨_, rfl⟩
  rw [hnb] at HW0 ⊢
  have HNB := Lib.hid hnb
  obtain ⟨r, hr⟩ : ∃ r, w.heap.size + 1 + 1 = r := ⟨_, rfl⟩
  rw [hr] at HTW HSZ
  have HR := Lib.hid hr
  clear x3 x5 x8 t0 hw0 hcur hw hB hc hlt h8 hl hQ hnb hr
  unfold H3.val arr3
  go_enter Try.func26, Try.ntmps26
  go_wp2_with fail
  rw [HW0.out, HR.out]
  refine HTW.out.mono ?_
  intro e w1 hp
  obtain ⟨rfl, hcur, t1⟩ := two_uni hp
  have hcur : Cur w1 83 r w.heap.size (q0 B).2.1 (q0 B).2.2 := hcur
  have H3B := Lib.hid (H3A.out.touch t1 (by have := HR.out; omega))
  have H5B := Lib.hid (H5A.out.touch t1 (by have := HR.out; omega))
  have T1 := Lib.hid (HT0.out.then t1 (fun i hi e => by have := HR.out; omega))
  have HS1 := Lib.hid (Nat.lt_of_lt_of_le HSZ.out t1.size)
  show _
  rw [show (twoQ false B).1 = (q0 B).1 from rfl]
  obtain ⟨n, hn⟩ : ∃ n, (q0 B).1 = n := ⟨_, rfl⟩
  obtain ⟨b0, hb0⟩ : ∃ n, (q0 B).2.1 = n := ⟨_, rfl⟩
  rw [hn]
  rw [hb0] at hcur
  have HN := Lib.hid hn
  have HB0 := Lib.hid hb0
  have HC1 := Lib.hid hcur
  obtain ⟨a9, b9, o9, c9, hh9, _⟩ := hcur.out
  obtain ⟨k0, k1⟩ := two_cells hh9
  clear hp hcur t1 hn hb0 hh9 HTW k0
  have hfail : ∀ W, Touch (fun _ => False) w W → Arr W (w.heap.size + 1) ⟨0, 0, 0⟩ → unpQ B h = none → Touch (fun _ => False) w (put3 W.drew (w.heap.size + 1) h) ∧ Arr (put3 W.drew (w.heap.size + 1) h) (w.heap.size + 1) h ∧ UnpPost B h w (.returned (.tuple #[.slice none 0 0, h.val, .int .i64 0, .bool false])) (put3 W.drew (w.heap.size + 1) h) := fun W hT hA hU => by
    have t' := hT.drew.then (touch_put3 W.drew (w.heap.size + 1) h) (fun i hi e => by omega)
    exact ⟨t', Arr.put (hA.touch ((Touch.refl (fun _ => False) W).drew) id) h, unp_no hU t'⟩
  have HFL := Lib.hid hfail
  clear hfail
  cases b0 with
  | true =>
    obtain ⟨y0, y1, y2⟩ := H3B.out.cells
    obtain ⟨m0, m1, m2⟩ := H5B.out.cells
    have j0 := H5B.out.free 0
    have j1 := H5B.out.free 1
    have j2 := H5B.out.free 2
    have HUN := Lib.hid (unpQ_none (h := h) (readQ_bad HB0.out))
    go_wp2_with fail
    go_region
    all_goals
      go_wp2_with fail
      obtain ⟨_, p2, p3⟩ := HFL.out _ T1.out H5B.out HUN.out
      refine bodyPost_ret (results_cell4 rfl _ _ _ _ _ rfl (Arr.load (h := h) (b := w.heap.size + 1) p2)) rfl ?_
      rw [← HQ.out]
      exact p3
  | false =>
    by_cases h5 : 500 < n
    · have hd5 : decide ((500 : Int) < n) = true := decide_eq_true (by omega)
      obtain ⟨y0, y1, y2⟩ := H3B.out.cells
      obtain ⟨m0, m1, m2⟩ := H5B.out.cells
      have j0 := H5B.out.free 0
      have j1 := H5B.out.free 1
      have j2 := H5B.out.free 2
      have HUN := Lib.hid (unpQ_none (h := h) (readQ_many (B := B) (by rw [HN.out]; exact h5)))
      go_wp2_with fail
      go_region
      all_goals
        go_wp2_with fail
        obtain ⟨_, p2, p3⟩ := HFL.out _ T1.out H5B.out HUN.out
        refine bodyPost_ret (results_cell4 rfl _ _ _ _ _ rfl (Arr.load (h := h) (b := w.heap.size + 1) p2)) rfl ?_
        rw [← HQ.out]
        exact p3
    have hd5 : decide ((500 : Int) < n) = false := decide_eq_false (by omega)
    have hn5 : n ≤ 500 := Nat.le_of_not_lt h5
    clear h5
    by_cases h0 : n = 0
    · subst h0
      obtain ⟨y0, y1, y2⟩ := H3B.out.cells
      obtain ⟨m0, m1, m2⟩ := H5B.out.cells
      have j0 := H5B.out.free 0
      have j1 := H5B.out.free 1
      have j2 := H5B.out.free 2
      have HUZ := Lib.hid (unpQ_zero (h := h) HB0.out HN.out)
      go_wp2_with fail
      go_region
      all_goals
        go_wp2_with fail
        have tp := touch_put3 w1.drew (w.heap.size + 1) h
        refine bodyPost_ret (results_cell4 rfl _ _ _ _ _ rfl (Arr.load (h := h) (b := w.heap.size + 1) (Arr.put (H5B.out.touch ((Touch.refl (fun _ => False) w1).drew) id) h))) rfl ?_
        rw [← HQ.out]
        refine ⟨T1.out.drew.then tp (fun i hi e => by omega), ?_⟩
        rw [HUZ.out]
        exact ⟨none, 0, 0, rfl, recs_none _ _ (Nat.zero_le _) _ (qz_wf HW.out) _, fun hh => absurd hh (Nat.lt_irrefl _)⟩
    have hz0 : ((n : Int) == 0) = false := by simpa using h0
    have hr1 := crow_walk w1 r w.heap.size false (q0 B).2.2 n HC1.out (sub8 (q0_sub H8.out).1 H8.out) (Nat.le_trans (q0_sub H8.out).1.length_le HL.out) hn5
    rw [show rowQ false (q0 B).2.2 n = q1 B from by unfold q1; rw [HB0.out, HN.out]] at hr1
    have HR1 := Lib.hid hr1
    clear hr1
    go_wp2_with fail
    refine HR1.out.mono ?_
    rintro e w2 ⟨⟨al, bl, cl, rfl, il, nel⟩, cu2, t2⟩
    have hr2 := crow_walk w2 r w.heap.size (q1 B).2.1 (q1 B).2.2 n cu2 (sub8 (q1_sub H8.out) H8.out) (Nat.le_trans (q1_sub H8.out).length_le HL.out) hn5
    rw [show rowQ (q1 B).2.1 (q1 B).2.2 n = q2 B from by unfold q2; rw [HN.out]] at hr2
    have HR2 := Lib.hid hr2
    have HIL := Lib.hid il
    have HNL := Lib.hid nel
    have T2 := Lib.hid t2
    clear hr2 il nel cu2 t2 HR1 k1
    go_wp2_with fail
    refine HR2.out.mono ?_
    rintro e w3 ⟨⟨ao, bo, co, rfl, io, neo⟩, cu3, t3⟩
    have hr3 := crow_walk w3 r w.heap.size (q2 B).2.1 (q2 B).2.2 n cu3 (sub8 (q2_sub H8.out) H8.out) (Nat.le_trans (q2_sub H8.out).length_le HL.out) hn5
    rw [show rowQ (q2 B).2.1 (q2 B).2.2 n = q3 B from by unfold q3; rw [HN.out]] at hr3
    have HR3 := Lib.hid hr3
    have HIO := Lib.hid io
    have HNO := Lib.hid neo
    have T3 := Lib.hid t3
    clear hr3 io neo cu3 t3 HR2
    go_wp2_with fail
    refine HR3.out.mono ?_
    rintro e w4 ⟨⟨am, bm, cm, rfl, im, nem⟩, cu4, t4⟩
    have HTW := Lib.hid (ctwo_walk w4 r w.heap.size (q3 B).2.1 (q3 B).2.2 cu4 (sub8 (q3_sub H8.out) H8.out) (by have := (q3_sub H8.out).length_le; have := HL.out; omega))
    have HIM := Lib.hid im
    have HNM := Lib.hid nem
    have T4 := Lib.hid t4
    clear im nem cu4 t4 HR3
    go_wp2_with fail
    refine HTW.out.mono ?_
    intro e w5 hp
    obtain ⟨rfl, hcur, t5⟩ := two_uni hp
    have HTK := Lib.hid (ctake_walk w5 r w.heap.size (q4 B).2.1 (q4 B).2.2 hcur (q4 B).1 (by have := (q4_sub H8.out).2; omega) (by have := (q4_sub H8.out).1.length_le; have := HL.out; omega))
    have T5 := Lib.hid t5
    show _
    rw [show (twoQ (q3 B).2.1 (q3 B).2.2).1 = (q4 B).1 from rfl]
    clear hp hcur t5 HTW
    go_wp2_with fail
    refine HTK.out.mono ?_
    intro e w6 hp
    obtain ⟨ab, bb, ob, cb, rfl, hbb, hltb, hcur6, t6⟩ := take_uni hp
    have hbb : BytesAt w6 ab bb ob (q5 B).1 := hbb
    have hcur6 : Cur w6 83 r w.heap.size (q5 B).2.1 (q5 B).2.2 := hcur6
    have hltb : 0 < (q5 B).1.length → bb < w.heap.size := hltb
    have hsn := seen_list hbb (q5_sub H8.out).2.1
    have hnew : Calls Try.prog 54 #[.slice ab (q5 B).1.length cb] w6 (RNewPost w6 (.slice ab (q5 B).1.length cb) (manyIn (zB (q5 B).1) (q5 B).1.length)) := rnewr_any ab bb ob (q5 B).1.length cb (zB (q5 B).1) w6 hsn (by have := (q5_sub H8.out).2.2; omega)
    have HNEW := Lib.hid hnew
    have HC6 := Lib.hid hcur6
    have HSN := Lib.hid hsn
    have HLB := Lib.hid hltb
    have t16 := ((((T2.out.trans T3.out).trans T4.out).trans T5.out).trans t6)
    have TW6 := Lib.hid (T1.out.then t16 (fun i hi e => by have := HR.out; omega))
    have H36 := Lib.hid (H3B.out.touch t16 (by have := HR.out; omega))
    have H56 := Lib.hid (H5B.out.touch t16 (by have := HR.out; omega))
    have HIL6 := Lib.hid (Ints.touchS HIL.out (((T3.out.trans T4.out).trans T5.out).trans t6) HNL.out)
    have HIO6 := Lib.hid (Ints.touchS HIO.out ((T4.out.trans T5.out).trans t6) HNO.out)
    have HIM6 := Lib.hid (Ints.touchS HIM.out (T5.out.trans t6) HNM.out)
    have HRS := Lib.hid (Nat.lt_of_lt_of_le HS1.out t16.size)
    rw [show (takeQ (q4 B).2.1 (q4 B).2.2 (q4 B).1).1 = (q5 B).1 from rfl]
    clear hp hbb hltb hcur6 t6 hsn hnew t16 HTK T2 T3 T4 T5 HIL HIO HIM HC1
    go_wp2_with fail
    refine HNEW.out.mono ?_
    intro e w7 hp
    have hq6 := q6_many B
    cases hmm : manyIn (zB (q5 B).1) (q5 B).1.length with
    | none =>
      rw [hmm] at hp hq6
      obtain ⟨rfl, rfl⟩ := hp
      obtain ⟨a9, b9, o9, c9, hh9, _⟩ := HC6.out.out
      obtain ⟨k0, k1⟩ := two_cells hh9
      obtain ⟨y0, y1, y2⟩ := H36.out.cells
      obtain ⟨m0, m1, m2⟩ := H56.out.cells
      have j0 := H56.out.free 0
      have j1 := H56.out.free 1
      have j2 := H56.out.free 2
      have HUN := Lib.hid (unpQ_none (h := h) (readQ_head (B := B) (by rw [HN.out]; exact h0) (by unfold headOk; rw [hq6]; simp)))
      obtain ⟨b5, hb5⟩ : ∃ b, (q5 B).2.1 = b := ⟨_, rfl⟩
      rw [hb5] at k1
      clear hh9 hq6 hmm k0 hb5
      cases b5 <;>
      · go_wp2_with fail
        go_region
        all_goals
          go_wp2_with fail
          obtain ⟨_, p2, p3⟩ := HFL.out _ TW6.out H56.out HUN.out
          refine bodyPost_ret (results_cell4 rfl _ _ _ _ _ rfl (Arr.load (h := h) (b := w.heap.size + 1) p2)) rfl ?_
          rw [← HQ.out]
          exact p3
    | some M =>
      rw [hmm] at hp hq6
      obtain ⟨rfl, hrd, t7⟩ := hp
      have hb5 := q6_bad hq6
      have hho : headOk B = true := by unfold headOk; rw [hb5, hq6]; rfl
      obtain ⟨_, hqE, hl1, hl2, hl3⟩ := head_ok hho
      have hE : readBits (zB (q5 B).1) M = qE B := by rw [hq6] at hqE; exact Option.some.inj hqE
      obtain ⟨t, ht⟩ : ∃ t, w6.heap.size = t := ⟨_, rfl⟩
      rw [ht] at hrd ⊢
      have hML := (manyIn_le (zB_lt (q5_sub H8.out).2.1) hmm).1
      rw [HN.out] at hl1 hl2 hl3
      have hnp : 0 < n := Nat.pos_of_ne_zero h0
      have il7 := (row_code (B := B) (j := 0) HIL6.out hl1 (by decide) rfl).touch t7
      have io7 := (row_code (B := B) (j := 1) HIO6.out hl2 (by decide) rfl).touch t7
      have im7 := (row_code (B := B) (j := 2) HIM6.out hl3 (by decide) rfl).touch t7
      have hbl := ints_lt HIL6.out (by rw [hl1]; exact hnp)
      have hbo := ints_lt HIO6.out (by rw [hl2]; exact hnp)
      have hbm := ints_lt HIM6.out (by rw [hl3]; exact hnp)
      have hnl := HNL.out (by rw [hl1]; exact hnp)
      have hno := HNO.out (by rw [hl2]; exact hnp)
      have hnm := HNM.out (by rw [hl3]; exact hnp)
      have hc7 := HC6.out.touch t7 id (fun _ hh => hh.elim)
      rw [hb5] at hc7
      have hlb0 : 0 < (q5 B).1.length := (manyIn_le (zB_lt (q5_sub H8.out).2.1) hmm).2
      have hcv : CvI B r w.heap.size t ab bb ob cb 0 w7 := ⟨hc7, ⟨M, hrd, hE, hML⟩, HSN.out.touch t7 id⟩
      have hrt : r < t := by rw [← ht]; exact HRS.out
      have hDI : DocI B r w.heap.size t ab bb ob cb w7 0 (.slice none 0 0) (.slice none 0 0) w7 := ⟨hcv, World.ownsRow_nil _ _ _ _, World.ownsRow_nil _ _ _ _, OwnB.nil _, OwnB.nil _, Touch.refl _ _⟩
      have ht7 : t < w7.heap.size := lt_of_block hrd.cell
      have HCEL := Lib.hid (show ∀ k, k < n → ∀ W, Touch (fun q => q = r ∨ q = t) w7 W → W.cell? ⟨bl, k, none⟩ = some (.int .i64 ((qc B (3 * k) : Nat) : Int)) ∧ W.cell? ⟨bo, k, none⟩ = some (.int .i64 ((qc B (3 * k + 1) : Nat) : Int)) ∧ W.cell? ⟨bm, k, none⟩ = some (.int .i64 ((qc B (3 * k + 2) : Nat) : Int)) from fun k hk W hW => by
        have z1 := il7.cell k hk
        have z2 := io7.cell k hk
        have z3 := im7.cell k hk
        rw [Nat.zero_add] at z1 z2 z3
        exact ⟨rt_cell z1 hW hnl (by omega), rt_cell z2 hW hno (by omega), rt_cell z3 hW hnm (by omega)⟩)
      have HAT := Lib.hid (show al = some ⟨bl, 0, none⟩ ∧ ao = some ⟨bo, 0, none⟩ ∧ am = some ⟨bm, 0, none⟩ from ⟨il7.at_ hnp, io7.at_ hnp, im7.at_ hnp⟩)
      have HDI := Lib.hid hDI
      have HHO := Lib.hid hho
      have HGB := Lib.hid (show bb < w.heap.size ∧ w.heap.size ≤ r ∧ r < t ∧ t < w7.heap.size ∧ r < w7.heap.size ∧ w.heap.size ≤ w7.heap.size ∧ (q5 B).1.length ≤ 65535 from ⟨HLB.out hlb0, by have := HR.out; omega, hrt, ht7, by omega, by have := HR.out; omega, (q5_sub H8.out).2.2⟩)
      have HLN := Lib.hid (And.intro hl1 (And.intro hl2 hl3))
      have TW7 := Lib.hid (TW6.out.trans t7)
      have H37 := Lib.hid (H36.out.touch t7 id)
      have H57 := Lib.hid (H56.out.touch t7 id)
      obtain ⟨a9, b9, o9, c9, hh9, _⟩ := hc7.out
      obtain ⟨k0, k1⟩ := two_cells hh9
      rw [hl1, hl2, hl3]
      obtain ⟨rfl, rfl, rfl⟩ := HAT.out
      clear hrd t7 hb5 hqE hl1 hl2 hl3 hE ht hML hnp il7 io7 im7 hbl hbo hbm hnl hno hnm hc7 hlb0 hcv hrt hDI ht7 hho hq6 hmm hh9 k0 HNEW
      go_wp2_with fail
      clear k1
      go_loopw [15, 16, 17] (fun lv vv iv wx => ∃ (k : Nat) (vl v2 : Value), k ≤ n ∧ iv = .int .i64 k ∧ lv = vl ∧ vv = v2 ∧ DocI B r w.heap.size t ab bb ob cb w7 k vl v2 wx) (fun _ _ iv _ => n - (intOf iv).toNat)
      case atStart => exact ⟨0, _, _, Nat.zero_le _, rfl, rfl, rfl, HDI.out⟩
      case round =>
        obtain ⟨k, vl, v2, hk, rfl, rfl, rfl, hD⟩ := hrel
        have HD := Lib.hid hD
        clear hD HDI
        obtain ⟨a9, b9, o9, c9, hh9, _⟩ := HD.out.cv.cur.out
        obtain ⟨k0, k1⟩ := two_cells hh9
        clear hh9 k0
        obtain ⟨ek, hek⟩ : ∃ b, exK (qc B) (qE B) (3 * k) = b := ⟨_, rfl⟩
        rw [hek] at k1
        have HEK := Lib.hid hek
        clear hek
        have hall : k ≤ n := hk
        by_cases hlt : k < n
        · cases ek with
          | true =>
            have c1 := (HCEL.out k hlt wr HD.out.touch).1
            obtain ⟨g1, g2, g3, g4, g5, g6, g7⟩ := HGB.out
            have HS1 := Lib.hid (cv_step HD.out.cv g1 g2 g3 g7)
            have HM := Lib.hid (meas_u hlt)
            have HLT := Lib.hid hlt
            have fu1 := wrap_suc k (Nat.le_trans hk (Nat.le_trans hn5 (by decide)))
            clear g1 g2 g3 g4 g5 g6 g7 hk hall
            go_wp2_with fail
            refine HS1.out.mono ?_
            rintro e w8 ⟨rfl, cv8, t8⟩
            obtain ⟨x, hx⟩ : ∃ x : Nat, exV (qc B) (qE B) (3 * k) = x := ⟨_, rfl⟩
            rw [hx]
            have hB0 := DocI.start (x := (x : Int)) HD.out HGB.out.2.2.2.2.1 HGB.out.2.2.2.1 HGB.out.2.2.1 HGB.out.1 HGB.out.2.1 cv8 t8
            have c2 := (HCEL.out k HLT.out _ hB0.touch).2.1
            have HX := Lib.hid hx
            have HB0' := Lib.hid hB0
            have HS2 := Lib.hid (cv_step hB0.cv HGB.out.1 HGB.out.2.1 HGB.out.2.2.1 HGB.out.2.2.2.2.2.2)
            clear cv8 t8 hx hB0 c1 HS1
            go_wp2_with fail
            refine HS2.out.mono ?_
            rintro e w9 ⟨rfl, cv9, t9⟩
            obtain ⟨y, hy⟩ : ∃ x : Nat, exV (qc B) (qE B) (3 * k + 1) = x := ⟨_, rfl⟩
            rw [hy]
            have hB1 := HB0'.out.call HGB.out.2.2.2.2.1 HGB.out.2.2.2.1 HGB.out.2.2.1 cv9 t9
            have HB1' := Lib.hid hB1
            have HY := Lib.hid (show valD B k = (y : Int) from by unfold valD; rw [hy])
            have HAP := Lib.hid (app_500 HLT.out hn5)
            clear hB1 cv9 t9 hy c2 HS2
            obtain ⟨i0, hi, hz0', hz1, hz2⟩ := H3I.out
            go_wp2_with (refine wpList_append_mine rfl (.tmp 89) (.tmp 97) 43 43 rfl 3 i0 (.int .i64 0) 1 8 Try.underlying43 hi hz0' hz1 hz2 rfl u16 k _ rfl (HB1'.out.new HGB.out.1 _).rv _ 1 [.int .i64 y] rfl (src_one w9 Try.underlying43 _ rfl _ rfl) HAP.out.1 HAP.out.2 ?_; intro a6 c6 w10 hown6 ht6 hf6 _; have HB2 := Lib.hid ((HB1'.out.new HGB.out.1 _).val HGB.out.1 HGB.out.2.2.2.2.1 HGB.out.2.2.2.1 HGB.out.2.2.2.2.2.1 HY.out hown6 ht6 hf6); have c3 := (HCEL.out k HLT.out _ HB2.out.touch).2.2; clear hown6 ht6 hf6 hi hz0' hz1 hz2)
            have HS3 := Lib.hid (cv_step HB2.out.cv HGB.out.1 HGB.out.2.1 HGB.out.2.2.1 HGB.out.2.2.2.2.2.2)
            refine HS3.out.mono ?_
            rintro e w11 ⟨rfl, cv11, t11⟩
            have hb2 := exV_bd (qc_32 B) (qE B) (3 * k + 2)
            obtain ⟨v, hv⟩ : ∃ x : Nat, exV (qc B) (qE B) (3 * k + 2) = x := ⟨_, rfl⟩
            rw [hv] at hb2
            have hvv : exV (qc B) (qE B) (3 * k + 1 + 1) = v := hv
            rw [hvv]
            have fw := wrap_four hb2
            have hB3 := HB2.out.call HGB.out.2.2.2.2.1 HGB.out.2.2.2.1 HGB.out.2.2.1 cv11 t11
            have hB4 := hB3.more HGB.out.1 HGB.out.2.2.2.2.1 HGB.out.2.2.2.1 HGB.out.2.2.1 HGB.out.2.1 ((v : Int) + 4)
            obtain ⟨z0, z1, z2⟩ := three_cells hB3.blk
            have zf := three_free hB3.blk 2
            obtain ⟨z0', z1', z2'⟩ := three_cells hB4.blk
            have HB4 := Lib.hid hB4
            have HXV := Lib.hid (show ((exV (qc B) (qE B) (3 * k) : Int), (0 : Int), (exV (qc B) (qE B) (3 * k + 2) : Int) + 4) = ((x : Int), 0, (v : Int) + 4) from by rw [HX.out, hv])
            have HAP3 := Lib.hid (app3_500 HLT.out hn5)
            clear hB3 hB4 cv11 t11 hb2 hv hvv c3 HS3
            obtain ⟨i0', hi, hz0', hz1, hz2⟩ := H42.out
            go_wp2_with (refine wpList_append_mine rfl (.tmp 108) (.tmp 110) 29 29 rfl 42 i0' (.agg #[.int .i64 0, .int .i64 0, .int .i64 0]) 3 24 Try.underlying29 hi hz0' hz1 hz2 rfl u15 k _ rfl (HB4.out.new HGB.out.1 _).rl _ 1 [.int .i64 x, .int .i64 0, .int .i64 ((v : Int) + 4)] rfl (src_cells w11.heap.size Try.underlying29 [.int .i64 x, .int .i64 0, .int .i64 ((v : Int) + 4)] (by simp [Value.oneCell']) _ (heap_set_new w11 _ _ _)) HAP3.out.1 HAP3.out.2 ?_; intro a7 c7 w12 hown7 ht7 hf7 _; have HDN := Lib.hid ((HB4.out.new HGB.out.1 _).done HGB.out.1 HGB.out.2.2.2.2.1 HGB.out.2.2.2.1 HGB.out.2.2.2.2.2.1 HXV.out hown7 ht7 hf7); clear hown7 ht7 hf7 hi hz0' hz1 hz2 z0 z1 z2 z0' z1' z2' zf)
            go_roundw
            case rel => exact ⟨k + 1, _, _, HLT.out, by first | rfl | (rw [fu1]; go_num) | go_num, rfl, rfl, HDN.out⟩
            case measure => first | exact HM.out | (rw [fu1]; exact HM.out)
          | false =>
            have HEX := Lib.hid (show exK (qc B) (qE B) (3 * k) = true → k = n from fun hh => by rw [HEK.out] at hh; cases hh)
            have hkn : k ≤ n := hall
            obtain ⟨xa, xb, xc, hvx, hx⟩ := ints_row HD.out.rv
            have HX := Lib.hid hx
            have HBK := ref_back wr xa xb 0 k xc (valD B) hx h (Nat.le_trans hkn (Nat.le_trans hn5 (by decide))) (fun i hi => by have := exV_bd (qc_32 B) (qE B) (3 * i + 1); unfold valD; omega)
            obtain ⟨la, lg, lc, hvl, hlay⟩ := doc_form (h := h) HD.out.rl HD.out.ol
            have h3w := H37.out.touch HD.out.touch (rt_ne HGB.out.2.1 HGB.out.2.2.1 HR.out)
            have h5w := H57.out.touch HD.out.touch (rt_ne5 HGB.out.2.1 HGB.out.2.2.1 HR.out)
            have TWr := Lib.hid (rt_out TW7.out HD.out.touch HGB.out.2.1 HGB.out.2.2.1)
            have hcu := HD.out.cv.cur
            obtain ⟨y0, y1, y2⟩ := h3w.cells
            have H3W := Lib.hid h3w
            have H5W := Lib.hid h5w
            have HLAY := Lib.hid hlay
            have HCU := Lib.hid hcu
            have HKN := Lib.hid hkn
            unfold H3.val arr3 at HBK
            have HBKH := Lib.hid HBK
            subst hvx hvl
            clear hx hlay h3w h5w hcu HBK hkn hall hk
            go_wp2_with fail
            refine HBKH.out.mono ?_
            rintro e w8 ⟨v8, rfl, hO⟩
            obtain ⟨HF, hHF⟩ : ∃ HF, histB (valD B) h k = HF := ⟨_, rfl⟩
            rw [hHF]
            have HHF := Lib.hid hHF
            have t8 := hO.touch
            have tn := Touch.new w8 (.cells #[.int .i64 HF.a, .int .i64 HF.b, .int .i64 HF.c] 31)
            obtain ⟨ya, yb, yc, hvy, hy⟩ := ints_row hO.row
            have HYY := Lib.hid (hy.touch tn)
            have HP20 := Lib.hid (arr_new w8 HF)
            have HLY9 := Lib.hid ((HLAY.out.touch t8).touch tn)
            have HCU9 := Lib.hid ((HCU.out.touch t8 id (fun _ hh => hh.elim)).touch tn id (fun _ hh => hh.elim))
            have H39 := Lib.hid ((H3W.out.touch t8 id).touch tn id)
            have H59 := Lib.hid ((H5W.out.touch t8 id).touch tn id)
            have T9 := Lib.hid ((TWr.out.trans t8).trans tn)
            have hS8 : r < w8.heap.size := Nat.lt_of_lt_of_le (Nat.lt_of_lt_of_le (Nat.lt_trans HGB.out.2.2.1 HGB.out.2.2.2.1) HD.out.touch.size) t8.size
            have HS8 := Lib.hid hS8
            have HYG := Lib.hid (show 0 < k → wr.heap.size ≤ yb from fun hp => by
              have := hO.own
              rw [hvy] at this
              exact own_ge this hy hp)
            have HGL := Lib.hid (show 0 < k → lg < wr.heap.size from fun hp => RowAt.lt (HLAY.out.at_ hp).2.1)
            subst hvy
            obtain ⟨P20, hP20⟩ : ∃ q, w8.heap.size = q := ⟨_, rfl⟩
            rw [hP20] at HP20 HS8
            obtain ⟨w9, hw9⟩ : ∃ w9, w8.alloc (.cells #[.int .i64 HF.a, .int .i64 HF.b, .int .i64 HF.c] 31) = w9 := ⟨_, rfl⟩
            rw [hw9] at HYY HP20 HLY9 HCU9 H39 H59 T9
            have HW9 := Lib.hid (And.intro hw9 hP20)
            have HN5 := Lib.hid hn5
            have HN0' := Lib.hid h0
            have hW8 : wr.heap.size ≤ w8.heap.size := t8.size
            have HW8 := Lib.hid hW8
            clear hW8 hO t8 tn hy hHF hS8 hP20 hw9 y0 y1 y2 HBKH HX H3W H5W HCU hn5 h0 hz0 hd5 hlt k1
            go_wp2_with fail
            rw [HW9.out.1]
            rw [HW9.out.2]
            obtain ⟨wrOld, hwo⟩ : ∃ W, W = wr := ⟨_, rfl⟩
            rw [← hwo] at HW8 HGL HYG
            go_loopw [21] (fun iv wx => ∃ j : Nat, j ≤ k ∧ iv = .int .i64 j ∧ LayI B h w7 k j la lg lc wx ∧ Touch (fun q => q = lg ∧ 0 < k) w9 wx) (fun iv _ => k - (intOf iv).toNat)
            case atStart => exact ⟨0, Nat.zero_le _, rfl, HLY9.out, Touch.refl _ _⟩
            case round =>
              obtain ⟨j, hj, rfl, hLJ, htJ⟩ := hrel
              have HLJ := Lib.hid hLJ
              have HTJ := Lib.hid htJ
              clear hLJ htJ
              by_cases hjl : j < k
              · have hkp : 0 < k := Nat.lt_of_le_of_lt (Nat.zero_le _) hjl
                obtain ⟨l1, l2, l3⟩ := HLJ.out.at_ hkp
                subst l1
                obtain rfl := HYY.out.at_ hkp
                have e1 := HTJ.out.cell (HYY.out.cell j hjl) (fun e => by have h1 := HYG.out hkp; have h2 := HGL.out hkp; have h3 := e.1; dsimp only at h3; omega)
                rw [Nat.zero_add] at e1
                have e2 := RowAt.get l2 (i := j * 3 + 1) (by omega)
                have f2 := RowAt.free l2 (j * 3 + 1)
                have HNX := Lib.hid (HLJ.out.next hjl)
                have HTN := Lib.hid (HTJ.out.trans ((touch_cell wr lg (j * 3 + 1) (.int .i64 (valB (valD B) h j))).mono (fun q _ e => ⟨e, hkp⟩)))
                obtain ⟨vb, hvb⟩ : ∃ x, valB (valD B) h j = x := ⟨_, rfl⟩
                rw [hvb] at e1 HNX HTN
                have HM := Lib.hid (meas_u hjl)
                have HLT := Lib.hid hjl
                have fu1 := wrap_suc j (Nat.le_trans hj (Nat.le_trans HKN.out (Nat.le_trans HN5.out (by decide))))
                clear l2 l3 hvb hkp hj
                go_wp2_with fail
                go_roundw
                case rel => exact ⟨j + 1, HLT.out, by first | rfl | (rw [fu1]; go_num) | go_num, HNX.out, HTN.out⟩
                case measure => first | exact HM.out | (rw [fu1]; exact HM.out)
              · obtain rfl : j = k := Nat.le_antisymm hj (Nat.not_lt.1 hjl)
                clear hjl hj
                have hne : ∀ q, (q < w7.heap.size ∨ wrOld.heap.size ≤ q) → ¬ (q = lg ∧ 0 < j) := fun q hq e => by
                  have h1 := (HLJ.out.at_ e.2).2.2
                  have h2 := HGL.out e.2
                  have h3 := e.1
                  omega
                have h7 := HGB.out.2.2.2.2.1
                have hw7 := HGB.out.2.2.2.2.2.1
                have hcr := HCU9.out.touch HTJ.out (hne r (.inl h7)) (fun q e => by have := (HLJ.out.at_ e.2).2.2; have := e.1; omega)
                have h3r := H39.out.touch HTJ.out (hne _ (.inl (Nat.lt_of_le_of_lt HGB.out.2.1 h7)))
                have h5r := H59.out.touch HTJ.out (hne _ (.inl (by have := HR.out; omega)))
                have h20 := HP20.out.touch HTJ.out (hne P20 (.inr (by rw [← HW9.out.2]; exact HW8.out)))
                have hrec := HLJ.out.recs HW.out HN.out HKN.out
                have htt := T9.out.then HTJ.out (fun i hi e => by have := (HLJ.out.at_ e.2).2.2; have := e.1; omega)
                obtain ⟨a9, b9, o9, c9, hh9, _⟩ := hcr.out
                obtain ⟨k0, k1⟩ := two_cells hh9
                obtain ⟨y0, y1, y2⟩ := h3r.cells
                have hl5 := (q5_sub H8.out).1.length_le
                rw [HNB.out] at hl5
                obtain ⟨n5, hn5'⟩ : ∃ x, (q5 B).2.2.length = x := ⟨_, rfl⟩
                rw [hn5'] at k0 hl5
                have fsub := wrap_subN hl5 (by rw [← HNB.out]; exact HL.out)
                have HPK := Lib.hid (rpack_walk wr la lg 0 j lc (qz B h) hrec h (Nat.le_trans HKN.out (Nat.le_trans HN5.out (by decide))))
                have HREC := Lib.hid hrec
                have HCR := Lib.hid hcr
                have H3R := Lib.hid h3r
                have H5R := Lib.hid h5r
                have H20 := Lib.hid h20
                have HTT := Lib.hid htt
                have HN55 := Lib.hid hn5'
                have HL5 := Lib.hid hl5
                unfold H3.val arr3 at HPK
                clear hne h7 hw7 hcr h3r h5r h20 hrec htt hh9 hn5' hl5
                go_wp2_with fail
                refine HPK.out.mono ?_
                intro e w10 hp
                obtain ⟨a2, b2, c2, rfl, hb2, hbo2, ht2⟩ := pack_out hp
                obtain ⟨H2, hH2⟩ : ∃ H2, packH (qz B h) h j = H2 := ⟨_, rfl⟩
                obtain ⟨L, hL⟩ : ∃ L, packL (qz B h) h j = L := ⟨_, rfl⟩
                obtain ⟨K, hK⟩ : ∃ K, packOk (qz B h) j = K := ⟨_, rfl⟩
                rw [hH2, hL, hK]
                rw [hL] at hb2
                obtain ⟨nl, hnl⟩ : ∃ x, L.length = x := ⟨_, rfl⟩
                rw [hnl]
                have tn := Touch.new w10 (.cells #[.int .i64 H2.a, .int .i64 H2.b, .int .i64 H2.c] 31)
                have t11 := ht2.trans tn
                have HT11 := Lib.hid (HTT.out.trans t11)
                have HREC11 := Lib.hid (recs_touch HREC.out t11)
                have hcr11 := HCR.out.touch t11 id (fun _ hh => hh.elim)
                have H311 := Lib.hid (H3R.out.touch t11 id)
                have H511 := Lib.hid (H5R.out.touch t11 id)
                have H2011 := Lib.hid (H20.out.touch t11 id)
                have HL11 := Lib.hid (hb2.touch tn)
                obtain ⟨w11, hw11⟩ : ∃ W, w10.alloc (.cells #[.int .i64 H2.a, .int .i64 H2.b, .int .i64 H2.c] 31) = W := ⟨_, rfl⟩
                rw [hw11] at HT11 HREC11 hcr11 H311 H511 H2011 HL11
                have HB11 := Lib.hid (Ints.touch HB.out HT11.out)
                have HW11 := Lib.hid hw11
                obtain ⟨a9, b9, o9, c9, hh9, _⟩ := hcr11.out
                obtain ⟨_, k1⟩ := two_cells hh9
                obtain ⟨y0, y1, y2⟩ := H311.out.cells
                obtain ⟨m0, m1, m2⟩ := H511.out.cells
                have j0 := H511.out.free 0
                have j1 := H511.out.free 1
                have j2 := H511.out.free 2
                obtain ⟨s0, s1, s2⟩ := H2011.out.cells
                have HHH := Lib.hid (And.intro hH2 (And.intro hL (And.intro hK hnl)))
                clear hp hbo2 hb2 tn t11 hcr11 hw11 hh9 hH2 hL hK hnl ht2
                unfold H3.val arr3
                cases hee : exK (qc B) (qE B) (3 * j) with
                | false =>
                  have HUN := Lib.hid (show unpQ B h = none from unpQ_none (readQ_ex HB0.out HN.out HN0'.out HN5.out (by
                    cases hh : exK (qc B) (qE B) (3 * n) with
                    | false => rfl
                    | true => rw [exK_down (Nat.mul_le_mul_left 3 HKN.out) hh] at hee; cases hee)))
                  rw [hee] at k1
                  have hk1 : (!false) = true := rfl
                  rw [hk1] at k1
                  clear hee hk1
                  go_wp2_with fail
                  rw [HW11.out]
                  go_quiet (fail)
                  all_goals
                    go_wp2_with fail
                    go_region
                    all_goals
                      go_wp2_with fail
                      have tq := Touch.eq_drewN (S := fun _ => False) w11 nq
                      obtain ⟨_, p2, p3⟩ := HFL.out _ (HT11.out.trans tq) (H511.out.touch tq id) HUN.out
                      refine bodyPost_ret (results_cell4 rfl _ _ _ _ _ rfl (Arr.load (h := h) (b := w.heap.size + 1) p2)) rfl ?_
                      rw [← HQ.out]
                      exact p3
                | true =>
                  have hkn' := HEX.out hee
                  have HRQ := Lib.hid (readQ_go HB0.out HN.out HN0'.out HN5.out HHO.out (by rw [← hkn']; exact hee))
                  have HKE := Lib.hid hkn'
                  rw [hee] at k1
                  have hk1 : (!true) = false := rfl
                  rw [hk1] at k1
                  clear hee hk1 hkn'
                  cases K with
                  | false =>
                    have HUN := Lib.hid (unpQ_pack HRQ.out (by rw [← HKE.out]; exact HHH.out.2.2.1))
                    go_wp2_with fail
                    rw [HW11.out]
                    go_quiet (fail)
                    all_goals
                      go_wp2_with fail
                      go_region
                      all_goals
                        go_wp2_with fail
                        have tq := Touch.eq_drewN (S := fun _ => False) w11 nq
                        obtain ⟨_, p2, p3⟩ := HFL.out _ (HT11.out.trans tq) (H511.out.touch tq id) HUN.out
                        refine bodyPost_ret (results_cell4 rfl _ _ _ _ _ rfl (Arr.load (h := h) (b := w.heap.size + 1) p2)) rfl ?_
                        rw [← HQ.out]
                        exact p3
                  | true =>
                    obtain ⟨e1, e2, e3, e4⟩ := HHH.out
                    have hLB : L = packB (qz B h) h j := by rw [← e2]; unfold packL; rw [if_pos e3]
                    obtain ⟨ds1, ds2⟩ := doc_same (h := h) HRQ.out (by rw [← HKE.out]; exact e3)
                    rw [← HKE.out] at ds1 ds2
                    rw [← hLB] at ds1 ds2
                    have hszz : B.length - (q5 B).2.2.length = nb - n5 := by rw [HNB.out, HN55.out]
                    rw [hszz] at ds1 ds2
                    have hT8 : ∀ x ∈ B.take (nb - n5), x < 256 := fun x hx => H8.out x (List.mem_of_mem_take hx)
                    have hL8 : ∀ x ∈ L, x < 256 := by rw [hLB]; exact pack_256 e3
                    have hc1 := fun m => conv_list (HL11.out.touch (Touch.eq_drewN (S := fun _ => False) w11 m)) c2 e4
                    have hsle : nb - n5 ≤ B.length := by rw [HNB.out]; exact Nat.sub_le _ _
                    have hc2 := fun m => conv_list (bytes_take (Ints.touch HB11.out (Touch.eq_drewN (S := fun _ => False) w11 m)) hsle) c (n := nb - n5) (by rw [List.length_take]; exact Nat.min_eq_left hsle)
                    have hcap : nb - n5 ≤ c := Nat.le_trans hsle HC.out
                    have HDS := Lib.hid (And.intro ds1 ds2)
                    have HLB2 := Lib.hid hLB
                    by_cases hs : L = B.take (nb - n5)
                    · have hpre := HDS.out.1.1 hs
                      have HUY := Lib.hid (show unpQ B h = some j from by rw [HKE.out]; exact unpQ_yes HRQ.out (by rw [← HKE.out]; exact e3) (by rw [← HKE.out, ← hLB]; exact hpre))
                      have HFIN := Lib.hid (HDS.out.2 hpre)
                      simp only [← hs] at hc2
                      clear hpre ds1 ds2 hLB hT8 hL8 hszz hs e1 e2 e3 e4 hsle
                      go_wp2_with fail
                      rw [HW11.out]
                      go_quiet (fail)
                      all_goals
                        go_wp2_with fail
                        go_region
                        all_goals
                          go_wp2_with fail
                          have tq := (Touch.eq_drewN (S := fun _ => False) w11 nq).drew
                          have ha := Arr.put (H511.out.touch tq id) HF
                          have tp := touch_put3 (w11.drewN nq).drew (w.heap.size + 1) HF
                          refine bodyPost_ret (results_cell4 rfl _ _ _ _ _ rfl (Arr.load (h := HF) (b := w.heap.size + 1) ha)) rfl ?_
                          rw [← HQ.out]
                          refine ⟨(HT11.out.trans tq).then tp (fun i hi e => by omega), ?_⟩
                          rw [HUY.out]
                          refine ⟨la, lg, lc, ?_, recs_put (recs_touch HREC11.out tq) tp (fun hp e => ?_), fun hp => ?_⟩
                          · rw [← HLB2.out, ← HFIN.out.1]
                            have hh2 := HFIN.out.2
                            rw [show histO (fun i => qz B h i 1) h j = HF from hh2.symm.trans HHF.out]
                            rfl
                          · have h1 := (HLJ.out.at_ hp).2.2
                            have h2 := HGB.out.2.2.2.2.1
                            have h3 := HR.out
                            omega
                          · exact Nat.le_trans HGB.out.2.2.2.2.2.1 (HLJ.out.at_ hp).2.2
                    · have hq1 := str_ne hL8 hT8 hs
                      obtain ⟨S1, hS1⟩ : ∃ x, strL L = x := ⟨_, rfl⟩
                      obtain ⟨S2, hS2⟩ : ∃ x, strL (B.take (nb - n5)) = x := ⟨_, rfl⟩
                      rw [hS1, hS2] at hq1
                      simp only [hS1] at hc1
                      simp only [hS2] at hc2
                      have HUN := Lib.hid (unpQ_pre (h := h) HRQ.out (by rw [← HKE.out, ← hLB]; exact fun hp => hs (HDS.out.1.2 hp)))
                      clear ds1 ds2 hLB hT8 hL8 hszz e1 e2 e3 e4 hsle hs hS1 hS2
                      go_wp2_with fail
                      rw [HW11.out]
                      go_quiet (fail)
                      all_goals
                        clear hq1 hc1 hc2 hcap
                        go_wp2_with fail
                        go_region
                        all_goals
                          go_wp2_with fail
                          have tq := Touch.eq_drewN (S := fun _ => False) w11 nq
                          obtain ⟨_, p2, p3⟩ := HFL.out _ (HT11.out.trans tq) (H511.out.touch tq id) HUN.out
                          refine bodyPost_ret (results_cell4 rfl _ _ _ _ _ rfl (Arr.load (h := h) (b := w.heap.size + 1) p2)) rfl ?_
                          rw [← HQ.out]
                          exact p3
        · have HEX := Lib.hid (show exK (qc B) (qE B) (3 * k) = true → k = n from fun _ => Nat.le_antisymm hall (Nat.not_lt.1 hlt))
          have hkn : k ≤ n := hall
          obtain ⟨xa, xb, xc, hvx, hx⟩ := ints_row HD.out.rv
          have HX := Lib.hid hx
          have HBK := ref_back wr xa xb 0 k xc (valD B) hx h (Nat.le_trans hkn (Nat.le_trans hn5 (by decide))) (fun i hi => by have := exV_bd (qc_32 B) (qE B) (3 * i + 1); unfold valD; omega)
          obtain ⟨la, lg, lc, hvl, hlay⟩ := doc_form (h := h) HD.out.rl HD.out.ol
          have h3w := H37.out.touch HD.out.touch (rt_ne HGB.out.2.1 HGB.out.2.2.1 HR.out)
          have h5w := H57.out.touch HD.out.touch (rt_ne5 HGB.out.2.1 HGB.out.2.2.1 HR.out)
          have TWr := Lib.hid (rt_out TW7.out HD.out.touch HGB.out.2.1 HGB.out.2.2.1)
          have hcu := HD.out.cv.cur
          obtain ⟨y0, y1, y2⟩ := h3w.cells
          have H3W := Lib.hid h3w
          have H5W := Lib.hid h5w
          have HLAY := Lib.hid hlay
          have HCU := Lib.hid hcu
          have HKN := Lib.hid hkn
          unfold H3.val arr3 at HBK
          have HBKH := Lib.hid HBK
          subst hvx hvl
          clear hx hlay h3w h5w hcu HBK hkn hall hk
          go_wp2_with fail
          refine HBKH.out.mono ?_
          rintro e w8 ⟨v8, rfl, hO⟩
          obtain ⟨HF, hHF⟩ : ∃ HF, histB (valD B) h k = HF := ⟨_, rfl⟩
          rw [hHF]
          have HHF := Lib.hid hHF
          have t8 := hO.touch
          have tn := Touch.new w8 (.cells #[.int .i64 HF.a, .int .i64 HF.b, .int .i64 HF.c] 31)
          obtain ⟨ya, yb, yc, hvy, hy⟩ := ints_row hO.row
          have HYY := Lib.hid (hy.touch tn)
          have HP20 := Lib.hid (arr_new w8 HF)
          have HLY9 := Lib.hid ((HLAY.out.touch t8).touch tn)
          have HCU9 := Lib.hid ((HCU.out.touch t8 id (fun _ hh => hh.elim)).touch tn id (fun _ hh => hh.elim))
          have H39 := Lib.hid ((H3W.out.touch t8 id).touch tn id)
          have H59 := Lib.hid ((H5W.out.touch t8 id).touch tn id)
          have T9 := Lib.hid ((TWr.out.trans t8).trans tn)
          have hS8 : r < w8.heap.size := Nat.lt_of_lt_of_le (Nat.lt_of_lt_of_le (Nat.lt_trans HGB.out.2.2.1 HGB.out.2.2.2.1) HD.out.touch.size) t8.size
          have HS8 := Lib.hid hS8
          have HYG := Lib.hid (show 0 < k → wr.heap.size ≤ yb from fun hp => by
            have := hO.own
            rw [hvy] at this
            exact own_ge this hy hp)
          have HGL := Lib.hid (show 0 < k → lg < wr.heap.size from fun hp => RowAt.lt (HLAY.out.at_ hp).2.1)
          subst hvy
          obtain ⟨P20, hP20⟩ : ∃ q, w8.heap.size = q := ⟨_, rfl⟩
          rw [hP20] at HP20 HS8
          obtain ⟨w9, hw9⟩ : ∃ w9, w8.alloc (.cells #[.int .i64 HF.a, .int .i64 HF.b, .int .i64 HF.c] 31) = w9 := ⟨_, rfl⟩
          rw [hw9] at HYY HP20 HLY9 HCU9 H39 H59 T9
          have HW9 := Lib.hid (And.intro hw9 hP20)
          have HN5 := Lib.hid hn5
          have HN0' := Lib.hid h0
          have hW8 : wr.heap.size ≤ w8.heap.size := t8.size
          have HW8 := Lib.hid hW8
          clear hW8 hO t8 tn hy hHF hS8 hP20 hw9 y0 y1 y2 HBKH HX H3W H5W HCU hn5 h0 hz0 hd5 hlt k1
          go_wp2_with fail
          rw [HW9.out.1]
          rw [HW9.out.2]
          obtain ⟨wrOld, hwo⟩ : ∃ W, W = wr := ⟨_, rfl⟩
          rw [← hwo] at HW8 HGL HYG
          go_loopw [21] (fun iv wx => ∃ j : Nat, j ≤ k ∧ iv = .int .i64 j ∧ LayI B h w7 k j la lg lc wx ∧ Touch (fun q => q = lg ∧ 0 < k) w9 wx) (fun iv _ => k - (intOf iv).toNat)
          case atStart => exact ⟨0, Nat.zero_le _, rfl, HLY9.out, Touch.refl _ _⟩
          case round =>
            obtain ⟨j, hj, rfl, hLJ, htJ⟩ := hrel
            have HLJ := Lib.hid hLJ
            have HTJ := Lib.hid htJ
            clear hLJ htJ
            by_cases hjl : j < k
            · have hkp : 0 < k := Nat.lt_of_le_of_lt (Nat.zero_le _) hjl
              obtain ⟨l1, l2, l3⟩ := HLJ.out.at_ hkp
              subst l1
              obtain rfl := HYY.out.at_ hkp
              have e1 := HTJ.out.cell (HYY.out.cell j hjl) (fun e => by have h1 := HYG.out hkp; have h2 := HGL.out hkp; have h3 := e.1; dsimp only at h3; omega)
              rw [Nat.zero_add] at e1
              have e2 := RowAt.get l2 (i := j * 3 + 1) (by omega)
              have f2 := RowAt.free l2 (j * 3 + 1)
              have HNX := Lib.hid (HLJ.out.next hjl)
              have HTN := Lib.hid (HTJ.out.trans ((touch_cell wr lg (j * 3 + 1) (.int .i64 (valB (valD B) h j))).mono (fun q _ e => ⟨e, hkp⟩)))
              obtain ⟨vb, hvb⟩ : ∃ x, valB (valD B) h j = x := ⟨_, rfl⟩
              rw [hvb] at e1 HNX HTN
              have HM := Lib.hid (meas_u hjl)
              have HLT := Lib.hid hjl
              have fu1 := wrap_suc j (Nat.le_trans hj (Nat.le_trans HKN.out (Nat.le_trans HN5.out (by decide))))
              clear l2 l3 hvb hkp hj
              go_wp2_with fail
              go_roundw
              case rel => exact ⟨j + 1, HLT.out, by first | rfl | (rw [fu1]; go_num) | go_num, HNX.out, HTN.out⟩
              case measure => first | exact HM.out | (rw [fu1]; exact HM.out)
            · obtain rfl : j = k := Nat.le_antisymm hj (Nat.not_lt.1 hjl)
              clear hjl hj
              have hne : ∀ q, (q < w7.heap.size ∨ wrOld.heap.size ≤ q) → ¬ (q = lg ∧ 0 < j) := fun q hq e => by
                have h1 := (HLJ.out.at_ e.2).2.2
                have h2 := HGL.out e.2
                have h3 := e.1
                omega
              have h7 := HGB.out.2.2.2.2.1
              have hw7 := HGB.out.2.2.2.2.2.1
              have hcr := HCU9.out.touch HTJ.out (hne r (.inl h7)) (fun q e => by have := (HLJ.out.at_ e.2).2.2; have := e.1; omega)
              have h3r := H39.out.touch HTJ.out (hne _ (.inl (Nat.lt_of_le_of_lt HGB.out.2.1 h7)))
              have h5r := H59.out.touch HTJ.out (hne _ (.inl (by have := HR.out; omega)))
              have h20 := HP20.out.touch HTJ.out (hne P20 (.inr (by rw [← HW9.out.2]; exact HW8.out)))
              have hrec := HLJ.out.recs HW.out HN.out HKN.out
              have htt := T9.out.then HTJ.out (fun i hi e => by have := (HLJ.out.at_ e.2).2.2; have := e.1; omega)
              obtain ⟨a9, b9, o9, c9, hh9, _⟩ := hcr.out
              obtain ⟨k0, k1⟩ := two_cells hh9
              obtain ⟨y0, y1, y2⟩ := h3r.cells
              have hl5 := (q5_sub H8.out).1.length_le
              rw [HNB.out] at hl5
              obtain ⟨n5, hn5'⟩ : ∃ x, (q5 B).2.2.length = x := ⟨_, rfl⟩
              rw [hn5'] at k0 hl5
              have fsub := wrap_subN hl5 (by rw [← HNB.out]; exact HL.out)
              have HPK := Lib.hid (rpack_walk wr la lg 0 j lc (qz B h) hrec h (Nat.le_trans HKN.out (Nat.le_trans HN5.out (by decide))))
              have HREC := Lib.hid hrec
              have HCR := Lib.hid hcr
              have H3R := Lib.hid h3r
              have H5R := Lib.hid h5r
              have H20 := Lib.hid h20
              have HTT := Lib.hid htt
              have HN55 := Lib.hid hn5'
              have HL5 := Lib.hid hl5
              unfold H3.val arr3 at HPK
              clear hne h7 hw7 hcr h3r h5r h20 hrec htt hh9 hn5' hl5
              go_wp2_with fail
              refine HPK.out.mono ?_
              intro e w10 hp
              obtain ⟨a2, b2, c2, rfl, hb2, hbo2, ht2⟩ := pack_out hp
              obtain ⟨H2, hH2⟩ : ∃ H2, packH (qz B h) h j = H2 := ⟨_, rfl⟩
              obtain ⟨L, hL⟩ : ∃ L, packL (qz B h) h j = L := ⟨_, rfl⟩
              obtain ⟨K, hK⟩ : ∃ K, packOk (qz B h) j = K := ⟨_, rfl⟩
              rw [hH2, hL, hK]
              rw [hL] at hb2
              obtain ⟨nl, hnl⟩ : ∃ x, L.length = x := ⟨_, rfl⟩
              rw [hnl]
              have tn := Touch.new w10 (.cells #[.int .i64 H2.a, .int .i64 H2.b, .int .i64 H2.c] 31)
              have t11 := ht2.trans tn
              have HT11 := Lib.hid (HTT.out.trans t11)
              have HREC11 := Lib.hid (recs_touch HREC.out t11)
              have hcr11 := HCR.out.touch t11 id (fun _ hh => hh.elim)
              have H311 := Lib.hid (H3R.out.touch t11 id)
              have H511 := Lib.hid (H5R.out.touch t11 id)
              have H2011 := Lib.hid (H20.out.touch t11 id)
              have HL11 := Lib.hid (hb2.touch tn)
              obtain ⟨w11, hw11⟩ : ∃ W, w10.alloc (.cells #[.int .i64 H2.a, .int .i64 H2.b, .int .i64 H2.c] 31) = W := ⟨_, rfl⟩
              rw [hw11] at HT11 HREC11 hcr11 H311 H511 H2011 HL11
              have HB11 := Lib.hid (Ints.touch HB.out HT11.out)
              have HW11 := Lib.hid hw11
              obtain ⟨a9, b9, o9, c9, hh9, _⟩ := hcr11.out
              obtain ⟨_, k1⟩ := two_cells hh9
              obtain ⟨y0, y1, y2⟩ := H311.out.cells
              obtain ⟨m0, m1, m2⟩ := H511.out.cells
              have j0 := H511.out.free 0
              have j1 := H511.out.free 1
              have j2 := H511.out.free 2
              obtain ⟨s0, s1, s2⟩ := H2011.out.cells
              have HHH := Lib.hid (And.intro hH2 (And.intro hL (And.intro hK hnl)))
              clear hp hbo2 hb2 tn t11 hcr11 hw11 hh9 hH2 hL hK hnl ht2
              unfold H3.val arr3
              cases hee : exK (qc B) (qE B) (3 * j) with
              | false =>
                have HUN := Lib.hid (show unpQ B h = none from unpQ_none (readQ_ex HB0.out HN.out HN0'.out HN5.out (by
                  cases hh : exK (qc B) (qE B) (3 * n) with
                  | false => rfl
                  | true => rw [exK_down (Nat.mul_le_mul_left 3 HKN.out) hh] at hee; cases hee)))
                rw [hee] at k1
                have hk1 : (!false) = true := rfl
                rw [hk1] at k1
                clear hee hk1
                go_wp2_with fail
                rw [HW11.out]
                go_quiet (fail)
                all_goals
                  go_wp2_with fail
                  go_region
                  all_goals
                    go_wp2_with fail
                    have tq := Touch.eq_drewN (S := fun _ => False) w11 nq
                    obtain ⟨_, p2, p3⟩ := HFL.out _ (HT11.out.trans tq) (H511.out.touch tq id) HUN.out
                    refine bodyPost_ret (results_cell4 rfl _ _ _ _ _ rfl (Arr.load (h := h) (b := w.heap.size + 1) p2)) rfl ?_
                    rw [← HQ.out]
                    exact p3
              | true =>
                have hkn' := HEX.out hee
                have HRQ := Lib.hid (readQ_go HB0.out HN.out HN0'.out HN5.out HHO.out (by rw [← hkn']; exact hee))
                have HKE := Lib.hid hkn'
                rw [hee] at k1
                have hk1 : (!true) = false := rfl
                rw [hk1] at k1
                clear hee hk1 hkn'
                cases K with
                | false =>
                  have HUN := Lib.hid (unpQ_pack HRQ.out (by rw [← HKE.out]; exact HHH.out.2.2.1))
                  go_wp2_with fail
                  rw [HW11.out]
                  go_quiet (fail)
                  all_goals
                    go_wp2_with fail
                    go_region
                    all_goals
                      go_wp2_with fail
                      have tq := Touch.eq_drewN (S := fun _ => False) w11 nq
                      obtain ⟨_, p2, p3⟩ := HFL.out _ (HT11.out.trans tq) (H511.out.touch tq id) HUN.out
                      refine bodyPost_ret (results_cell4 rfl _ _ _ _ _ rfl (Arr.load (h := h) (b := w.heap.size + 1) p2)) rfl ?_
                      rw [← HQ.out]
                      exact p3
                | true =>
                  obtain ⟨e1, e2, e3, e4⟩ := HHH.out
                  have hLB : L = packB (qz B h) h j := by rw [← e2]; unfold packL; rw [if_pos e3]
                  obtain ⟨ds1, ds2⟩ := doc_same (h := h) HRQ.out (by rw [← HKE.out]; exact e3)
                  rw [← HKE.out] at ds1 ds2
                  rw [← hLB] at ds1 ds2
                  have hszz : B.length - (q5 B).2.2.length = nb - n5 := by rw [HNB.out, HN55.out]
                  rw [hszz] at ds1 ds2
                  have hT8 : ∀ x ∈ B.take (nb - n5), x < 256 := fun x hx => H8.out x (List.mem_of_mem_take hx)
                  have hL8 : ∀ x ∈ L, x < 256 := by rw [hLB]; exact pack_256 e3
                  have hc1 := fun m => conv_list (HL11.out.touch (Touch.eq_drewN (S := fun _ => False) w11 m)) c2 e4
                  have hsle : nb - n5 ≤ B.length := by rw [HNB.out]; exact Nat.sub_le _ _
                  have hc2 := fun m => conv_list (bytes_take (Ints.touch HB11.out (Touch.eq_drewN (S := fun _ => False) w11 m)) hsle) c (n := nb - n5) (by rw [List.length_take]; exact Nat.min_eq_left hsle)
                  have hcap : nb - n5 ≤ c := Nat.le_trans hsle HC.out
                  have HDS := Lib.hid (And.intro ds1 ds2)
                  have HLB2 := Lib.hid hLB
                  by_cases hs : L = B.take (nb - n5)
                  · have hpre := HDS.out.1.1 hs
                    have HUY := Lib.hid (show unpQ B h = some j from by rw [HKE.out]; exact unpQ_yes HRQ.out (by rw [← HKE.out]; exact e3) (by rw [← HKE.out, ← hLB]; exact hpre))
                    have HFIN := Lib.hid (HDS.out.2 hpre)
                    simp only [← hs] at hc2
                    clear hpre ds1 ds2 hLB hT8 hL8 hszz hs e1 e2 e3 e4 hsle
                    go_wp2_with fail
                    rw [HW11.out]
                    go_quiet (fail)
                    all_goals
                      go_wp2_with fail
                      go_region
                      all_goals
                        go_wp2_with fail
                        have tq := (Touch.eq_drewN (S := fun _ => False) w11 nq).drew
                        have ha := Arr.put (H511.out.touch tq id) HF
                        have tp := touch_put3 (w11.drewN nq).drew (w.heap.size + 1) HF
                        refine bodyPost_ret (results_cell4 rfl _ _ _ _ _ rfl (Arr.load (h := HF) (b := w.heap.size + 1) ha)) rfl ?_
                        rw [← HQ.out]
                        refine ⟨(HT11.out.trans tq).then tp (fun i hi e => by omega), ?_⟩
                        rw [HUY.out]
                        refine ⟨la, lg, lc, ?_, recs_put (recs_touch HREC11.out tq) tp (fun hp e => ?_), fun hp => ?_⟩
                        · rw [← HLB2.out, ← HFIN.out.1]
                          have hh2 := HFIN.out.2
                          rw [show histO (fun i => qz B h i 1) h j = HF from hh2.symm.trans HHF.out]
                          rfl
                        · have h1 := (HLJ.out.at_ hp).2.2
                          have h2 := HGB.out.2.2.2.2.1
                          have h3 := HR.out
                          omega
                        · exact Nat.le_trans HGB.out.2.2.2.2.2.1 (HLJ.out.at_ hp).2.2
                  · have hq1 := str_ne hL8 hT8 hs
                    obtain ⟨S1, hS1⟩ : ∃ x, strL L = x := ⟨_, rfl⟩
                    obtain ⟨S2, hS2⟩ : ∃ x, strL (B.take (nb - n5)) = x := ⟨_, rfl⟩
                    rw [hS1, hS2] at hq1
                    simp only [hS1] at hc1
                    simp only [hS2] at hc2
                    have HUN := Lib.hid (unpQ_pre (h := h) HRQ.out (by rw [← HKE.out, ← hLB]; exact fun hp => hs (HDS.out.1.2 hp)))
                    clear ds1 ds2 hLB hT8 hL8 hszz e1 e2 e3 e4 hsle hs hS1 hS2
                    go_wp2_with fail
                    rw [HW11.out]
                    go_quiet (fail)
                    all_goals
                      clear hq1 hc1 hc2 hcap
                      go_wp2_with fail
                      go_region
                      all_goals
                        go_wp2_with fail
                        have tq := Touch.eq_drewN (S := fun _ => False) w11 nq
                        obtain ⟨_, p2, p3⟩ := HFL.out _ (HT11.out.trans tq) (H511.out.touch tq id) HUN.out
                        refine bodyPost_ret (results_cell4 rfl _ _ _ _ _ rfl (Arr.load (h := h) (b := w.heap.size + 1) p2)) rfl ?_
                        rw [← HQ.out]
                        exact p3
end Go.Proofs.Ythnhacbagmhfoaa

/- seqs: the laws SeqsLast and SeqsTurned. -/
namespace Go.Proofs.Ythnhacbagmhfoaa
open Go.RowKit Go.WideShapes Go.Shelf Fs
set_option linter.unusedVariables false
set_option linter.unusedSimpArgs false
set_option maxRecDepth 100000

theorem packL_256 {z : Nat → Nat → Int} {h : H3} {n : Nat} : ∀ x ∈ packL z h n, x < 256 := by
  unfold packL
  split
  · rename_i hp; exact pack_256 hp
  · intro x hx; exact absurd hx List.not_mem_nil
theorem packL_le {z : Nat → Nat → Int} {h : H3} {n : Nat} : (packL z h n).length ≤ 10000 := by
  unfold packL
  split
  · rename_i hp; exact (pack_le hp).2
  · exact Nat.zero_le _
theorem agree_refl (z : Nat → Nat → Int) (n : Nat) : Agree z z n := fun _ _ _ _ => rfl
/-- What a Pack gives lies in a slice whose capacity is no smaller. -/
theorem pack_out2 {z : Nat → Nat → Int} {h : H3} {n : Nat} {w w' : World} {e : Ending} (hp : PackPost z h n w e w') :
    ∃ a b c, e = .returned (.tuple #[.slice a (packL z h n).length c, (packH z h n).val, .bool (packOk z n)]) ∧ BytesAt w' a b 0 (packL z h n) ∧ (packL z h n).length ≤ c ∧ (0 < (packL z h n).length → b < w'.heap.size ∧ w.heap.size ≤ b ∧ a = some ⟨b, 0, none⟩ ∧ ∃ cur, w'.heap[b]? = some (.cells cur 5 (0, 0))) ∧ Touch (fun _ => False) w w' := by
  obtain ⟨ht, hno, hyes⟩ := hp
  unfold packL packH
  cases hk : packOk z n with
  | false =>
    refine ⟨none, 0, 0, ?_, ⟨fun hh => ?_, fun i hi => ?_⟩, ?_, fun hh => ?_, ht⟩
    · rw [hno hk]; simp
    · simp at hh
    · simp at hi
    · simp
    · simp at hh
  | true =>
    obtain ⟨r, he, hy⟩ := hyes hk
    obtain ⟨a, b, c, rfl, hb⟩ := hy.row.bytes
    have hr := hy.row
    refine ⟨a, b, c, by rw [he]; simp, by simpa using hb, ?_, fun hh => ?_, ht⟩
    · simp only [if_true]
      rcases hr.2 with ⟨_, h0⟩ | ⟨g, cap, cur, hv, _, _, h1, _⟩
      · rw [h0]; exact Nat.zero_le _
      · cases hv; exact h1
    · have hh2 : 0 < (packB z h n).length := by simpa using hh
      have ho := hy.own
      have ha := hb.at_ hh2
      subst ha
      obtain ⟨cur, hc⟩ := own_at hr (k := b) rfl
      exact ⟨lt_of_block hc, ho b rfl, rfl, cur, hc⟩

set_option maxHeartbeats 8000000 in
theorem SeqsLast_in (w : World) (a0 : Option Addr) (b0 o0 l0 c0 : Nat) (z0 : Nat → Nat → Int) (w0 : RecsIn 3 w a0 b0 o0 l0 c0 z0) (h g : H3) (hw : WfH g) (hl : l0 ≤ 60) :
    Calls Try.prog 5 #[.slice a0 l0 c0, h.val, g.val] w fun e w' => e = .returned (.bool true) ∧ Below w.heap.size w w' := by
  have hdl : decide ((60 : Int) < l0) = false := decide_eq_false (by omega)
  have t0 := (Touch.new w (.cells #[.int .i64 h.a, .int .i64 h.b, .int .i64 h.c] 31)).alloc (.cells #[.int .i64 g.a, .int .i64 g.b, .int .i64 g.c] 31)
  have hA : Arr ((w.alloc (.cells #[.int .i64 h.a, .int .i64 h.b, .int .i64 h.c] 31)).alloc (.cells #[.int .i64 g.a, .int .i64 g.b, .int .i64 g.c] 31)) w.heap.size h := Arr.touch (arr_new w h) (Touch.new _ _) id
  have hG : Arr ((w.alloc (.cells #[.int .i64 h.a, .int .i64 h.b, .int .i64 h.c] 31)).alloc (.cells #[.int .i64 g.a, .int .i64 g.b, .int .i64 g.c] 31)) (w.heap.size + 1) g := heap_alloc_2 _ _ _
  obtain ⟨wa, hwa⟩ : ∃ W, (w.alloc (.cells #[.int .i64 h.a, .int .i64 h.b, .int .i64 h.c] 31)).alloc (.cells #[.int .i64 g.a, .int .i64 g.b, .int .i64 g.c] 31) = W := ⟨_, rfl⟩
  rw [hwa] at t0 hA hG
  have HWA := Lib.hid hwa
  have HA := Lib.hid hA
  have HG := Lib.hid hG
  have T0 := Lib.hid t0
  have HW := Lib.hid hw
  have W0 := Lib.hid w0
  have HMAY := Lib.hid (fun w h => lawmay_walk a0 b0 o0 c0 l0 z0 w h (Nat.le_trans hl (by decide)))
  have HPK := Lib.hid (fun w w0 => rpack_walk w a0 b0 o0 l0 c0 z0 w0 h (Nat.le_trans hl (by decide)))
  clear hwa t0 hA hG hw w0
  unfold H3.val arr3 at HPK ⊢
  go_enter Try.func5, Try.ntmps5
  go_wp2_with fail
  rw [HWA.out]
  refine (HMAY.out _ (recs_touch W0.out T0.out)).mono ?_
  rintro e w1 ⟨rfl, t1⟩
  have T1 := Lib.hid (T0.out.trans t1)
  have HA1 := Lib.hid (HA.out.touch t1 id)
  have HG1 := Lib.hid (HG.out.touch t1 id)
  obtain ⟨y0, y1, y2⟩ := HA1.out.cells
  obtain ⟨x0, x1, x2⟩ := HG1.out.cells
  obtain ⟨AM, hAM⟩ : ∃ x, allM z0 l0 = x := ⟨_, rfl⟩
  rw [hAM]
  clear t1 hAM
  cases AM with
  | false =>
    go_wp2_with fail
    try go_ret
    exact ⟨rfl, T1.out.owned⟩
  | true =>
    by_cases k0 : h.a < 1
    · have d0 : decide (h.a < 1) = true := decide_eq_true k0
      go_wp2_with fail
      try go_ret
      exact ⟨rfl, T1.out.owned⟩
    have d0 : decide (h.a < 1) = false := decide_eq_false k0
    by_cases k1 : h.b < 1
    · have d1 : decide (h.b < 1) = true := decide_eq_true k1
      go_wp2_with fail
      try go_ret
      exact ⟨rfl, T1.out.owned⟩
    have d1 : decide (h.b < 1) = false := decide_eq_false k1
    by_cases k2 : h.c < 1
    · have d2 : decide (h.c < 1) = true := decide_eq_true k2
      go_wp2_with fail
      try go_ret
      exact ⟨rfl, T1.out.owned⟩
    have d2 : decide (h.c < 1) = false := decide_eq_false k2
    clear k0 k1 k2
    go_wp2_with fail
    refine (HPK.out _ (recs_touch W0.out T1.out)).mono ?_
    intro e w2 hp
    obtain ⟨a, b, c, rfl, hb, hc, hblk, ht⟩ := pack_out2 hp
    obtain ⟨H2, hH2⟩ : ∃ H2, packH z0 h l0 = H2 := ⟨_, rfl⟩
    rw [hH2]
    have h256 := packL_256 (z := z0) (h := h) (n := l0)
    have hle := packL_le (z := z0) (h := h) (n := l0)
    obtain ⟨L, hL⟩ : ∃ L, packL z0 h l0 = L := ⟨_, rfl⟩
    rw [hL] at hb hc hblk h256 hle ⊢
    have tn := Touch.new w2 (.cells #[.int .i64 H2.a, .int .i64 H2.b, .int .i64 H2.c] 31)
    have T3 := Lib.hid ((T1.out.trans ht).trans tn)
    have HG3 := Lib.hid ((HG1.out.touch ht id).touch tn id)
    clear x0 x1 x2
    obtain ⟨x0, x1, x2⟩ := HG3.out.cells
    obtain ⟨w3, hw3⟩ : ∃ W, w2.alloc (.cells #[.int .i64 H2.a, .int .i64 H2.b, .int .i64 H2.c] 31) = W := ⟨_, rfl⟩
    rw [hw3] at tn T3 HG3
    have HUP := Lib.hid (fun W (tw : Touch (fun _ => False) w3 W) => punp_walk W a b 0 c L g HW.out ((hb.touch tn).touch tw) hc (fun hp => Nat.lt_of_lt_of_le (hblk hp).1 (Nat.le_trans tn.size tw.size)) h256 hle)
    have HUC := Lib.hid (fun W (tw : Touch (fun _ => False) w3 W) => cunp_walk W a b 0 c L g HW.out ((hb.touch tn).touch tw) hc (fun hp => Nat.lt_of_lt_of_le (hblk hp).1 (Nat.le_trans tn.size tw.size)) h256 hle)
    have HW3 := Lib.hid hw3
    obtain ⟨nl, hnl⟩ : ∃ n, L.length = n := ⟨_, rfl⟩
    rw [hnl] at HUP HUC ⊢
    clear hp hb hc hblk ht tn hw3 h256 hle hH2 hL hnl y0 y1 y2 d0 d1 d2 HA1 HG1 HA HG HMAY HPK
    unfold H3.val arr3 at HUP HUC ⊢
    go_wp2_with fail
    rw [HW3.out]
    refine (HUP.out _ (Touch.refl _ _)).mono ?_
    intro e w4 hp
    obtain ⟨ap, bp, cp, rfl, hrp, tp⟩ := unp_out HW.out hp
    obtain ⟨nU, hnU⟩ : ∃ x, unpN L g = x := ⟨_, rfl⟩
    obtain ⟨HU, hHU⟩ : ∃ x, unpH L g = x := ⟨_, rfl⟩
    obtain ⟨sU, hsU⟩ : ∃ x, unpS L g = x := ⟨_, rfl⟩
    obtain ⟨kU, hkU⟩ : ∃ x, (unpQ L g).isSome = x := ⟨_, rfl⟩
    have hn5 := unpN_le (B := L) (h := g)
    rw [hnU] at hrp hn5
    rw [hnU, hHU, hsU, hkU]
    have tn := Touch.new w4 (.cells #[.int .i64 HU.a, .int .i64 HU.b, .int .i64 HU.c] 31)
    have T5 := Lib.hid (tp.trans tn)
    have HG5 := Lib.hid ((HG3.out.touch tp id).touch tn id)
    have HP11 := Lib.hid (arr_new w4 HU)
    have HRP := Lib.hid (recs_touch hrp tn)
    have HEQ := Lib.hid (And.intro hnU (And.intro hHU (And.intro hsU hkU)))
    have HN5 := Lib.hid hn5
    obtain ⟨x0, x1, x2⟩ := HG5.out.cells
    clear hp hrp tp hnU hHU hsU hkU tn hn5
    unfold H3.val arr3
    go_wp2_with fail
    refine (HUC.out _ T5.out).mono ?_
    intro e w6 hp
    obtain ⟨aq, bq, cq, rfl, hrq, tq⟩ := unp_out HW.out hp
    obtain ⟨e1, e2, e3, e4⟩ := HEQ.out
    rw [e1] at hrq
    rw [e1, e2, e3, e4]
    have tn := Touch.new w6 (.cells #[.int .i64 HU.a, .int .i64 HU.b, .int .i64 HU.c] 31)
    have T7 := Lib.hid (((T3.out.trans T5.out).trans tq).trans tn)
    have HP7 := Lib.hid ((HP11.out.touch tq id).touch tn id)
    have HP15 := Lib.hid (arr_new w6 HU)
    have HRP7 := Lib.hid (recs_touch (recs_touch HRP.out tq) tn)
    have HRQ7 := Lib.hid (recs_touch hrq tn)
    have heq := fun w => eq31 HU.a HU.b HU.c HU.a HU.b HU.c w
    clear hp hrq tq tn e1 e2 e3 e4 HEQ x0 x1 x2
    unfold H3.val arr3
    go_wp2_with fail
    refine (sameS_walk ap bp 0 cp aq bq 0 cq nU (qz L g) (qz L g) _ HRP7.out HRQ7.out (agree_refl _ _) HN5.out).mono ?_
    rintro e w8 ⟨rfl, m, rfl⟩
    have tm := Touch.eq_drewN (S := fun _ => False) (w6.alloc (.cells #[.int .i64 HU.a, .int .i64 HU.b, .int .i64 HU.c] 31)) m
    obtain ⟨u0, u1, u2⟩ := (HP7.out.touch tm id).cells
    obtain ⟨v0, v1, v2⟩ := (HP15.out.touch tm id).cells
    have T8 := Lib.hid (T7.out.trans tm)
    clear tm
    go_wp2_with fail
    refine (known_walk _).mono ?_
    rintro e w9 ⟨rfl, t9⟩
    have T9 := Lib.hid (T8.out.trans t9)
    clear t9
    go_wp2_with fail
    try go_ret
    exact ⟨rfl, T9.out.owned⟩
theorem SeqsLast_law (w : World) (a0 : Option Addr) (b0 o0 l0 c0 : Nat) (z0 : Nat → Nat → Int) (w0 : RecsIn 3 w a0 b0 o0 l0 c0 z0) (x1 y1 z1 : Int) (wx1 : (Lit.int .i64 x1).wf = true) (wy1 : (Lit.int .i64 y1).wf = true) (wz1 : (Lit.int .i64 z1).wf = true) (x2 y2 z2 : Int) (wx2 : (Lit.int .i64 x2).wf = true) (wy2 : (Lit.int .i64 y2).wf = true) (wz2 : (Lit.int .i64 z2).wf = true) :
    Calls Try.prog 5 #[.slice a0 l0 c0, .agg #[.int .i64 x1, .int .i64 y1, .int .i64 z1], .agg #[.int .i64 x2, .int .i64 y2, .int .i64 z2]] w fun e w' => e = .returned (.bool true) ∧ Below w.heap.size w w' := by
  by_cases h1 : 60 < l0
  · have hdl : decide ((60 : Int) < (l0 : Int)) = true := decide_eq_true (by omega)
    go_enter Try.func5, Try.ntmps5
    go_wp2_with fail
    try go_ret
    exact ⟨rfl, ((Touch.new w _).alloc _).owned⟩
  exact SeqsLast_in w a0 b0 o0 l0 c0 z0 w0 ⟨x1, y1, z1⟩ ⟨x2, y2, z2⟩ ⟨wx2, wy2, wz2⟩ (by omega)

theorem and_mask (a : Int) : ∃ q : Nat, bits BinOp.and IntKind.i64 a 65535 = (q : Int) ∧ q ≤ 65535 := by
  refine ⟨(BitVec.ofInt 64 a &&& BitVec.ofInt 64 65535).toNat, ?_, ?_⟩
  · show IntKind.i64.wrap ((BitVec.ofInt 64 a &&& BitVec.ofInt 64 65535).toNat : Nat) = _
    have hle : (BitVec.ofInt 64 a &&& BitVec.ofInt 64 65535).toNat ≤ 65535 := by
      rw [BitVec.toNat_and]
      exact Nat.le_trans Nat.and_le_right (by decide)
    exact IntWalk.i64_in _ (by omega)
  · rw [BitVec.toNat_and]
    exact Nat.le_trans Nat.and_le_right (by decide)
theorem bytes_set {w : World} {a : Option Addr} {b i y : Nat} {L : List Nat} {cur : Array Value} (h : BytesAt w a b 0 L) (hc : w.heap[b]? = some (.cells cur 5 (0, 0))) (hi : i < L.length) : BytesAt (w.setCell ⟨b, i, none⟩ (.int .u8 (y : Int))) a b 0 (L.set i y) := by
  have hr : RowAt w b 5 L.length (fun m => .int .u8 ((L.getD m 0 : Nat) : Int)) := ⟨cur, hc, fun m hm => by
    have := h.cell m hm
    rw [Nat.zero_add, cell_of_row _ _ _ _ _ _ hc] at this
    exact this⟩
  have hs := hr.set i (.int .u8 (y : Int))
  refine ⟨fun hp => h.at_ (by simpa using hp), fun m hm => ?_⟩
  have hm' : m < L.length := by simpa using hm
  have := RowAt.get hs hm'
  rw [Nat.zero_add, this]
  by_cases e : m = i
  · subst e; rw [if_pos rfl]; simp [hm']
  · rw [if_neg e]
    have : (L.set i y).getD m 0 = L.getD m 0 := by
      rw [List.getD_eq_getElem?_getD, List.getD_eq_getElem?_getD, List.getElem?_set_ne (Ne.symm e)]
    rw [this]
set_option maxHeartbeats 8000000 in
theorem SeqsTurned_in (w : World) (a0 : Option Addr) (b0 o0 l0 c0 : Nat) (z0 : Nat → Nat → Int) (w0 : RecsIn 3 w a0 b0 o0 l0 c0 z0) (at_ : Int) (cy : Nat) (hcy : cy < 256) (hl : l0 ≤ 100) :
    Calls Try.prog 13 #[.slice a0 l0 c0, .int .i64 at_, .int .u8 cy] w fun e w' => e = .returned (.bool true) ∧ Below w.heap.size w w' := by
  have hdl : decide ((100 : Int) < l0) = false := decide_eq_false (by omega)
  have W0 := Lib.hid w0
  have HMAY := Lib.hid (fun w h => lawmay_walk a0 b0 o0 c0 l0 z0 w h (Nat.le_trans hl (by decide)))
  have HPK := Lib.hid (fun w w0 => rpack_walk w a0 b0 o0 l0 c0 z0 w0 ⟨1, 4, 8⟩ (Nat.le_trans hl (by decide)))
  obtain ⟨qa, hqa, hqle⟩ := and_mask at_
  have hwf : WfH ⟨1, 4, 8⟩ := ⟨by decide, by decide, by decide⟩
  have HWF := Lib.hid hwf
  have HL := Lib.hid hl
  have HCY := Lib.hid hcy
  have HQL := Lib.hid hqle
  clear w0 hwf hl hcy hqle
  unfold H3.val arr3 at HPK
  go_enter Try.func13, Try.ntmps13
  go_wp2_with fail
  refine (HMAY.out _ W0.out).mono ?_
  rintro e w1 ⟨rfl, t1⟩
  have T1 := Lib.hid t1
  obtain ⟨AM, hAM⟩ : ∃ x, allM z0 l0 = x := ⟨_, rfl⟩
  rw [hAM]
  have HAM := Lib.hid hAM
  clear t1 hAM
  cases AM with
  | false =>
    go_wp2_with fail
    try go_ret
    exact ⟨rfl, T1.out.owned⟩
  | true =>
    have hpk : packOk z0 l0 = true := by unfold packOk; rw [HAM.out, decide_eq_true (Nat.le_trans HL.out (by decide))]; rfl
    have HPOK := Lib.hid hpk
    clear hpk
    go_wp2_with fail
    refine (ref_begin _).mono ?_
    rintro e w2 ⟨rfl, t2⟩
    have T2 := Lib.hid (T1.out.trans t2)
    clear t2
    unfold arr3
    go_wp2_with fail
    refine (HPK.out _ (recs_touch W0.out T2.out)).mono ?_
    intro e w3 hp
    obtain ⟨a, b, c, rfl, hb, hc, hblk, ht⟩ := pack_out2 hp
    obtain ⟨H2, hH2⟩ : ∃ H2, packH z0 ⟨1, 4, 8⟩ l0 = H2 := ⟨_, rfl⟩
    rw [hH2]
    have h256 := packL_256 (z := z0) (h := ⟨1, 4, 8⟩) (n := l0)
    have hle := packL_le (z := z0) (h := ⟨1, 4, 8⟩) (n := l0)
    have h2le : 2 ≤ (packL z0 ⟨1, 4, 8⟩ l0).length := by unfold packL; rw [if_pos HPOK.out]; exact (pack_le HPOK.out).1
    obtain ⟨L, hL⟩ : ∃ L, packL z0 ⟨1, 4, 8⟩ l0 = L := ⟨_, rfl⟩
    rw [hL] at hb hc hblk h256 hle h2le ⊢
    obtain ⟨hb1, hb2, rfl, cur, hcur⟩ := hblk (by omega)
    have tn := Touch.new w3 (.cells #[.int .i64 H2.a, .int .i64 H2.b, .int .i64 H2.c] 31)
    have hbn := hb.touch tn
    have hcn := tn.heap hcur id
    obtain ⟨nl, hnl⟩ : ∃ n, L.length = n := ⟨_, rfl⟩
    rw [hnl] at hc h2le hle ⊢
    have hi : qa % nl < nl := Nat.mod_lt _ (by omega)
    have hmod : (qa : Int).tmod (nl : Int) = ((qa % nl : Nat) : Int) := by rw [Int.tmod_eq_emod_of_nonneg (by omega)]; rfl
    have hmod2 : (qa : Int) % (nl : Int) = ((qa % nl : Nat) : Int) := rfl
    have hnz : ((nl : Int) == 0) = false := by simp; omega
    obtain ⟨ix, hix⟩ : ∃ x, qa % nl = x := ⟨_, rfl⟩
    rw [hix] at hi hmod hmod2
    have hset := bytes_set (y := cy) hbn hcn (by rw [hnl]; exact hi)
    have hcell := hbn.cell ix (by rw [hnl]; exact hi)
    rw [Nat.zero_add] at hcell
    have hfr : (w3.alloc (.cells #[.int .i64 H2.a, .int .i64 H2.b, .int .i64 H2.c] 31)).frozen? ⟨b, ix, none⟩ = false := by simp [World.frozen?, hcn]
    have ts := touch_cell (w3.alloc (.cells #[.int .i64 H2.a, .int .i64 H2.b, .int .i64 H2.c] 31)) b ix (.int .u8 (cy : Int))
    have hl8 : ∀ x ∈ L.set ix cy, x < 256 := fun x hx => by
      rcases List.mem_or_eq_of_mem_set hx with h | h
      · exact h256 x h
      · rw [h]; exact HCY.out
    have hllen : (L.set ix cy).length = nl := by simp [hnl]
    have T4 := Lib.hid (((T2.out.trans ht).trans tn).then ts (fun i hi e => by have := T2.out.size; omega))
    obtain ⟨M, hM⟩ : ∃ M, L.set ix cy = M := ⟨_, rfl⟩
    rw [hM] at hset hl8 hllen
    obtain ⟨w4, hw4⟩ : ∃ W, (w3.alloc (.cells #[.int .i64 H2.a, .int .i64 H2.b, .int .i64 H2.c] 31)).setCell ⟨b, ix, none⟩ (.int .u8 (cy : Int)) = W := ⟨_, rfl⟩
    have HW4 := Lib.hid hw4
    rw [hw4] at hset ts T4
    have hbs : b < w4.heap.size := Nat.lt_of_lt_of_le hb1 (Nat.le_trans tn.size ts.size)
    have HUP := Lib.hid (fun W (tw : Touch (fun _ => False) w4 W) => punp_walk W (some ⟨b, 0, none⟩) b 0 c M ⟨1, 4, 8⟩ HWF.out (Ints.touch hset tw) (by rw [hllen]; exact hc) (fun hp => Nat.lt_of_lt_of_le hbs tw.size) hl8 (by rw [hllen]; exact hle))
    have HUC := Lib.hid (fun W (tw : Touch (fun _ => False) w4 W) => cunp_walk W (some ⟨b, 0, none⟩) b 0 c M ⟨1, 4, 8⟩ HWF.out (Ints.touch hset tw) (by rw [hllen]; exact hc) (fun hp => Nat.lt_of_lt_of_le hbs tw.size) hl8 (by rw [hllen]; exact hle))
    rw [hllen] at HUP HUC
    clear hp hb hblk ht tn hbn hset ts hl8 hllen hle hH2 hL hnl hw4 hbs h256 hM HMAY HPK hcur hcn hb1 hb2
    unfold H3.val arr3
    unfold H3.val arr3 at HUP HUC
    go_wp2_with fail
    rw [HW4.out]
    refine (ref_begin _).mono ?_
    rintro e w5 ⟨rfl, t5⟩
    have T5 := Lib.hid t5
    clear t5
    unfold arr3
    go_wp2_with fail
    refine (HUP.out _ T5.out).mono ?_
    intro e w6 hp
    obtain ⟨ap, bp, cp, rfl, hrp, tp⟩ := unp_out HWF.out hp
    obtain ⟨nU, hnU⟩ : ∃ x, unpN M ⟨1, 4, 8⟩ = x := ⟨_, rfl⟩
    obtain ⟨HU, hHU⟩ : ∃ x, unpH M ⟨1, 4, 8⟩ = x := ⟨_, rfl⟩
    obtain ⟨sU, hsU⟩ : ∃ x, unpS M ⟨1, 4, 8⟩ = x := ⟨_, rfl⟩
    obtain ⟨kU, hkU⟩ : ∃ x, (unpQ M ⟨1, 4, 8⟩).isSome = x := ⟨_, rfl⟩
    have hn5 := unpN_le (B := M) (h := ⟨1, 4, 8⟩)
    rw [hnU] at hrp hn5
    rw [hnU, hHU, hsU, hkU]
    have tn := Touch.new w6 (.cells #[.int .i64 HU.a, .int .i64 HU.b, .int .i64 HU.c] 31)
    have T7 := Lib.hid ((T5.out.trans tp).trans tn)
    have HP11 := Lib.hid (arr_new w6 HU)
    have HRP := Lib.hid (recs_touch hrp tn)
    have HEQ := Lib.hid (And.intro hnU (And.intro hHU (And.intro hsU hkU)))
    have HN5 := Lib.hid hn5
    clear hp hrp tp hnU hHU hsU hkU tn hn5
    unfold H3.val arr3
    go_wp2_with fail
    refine (ref_begin _).mono ?_
    rintro e w8 ⟨rfl, t8⟩
    have T8 := Lib.hid (T7.out.trans t8)
    have HP118 := Lib.hid (HP11.out.touch t8 id)
    have HRP8 := Lib.hid (recs_touch HRP.out t8)
    clear t8
    unfold arr3
    go_wp2_with fail
    refine (HUC.out _ T8.out).mono ?_
    intro e w9 hp
    obtain ⟨aq, bq, cq, rfl, hrq, tq⟩ := unp_out HWF.out hp
    obtain ⟨e1, e2, e3, e4⟩ := HEQ.out
    rw [e1] at hrq
    rw [e1, e2, e3, e4]
    have tn := Touch.new w9 (.cells #[.int .i64 HU.a, .int .i64 HU.b, .int .i64 HU.c] 31)
    have T10 := Lib.hid (T4.out.trans ((T8.out.trans tq).trans tn))
    have HP7 := Lib.hid ((HP118.out.touch tq id).touch tn id)
    have HP15 := Lib.hid (arr_new w9 HU)
    have HRP7 := Lib.hid (recs_touch (recs_touch HRP8.out tq) tn)
    have HRQ7 := Lib.hid (recs_touch hrq tn)
    have heq := fun w => eq31 HU.a HU.b HU.c HU.a HU.b HU.c w
    clear hp hrq tq tn e1 e2 e3 e4 HEQ
    unfold H3.val arr3
    go_wp2_with fail
    refine (sameS_walk ap bp 0 cp aq bq 0 cq nU (qz M ⟨1, 4, 8⟩) (qz M ⟨1, 4, 8⟩) _ HRP7.out HRQ7.out (agree_refl _ _) HN5.out).mono ?_
    rintro e w11 ⟨rfl, m, rfl⟩
    have tm := Touch.eq_drewN (S := fun _ => False) (w9.alloc (.cells #[.int .i64 HU.a, .int .i64 HU.b, .int .i64 HU.c] 31)) m
    obtain ⟨u0, u1, u2⟩ := (HP7.out.touch tm id).cells
    obtain ⟨v0, v1, v2⟩ := (HP15.out.touch tm id).cells
    have T11 := Lib.hid (T10.out.trans tm)
    clear tm
    go_wp2_with fail
    refine (known_walk _).mono ?_
    rintro e w12 ⟨rfl, t12⟩
    have T12 := Lib.hid (T11.out.trans t12)
    clear t12
    go_wp2_with fail
    try go_ret
    exact ⟨rfl, T12.out.owned⟩
theorem SeqsTurned_law (w : World) (a0 : Option Addr) (b0 o0 l0 c0 : Nat) (z0 : Nat → Nat → Int) (w0 : RecsIn 3 w a0 b0 o0 l0 c0 z0) (a1 : Int) (w1 : (Lit.int .i64 a1).wf = true) (a2 : Int) (w2 : (Lit.int .u8 a2).wf = true) :
    Calls Try.prog 13 #[.slice a0 l0 c0, .int .i64 a1, .int .u8 a2] w fun e w' => e = .returned (.bool true) ∧ Below w.heap.size w w' := by
  by_cases h1 : 100 < l0
  · have hdl : decide ((100 : Int) < (l0 : Int)) = true := decide_eq_true (by omega)
    go_enter Try.func13, Try.ntmps13
    go_wp2_with fail
    try go_ret
    exact ⟨rfl, (Touch.refl _ w).owned⟩
  obtain ⟨k0, k1⟩ := u8_wf w2
  obtain ⟨y, rfl⟩ := Int.eq_ofNat_of_zero_le k0
  exact SeqsTurned_in w a0 b0 o0 l0 c0 z0 w0 a1 y (by omega) (by omega)
end Go.Proofs.Ythnhacbagmhfoaa
