/- fse: Norm. -/
import Derived.Test.YtaacphmbkieacaaFaC
namespace Go.Proofs.Ytaacphmbkieacaa
open Go.RowKit Go.WideShapes Fs
set_option linter.unusedVariables false
set_option linter.unusedSimpArgs false
set_option maxRecDepth 100000

def listZ (z : Nat → Int) (n : Nat) : List Int := (List.range n).map z
theorem listZ_get (z : Nat → Int) {n k : Nat} (h : k < n) : (listZ z n).getD k 0 = z k := by simp [listZ, List.getD_eq_getElem?_getD, h]
theorem listZ_len (z : Nat → Int) (n : Nat) : (listZ z n).length = n := by simp [listZ]
theorem max_is (z : Nat → Int) (n : Nat) : ∀ k, k < n → Lib.maxOf ((listZ z n).take (k + 1)) = z (mxI z k)
  | 0, h => by rw [Lib.maxOf_one, listZ_get z h]; rfl
  | k + 1, h => by
    rw [Lib.maxOf_step _ (k + 1) (by omega) (by rw [listZ_len]; exact h), max_is z n k (by omega), listZ_get z h, mxI]
    split <;> omega
theorem greatest_walk (g n c : Nat) (z : Nat → Int) (w : World) (hn : 0 < n) (hn2 : n ≤ 100000) (h : ∀ i, i < n → w.cell? ⟨g, i, none⟩ = some (.int .i64 (z i))) :
    Calls Try.prog 33 #[.slice (some ⟨g, 0, none⟩) n c] w fun e w' => e = .returned (.int .i64 (z (mxI z (n - 1)))) ∧ w = w' := by
  have := Try.slices_Max_int g 0 n c (listZ z n) w hn (by rw [listZ_len]; omega) (by omega) (fun j hj => by rw [listZ_len] at hj; rw [Nat.zero_add, listZ_get z hj]; exact h j hj)
  have hm := max_is z n (n - 1) (by omega)
  rw [show n - 1 + 1 = n by omega] at hm
  rw [hm] at this
  exact this.mono fun e w' ⟨h1, h2⟩ => ⟨h1, h2.symm⟩
theorem first_walk (g n c : Nat) (z : Nat → Int) (w : World) (hn : 0 < n) (hn2 : n ≤ 100000) (h : ∀ i, i < n → w.cell? ⟨g, i, none⟩ = some (.int .i64 (z i))) :
    Calls Try.prog 32 #[.slice (some ⟨g, 0, none⟩) n c, .int .i64 (z (mxI z (n - 1)))] w fun e w' => e = .returned (.int .i64 (mxI z (n - 1) : Nat)) ∧ w = w' := by
  have hm := mxI_le z (n - 1)
  have := Try.slices_Index_int g 0 n c (listZ z n) (z (mxI z (n - 1))) w (by rw [listZ_len]; omega) (by omega) (fun j hj => by rw [listZ_len] at hj; rw [Nat.zero_add, listZ_get z hj]; exact h j hj)
  rw [Lib.idxOf_hit (listZ z n) n (mxI z (n - 1)) _ (by omega) (by rw [listZ_len]; omega) (listZ_get z (by omega)) (fun j hj => by rw [listZ_get z (by omega)]; have := mxI_first z (n - 1) j hj; omega)] at this
  exact this.mono fun e w' ⟨h1, h2⟩ => ⟨h1, h2.symm⟩

theorem Try.info3 : (Try.prog.info? 3).map (fun i => (i.zero, i.size, i.bytes)) = some (some (.int .i64 0), 1, 8) := by kernel_rfl
def tabI (n : Nat) (z : Nat → Int) : Array Value := tab n (fun i => .int .i64 (z i))
theorem make_ints (n : Nat) (hn : n ≤ 1000000) (w : World) : (Instr.makeSlice 22 (.int .i64 n) (.int .i64 n)).run Try.prog w = .ok (.slice (some ⟨w.heap.size, 0, none⟩) n n) (w.alloc (.cells (tabI n (fun _ => 0)) 3)) := by
  obtain ⟨i0, hi, hz0, hz1, hz2⟩ := info_parts Try.info3
  have := run_make (P := Try.prog) w 22 3 i0 (.int .i64 0) Try.underlying22 hi hz0 .i64 .i64 n n (by omega) (by omega) (by rw [hz2]; omega) (by omega)
  rw [this, hz1]
  unfold tabI
  rw [← tab_made]
  simp [Value.cells]

theorem norm_no (a : Option Addr) (b off n c : Nat) (z : Nat → Int) (log : Int) (w : World) (h : Ints .i64 w a b off n z) (hn : n ≤ 100000) (hno : normOk z n log = false) :
    Calls Try.prog 15 #[.slice a n c, .int .i64 log] w fun e w' => e = .returned (.tuple #[.slice none 0 0, .bool false]) ∧ w = w' := by
  have H := Lib.hid h
  clear h
  cases hlog : logOk log with
  | false =>
    have HLG := Lib.hid hlog
    clear hlog hno
    go_enter Try.func15, Try.ntmps15
    go_wp2_with fail
    refine (log_walk log _).mono ?_
    rintro e w1 ⟨rfl, rfl⟩
    rw [HLG.out]
    go_wp2_with fail
    go_ret2
    exact ⟨rfl, rfl⟩
  | true =>
    have HLG := Lib.hid hlog
    by_cases hn32 : n ≤ 32
    · have q : decide ((32 : Int) < (n : Int)) = false := by simp; omega
      cases hall : all01 cntOk z n with
      | false =>
        have HA := Lib.hid hall
        clear hlog hno hall
        go_enter Try.func15, Try.ntmps15
        go_wp2_with fail
        refine (log_walk log _).mono ?_
        rintro e w1 ⟨rfl, rfl⟩
        rw [HLG.out]
        go_wp2_with fail
        refine (contains28 a b off n c z _ H.out false HA.out (by omega)).mono ?_
        rintro e w1 ⟨rfl, rfl⟩
        go_wp2_with fail
        go_ret2
        exact ⟨rfl, rfl⟩
      | true =>
        have HA := Lib.hid hall
        have hs : sumZ z n = 0 := by
          have : normOk z n log = (logOk log && decide (n ≤ 32) && all01 cntOk z n && decide (sumZ z n ≠ 0)) := rfl
          rw [this, hlog, hall] at hno
          simp [hn32] at hno
          exact hno
        have hbd : ∀ i, i < n → -2147483648 ≤ z i ∧ z i ≤ 2147483648 := fun i hi => by
          have := (all01_iff _ z n).1 hall i hi
          simp [cntOk] at this
          omega
        have HS := Lib.hid hs
        have HBD := Lib.hid hbd
        clear hlog hno hall hs hbd
        go_enter Try.func15, Try.ntmps15
        go_wp2_with fail
        refine (log_walk log _).mono ?_
        rintro e w1 ⟨rfl, rfl⟩
        rw [HLG.out]
        go_wp2_with fail
        refine (contains28 a b off n c z _ H.out true HA.out (by omega)).mono ?_
        rintro e w1 ⟨rfl, rfl⟩
        go_wp2_with fail
        refine (sum_walk a b off n c z _ H.out (by omega) HBD.out).mono ?_
        rintro e w1 ⟨rfl, rfl⟩
        rw [HS.out]
        go_wp2_with fail
        go_ret2
        exact ⟨rfl, rfl⟩
    · have q : decide ((32 : Int) < (n : Int)) = true := by simp; omega
      clear hlog hno
      go_enter Try.func15, Try.ntmps15
      go_wp2_with fail
      refine (log_walk log _).mono ?_
      rintro e w1 ⟨rfl, rfl⟩
      rw [HLG.out]
      go_wp2_with fail
      go_ret2
      exact ⟨rfl, rfl⟩
end Go.Proofs.Ytaacphmbkieacaa
