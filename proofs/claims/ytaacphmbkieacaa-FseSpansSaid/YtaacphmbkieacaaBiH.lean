/- bits: bytes that came in, read. -/
import Derived.Test.YtaacphmbkieacaaBiG
namespace Go.Proofs.Ytaacphmbkieacaa
open Go.RowKit

theorem u8_wf {a : Int} (h : (Lit.int .u8 a).wf = true) : 0 ≤ a ∧ a < 256 := by
  simp [Lit.wf] at h
  have h1 : IntKind.u8.min = 0 := by decide
  have h2 : IntKind.u8.max = 255 := by decide
  omega
theorem seen_in {w w' : World} {a : Option Addr} {b off len cap : Nat} {z : Nat → Int} (h : IntsIn .u8 w a b off len cap z) (ht : Touch (fun _ => False) w w') : Seen w' a b off len (fun i => (z i).toNat) :=
  ⟨h.at_, fun i hi => by
    have hc := ht.cell (h.cell i hi) id
    have := u8_wf (h.wf i)
    rw [hc]; congr 2; omega, fun i => by have := u8_wf (h.wf i); omega⟩
theorem Wr.drewN {w : World} {t : TypeId} {b : Nat} {v : Value} {l : List Bool} (h : Wr w t b v l) (n : Nat) : Wr (w.drewN n) t b v l := ⟨h.cell, h.row, h.apart⟩
theorem Rd.drewN {w : World} {t : Nat} {v : Value} {N : Nat} (h : Rd w t v N) (n : Nat) : Rd (w.drewN n) t v N := ⟨h.cell⟩
theorem Rd.cellN {w : World} {t : Nat} {v : Value} {N : Nat} (h : Rd w t v N) : w.cell? ⟨t, 1, none⟩ = some (.int .i64 N) := by simp [World.cell?, h.cell]
theorem Rd.touch {w w' : World} {t : Nat} {v : Value} {N : Nat} {S : Nat → Prop} (h : Rd w t v N) (ht : Touch S w w') (hs : ¬ S t) : Rd w' t v N := ⟨ht.heap h.cell hs⟩
theorem takeOk_read (z : Nat → Nat) (N : Nat) (n : Int) : takeOk n (readBits z N).length = takeOk n N := by rw [readBits_length]
/-- What is left behind a take. -/
def leftN (N : Nat) (n : Int) : Nat := if takeOk n N then N - n.toNat else N
theorem leftN_le (N : Nat) (n : Int) : leftN N n ≤ N := by unfold leftN; split <;> omega
theorem takenL_read (z : Nat → Nat) (N : Nat) (n : Int) : takenL (readBits z N) n = readBits z (leftN N n) := by
  unfold takenL leftN
  rw [takeOk_read, readBits_length]
  split
  · rw [readBits_take _ _ _ (by omega)]
  · rfl
end Go.Proofs.Ytaacphmbkieacaa
