/- Small facts for the laws over scripts. -/
import Derived.Test.YthpnppaighjhmaaC
import Derived.Test.YthpnppaighjhmaaOpen
import Derived.OpenShut
namespace Go.Proofs.Ythpnppaighjhmaa
open Go.RowKit Go.WideShapes

theorem Pur.drew {w : World} {t : TypeId} {b : Nat} {all each : Int} {u : Nat → Int} (h : Pur w t b all each u) : Pur w.drew t b all each u := h
theorem rec3 {w : World} {a : Option Addr} {b o l c : Nat} {z : Nat → Nat → Int} (h : RecsIn 3 w a b o l c z) {w' : World} (ht : Touch (fun k => w.heap.size ≤ k) w w') {i : Nat} (hi : i < l) :
    w'.cell? ⟨b, o + i * 3, none⟩ = some (.int .i64 (z i 0)) ∧ w'.cell? ⟨b, o + i * 3 + 1, none⟩ = some (.int .i64 (z i 1)) ∧ w'.cell? ⟨b, o + i * 3 + 2, none⟩ = some (.int .i64 (z i 2)) := by
  have hb := h.lt (by omega)
  have e := ht.block b hb (by omega)
  have c0 := h.cell i hi 0 (by omega)
  have c1 := h.cell i hi 1 (by omega)
  have c2 := h.cell i hi 2 (by omega)
  simp only [World.cell?] at c0 c1 c2 ⊢
  rw [e]
  exact ⟨c0, c1, c2⟩

theorem own_touch {w a b : World} {p : Nat} (hp : w.heap.size ≤ p) (h : Touch (fun k => w.heap.size ≤ k) w a) (k : Touch (· = p) a.drew b) : Touch (fun k => w.heap.size ≤ k) w b :=
  h.drew.trans (k.mono fun _ _ e => by omega)


end Go.Proofs.Ythpnppaighjhmaa
