/- The law BitsPuts, walked. -/
import Derived.Test.YtefkeofbhjmahaaK
namespace Go.Proofs.Ytefkeofbhjmahaa
open Go.RowKit Go.WideShapes
set_option linter.unusedVariables false
set_option linter.unusedSimpArgs false

theorem rput_form (b : Nat) (vv n : Int) (w : World) (v : Value) (l : List Bool) (hw : Wr w 28 b v l) (hl : l.length ≤ 900000) :
    Calls Try.prog 16 #[.pointer (some ⟨b, 0, none⟩), .int .i64 vv, .int .i64 n] w fun e w' => e = .returned (.bool (putOk vv n)) ∧
      ∃ a c, Wr w' 28 b (.slice a (putL vv n l).length c) (putL vv n l) ∧ Touch (Foot b v) w w' ∧ Fresh w.heap.size v (.slice a (putL vv n l).length c) :=
  (rput_walk b vv n w v l hw hl).mono fun e w' ⟨h1, v', h2, h3, h4⟩ => by
    obtain ⟨a, c, g, hv, _⟩ := wr_cells h2
    subst hv
    exact ⟨h1, a, c, h2, h3, h4⟩

theorem wpAnyH_mono {P : Program} {md : Region.Mode} {ops : Array Oper} {Q : Exit → Act → World → Prop} {S S' : World → Prop} (h : ∀ w, S' w → S w) :
    ∀ (fuel : Nat) (listed : Array Bool) (a : Act) (w : World), wpAnyH P md ops Q S' fuel listed a w → wpAnyH P md ops Q S fuel listed a w
  | 0, _, _, _, k => k
  | fuel + 1, _, _, _, k => ⟨k.1, fun i hi => wpOp_mono (fun a' w' k' => ⟨h _ k'.1, wpAnyH_mono h fuel _ a' w' k'.2⟩) (k.2 i hi)⟩

set_option maxRecDepth 100000 in
set_option maxHeartbeats 4000000 in
theorem BitsPuts_in (w : World) (a0 : Option Addr) (b0 o0 l0 c0 : Nat) (z0 : Nat → Nat → Int) (w0 : RecsIn 2 w a0 b0 o0 l0 c0 z0) (hl : l0 ≤ 200) :
    Calls Try.prog 3 #[.slice a0 l0 c0] w fun e w' => e = .returned (.bool true) ∧ Below w.heap.size w w' := by
  have d0 : decide ((200 : Int) < (l0 : Int)) = false := by simp; omega
  have Hat := Lib.hid w0.at_
  go_enter Try.func3, Try.ntmps3
  go_wp2_with fail
  refine (wnew_walk _).mono ?_
  rintro e w1 ⟨rfl, hw1, ht1, hs1⟩
  have Hw1 := Lib.hid hw1
  have Hs1 := Lib.hid hs1
  clear hw1 hs1
  go_wp2_with fail
  rw [Hs1.out]
  go_loopw [5] (fun i wr => ∃ k : Nat, ∃ l : List Bool, ∃ vp vx : Value, k ≤ l0 ∧ i = .int .i64 k ∧ Wr wr 53 w.heap.size vp l ∧ Wr wr 28 (w.heap.size + 1) vx l ∧ Two w.heap.size (w.heap.size + 1) vp vx ∧
      OwnB w.heap.size vp ∧ OwnB w.heap.size vx ∧ l.length ≤ 24 * k ∧ Touch (fun k => w.heap.size ≤ k) w wr) (fun i _ => l0 - (intOf i).toNat)
  case atStart =>
    refine ⟨0, [], _, _, by omega, rfl, Hw1.out.touch ((Touch.refl (fun _ => False) w1).alloc _) id (fun _ _ => id), ⟨by rw [← Hs1.out]; exact heap_alloc_new _ _, World.ownsRow_nil _ _ _ _, by simp [Value.ownBlock]⟩,
      ⟨by omega, by simp [Value.ownBlock], by simp [Value.ownBlock], by simp [Value.ownBlock]⟩, OwnB.nil _, OwnB.nil _, by simp, (ht1.alloc _).none⟩
  case round =>
    obtain ⟨k, l, vp, vx, hk, rfl, hp, hx, htwo, ho1, ho2, hlen, ht⟩ := hrel
    have Hp := Lib.hid hp
    have Hx := Lib.hid hx
    have Htwo := Lib.hid htwo
    clear hp hx htwo Hw1
    by_cases hlt : k < l0
    · obtain rfl := Hat.out (by omega)
      obtain ⟨e0, e1⟩ := rec2 w0 ht hlt
      have hll := putL_len (z0 k 0) (z0 k 1) l
      go_wp2_with fail
      refine wp_region_held_drew (S := fun wx => wx.cell? ⟨b0, o0 + k * 2, none⟩ = some (.int .i64 (z0 k 0)) ∧ wx.cell? ⟨b0, o0 + k * 2 + 1, none⟩ = some (.int .i64 (z0 k 1))) (by kernel_rfl) ⟨e0, e1⟩ (fun hHeld => ?_)
      refine wpAnyH_take (i := 0) (oi := { dst := some 20, op := Op.move (Operand.tmp 3), type := 23, pos := "law.go:28", after := #[], guard := none }) (v := .pointer (some ⟨w.heap.size, 0, none⟩)) rfl (by kernel_rfl) (by kernel_rfl) (by kernel_rfl) (fun _ _ _ h => h) (Or.inl ⟨by rfl, by intro w hSw; (try dsimp only at hSw); go_simp⟩) hHeld ?_
      simp only [Act.put, List.setIfInBounds_toArray, List.set_cons_zero, List.set_cons_succ]
      refine wpAnyH_take (i := 1) (oi := { dst := some 21, op := Op.move (Operand.tmp 0), type := 22, pos := "law.go:28", after := #[], guard := none }) (v := .slice (some ⟨b0, o0, none⟩) l0 c0) rfl (by kernel_rfl) (by kernel_rfl) (by kernel_rfl) (fun _ _ _ h => h) (Or.inl ⟨by rfl, by intro w hSw; (try dsimp only at hSw); go_simp⟩) hHeld ?_
      simp only [Act.put, List.setIfInBounds_toArray, List.set_cons_zero, List.set_cons_succ]
      refine wpAnyH_take (i := 2) (oi := { dst := some 22, op := Op.move (Operand.tmp 5), type := 3, pos := "law.go:28", after := #[], guard := none }) (v := .int .i64 k) rfl (by kernel_rfl) (by kernel_rfl) (by kernel_rfl) (fun _ _ _ h => h) (Or.inl ⟨by rfl, by intro w hSw; (try dsimp only at hSw); go_simp⟩) hHeld ?_
      simp only [Act.put, List.setIfInBounds_toArray, List.set_cons_zero, List.set_cons_succ]
      refine wpAnyH_take (i := 3) (oi := { dst := some 23, op := Op.indexAddr 22 (Operand.tmp 21) (Operand.tmp 22), type := 0, pos := "law.go:28", after := #[{ on := 1, ground := Ground.data }, { on := 2, ground := Ground.data }], guard := none }) (v := .pointer (some ⟨b0, o0 + k * 2, none⟩)) rfl (by kernel_rfl) (by kernel_rfl) (by kernel_rfl) (fun _ _ _ h => h) (Or.inl ⟨by rfl, by intro w hSw; (try dsimp only at hSw); go_simp⟩) hHeld ?_
      simp only [Act.put, List.setIfInBounds_toArray, List.set_cons_zero, List.set_cons_succ]
      refine wpAnyH_take (i := 4) (oi := { dst := some 24, op := Op.fieldAddr 31 (Operand.tmp 23) 0, type := 0, pos := "law.go:28", after := #[{ on := 3, ground := Ground.data }], guard := none }) (v := .pointer (some ⟨b0, o0 + k * 2, none⟩)) rfl (by kernel_rfl) (by kernel_rfl) (by kernel_rfl) (fun _ _ _ h => h) (Or.inl ⟨by rfl, by intro w hSw; (try dsimp only at hSw); go_simp⟩) hHeld ?_
      simp only [Act.put, List.setIfInBounds_toArray, List.set_cons_zero, List.set_cons_succ]
      refine wpAnyH_take (i := 5) (oi := { dst := some 25, op := Op.load 3 (Operand.tmp 24), type := 3, pos := "law.go:28", after := #[{ on := 4, ground := Ground.data }], guard := none }) (v := .int .i64 (z0 k 0)) rfl (by kernel_rfl) (by kernel_rfl) (by kernel_rfl) (fun _ _ _ h => h) (Or.inl ⟨by rfl, by intro w hSw; (try dsimp only at hSw); go_simp⟩) hHeld ?_
      simp only [Act.put, List.setIfInBounds_toArray, List.set_cons_zero, List.set_cons_succ]
      refine wpAnyH_take (i := 6) (oi := { dst := some 26, op := Op.move (Operand.tmp 0), type := 22, pos := "law.go:28", after := #[], guard := none }) (v := .slice (some ⟨b0, o0, none⟩) l0 c0) rfl (by kernel_rfl) (by kernel_rfl) (by kernel_rfl) (fun _ _ _ h => h) (Or.inl ⟨by rfl, by intro w hSw; (try dsimp only at hSw); go_simp⟩) hHeld ?_
      simp only [Act.put, List.setIfInBounds_toArray, List.set_cons_zero, List.set_cons_succ]
      refine wpAnyH_take (i := 7) (oi := { dst := some 27, op := Op.move (Operand.tmp 5), type := 3, pos := "law.go:28", after := #[], guard := none }) (v := .int .i64 k) rfl (by kernel_rfl) (by kernel_rfl) (by kernel_rfl) (fun _ _ _ h => h) (Or.inl ⟨by rfl, by intro w hSw; (try dsimp only at hSw); go_simp⟩) hHeld ?_
      simp only [Act.put, List.setIfInBounds_toArray, List.set_cons_zero, List.set_cons_succ]
      refine wpAnyH_take (i := 8) (oi := { dst := some 28, op := Op.indexAddr 22 (Operand.tmp 26) (Operand.tmp 27), type := 0, pos := "law.go:28", after := #[{ on := 6, ground := Ground.data }, { on := 7, ground := Ground.data }], guard := none }) (v := .pointer (some ⟨b0, o0 + k * 2, none⟩)) rfl (by kernel_rfl) (by kernel_rfl) (by kernel_rfl) (fun _ _ _ h => h) (Or.inl ⟨by rfl, by intro w hSw; (try dsimp only at hSw); go_simp⟩) hHeld ?_
      simp only [Act.put, List.setIfInBounds_toArray, List.set_cons_zero, List.set_cons_succ]
      refine wpAnyH_take (i := 9) (oi := { dst := some 29, op := Op.fieldAddr 31 (Operand.tmp 28) 1, type := 0, pos := "law.go:28", after := #[{ on := 8, ground := Ground.data }], guard := none }) (v := .pointer (some ⟨b0, o0 + k * 2 + 1, none⟩)) rfl (by kernel_rfl) (by kernel_rfl) (by kernel_rfl) (fun _ _ _ h => h) (Or.inl ⟨by rfl, by intro w hSw; (try dsimp only at hSw); go_simp⟩) hHeld ?_
      simp only [Act.put, List.setIfInBounds_toArray, List.set_cons_zero, List.set_cons_succ]
      refine wpAnyH_take (i := 10) (oi := { dst := some 30, op := Op.load 3 (Operand.tmp 29), type := 3, pos := "law.go:28", after := #[{ on := 9, ground := Ground.data }], guard := none }) (v := .int .i64 (z0 k 1)) rfl (by kernel_rfl) (by kernel_rfl) (by kernel_rfl) (fun _ _ _ h => h) (Or.inl ⟨by rfl, by intro w hSw; (try dsimp only at hSw); go_simp⟩) hHeld ?_
      simp only [Act.put, List.setIfInBounds_toArray, List.set_cons_zero, List.set_cons_succ]
      refine wpAnyH_take (i := 12) (oi := { dst := some 32, op := Op.move (Operand.tmp 4), type := 25, pos := "law.go:28", after := #[], guard := none }) (v := .pointer (some ⟨w.heap.size + 1, 0, none⟩)) rfl (by kernel_rfl) (by kernel_rfl) (by kernel_rfl) (fun _ _ _ h => h) (Or.inl ⟨by rfl, by intro w hSw; (try dsimp only at hSw); go_simp⟩) hHeld ?_
      simp only [Act.put, List.setIfInBounds_toArray, List.set_cons_zero, List.set_cons_succ]
      refine wpAnyH_take (i := 13) (oi := { dst := some 33, op := Op.move (Operand.tmp 0), type := 22, pos := "law.go:28", after := #[], guard := none }) (v := .slice (some ⟨b0, o0, none⟩) l0 c0) rfl (by kernel_rfl) (by kernel_rfl) (by kernel_rfl) (fun _ _ _ h => h) (Or.inl ⟨by rfl, by intro w hSw; (try dsimp only at hSw); go_simp⟩) hHeld ?_
      simp only [Act.put, List.setIfInBounds_toArray, List.set_cons_zero, List.set_cons_succ]
      refine wpAnyH_take (i := 14) (oi := { dst := some 34, op := Op.move (Operand.tmp 5), type := 3, pos := "law.go:28", after := #[], guard := none }) (v := .int .i64 k) rfl (by kernel_rfl) (by kernel_rfl) (by kernel_rfl) (fun _ _ _ h => h) (Or.inl ⟨by rfl, by intro w hSw; (try dsimp only at hSw); go_simp⟩) hHeld ?_
      simp only [Act.put, List.setIfInBounds_toArray, List.set_cons_zero, List.set_cons_succ]
      refine wpAnyH_take (i := 15) (oi := { dst := some 35, op := Op.indexAddr 22 (Operand.tmp 33) (Operand.tmp 34), type := 0, pos := "law.go:28", after := #[{ on := 13, ground := Ground.data }, { on := 14, ground := Ground.data }], guard := none }) (v := .pointer (some ⟨b0, o0 + k * 2, none⟩)) rfl (by kernel_rfl) (by kernel_rfl) (by kernel_rfl) (fun _ _ _ h => h) (Or.inl ⟨by rfl, by intro w hSw; (try dsimp only at hSw); go_simp⟩) hHeld ?_
      simp only [Act.put, List.setIfInBounds_toArray, List.set_cons_zero, List.set_cons_succ]
      refine wpAnyH_take (i := 16) (oi := { dst := some 36, op := Op.fieldAddr 31 (Operand.tmp 35) 0, type := 0, pos := "law.go:28", after := #[{ on := 15, ground := Ground.data }], guard := none }) (v := .pointer (some ⟨b0, o0 + k * 2, none⟩)) rfl (by kernel_rfl) (by kernel_rfl) (by kernel_rfl) (fun _ _ _ h => h) (Or.inl ⟨by rfl, by intro w hSw; (try dsimp only at hSw); go_simp⟩) hHeld ?_
      simp only [Act.put, List.setIfInBounds_toArray, List.set_cons_zero, List.set_cons_succ]
      refine wpAnyH_take (i := 17) (oi := { dst := some 37, op := Op.load 3 (Operand.tmp 36), type := 3, pos := "law.go:28", after := #[{ on := 16, ground := Ground.data }], guard := none }) (v := .int .i64 (z0 k 0)) rfl (by kernel_rfl) (by kernel_rfl) (by kernel_rfl) (fun _ _ _ h => h) (Or.inl ⟨by rfl, by intro w hSw; (try dsimp only at hSw); go_simp⟩) hHeld ?_
      simp only [Act.put, List.setIfInBounds_toArray, List.set_cons_zero, List.set_cons_succ]
      refine wpAnyH_take (i := 18) (oi := { dst := some 38, op := Op.move (Operand.tmp 0), type := 22, pos := "law.go:28", after := #[], guard := none }) (v := .slice (some ⟨b0, o0, none⟩) l0 c0) rfl (by kernel_rfl) (by kernel_rfl) (by kernel_rfl) (fun _ _ _ h => h) (Or.inl ⟨by rfl, by intro w hSw; (try dsimp only at hSw); go_simp⟩) hHeld ?_
      simp only [Act.put, List.setIfInBounds_toArray, List.set_cons_zero, List.set_cons_succ]
      refine wpAnyH_take (i := 19) (oi := { dst := some 39, op := Op.move (Operand.tmp 5), type := 3, pos := "law.go:28", after := #[], guard := none }) (v := .int .i64 k) rfl (by kernel_rfl) (by kernel_rfl) (by kernel_rfl) (fun _ _ _ h => h) (Or.inl ⟨by rfl, by intro w hSw; (try dsimp only at hSw); go_simp⟩) hHeld ?_
      simp only [Act.put, List.setIfInBounds_toArray, List.set_cons_zero, List.set_cons_succ]
      refine wpAnyH_take (i := 20) (oi := { dst := some 40, op := Op.indexAddr 22 (Operand.tmp 38) (Operand.tmp 39), type := 0, pos := "law.go:28", after := #[{ on := 18, ground := Ground.data }, { on := 19, ground := Ground.data }], guard := none }) (v := .pointer (some ⟨b0, o0 + k * 2, none⟩)) rfl (by kernel_rfl) (by kernel_rfl) (by kernel_rfl) (fun _ _ _ h => h) (Or.inl ⟨by rfl, by intro w hSw; (try dsimp only at hSw); go_simp⟩) hHeld ?_
      simp only [Act.put, List.setIfInBounds_toArray, List.set_cons_zero, List.set_cons_succ]
      refine wpAnyH_take (i := 21) (oi := { dst := some 41, op := Op.fieldAddr 31 (Operand.tmp 40) 1, type := 0, pos := "law.go:28", after := #[{ on := 20, ground := Ground.data }], guard := none }) (v := .pointer (some ⟨b0, o0 + k * 2 + 1, none⟩)) rfl (by kernel_rfl) (by kernel_rfl) (by kernel_rfl) (fun _ _ _ h => h) (Or.inl ⟨by rfl, by intro w hSw; (try dsimp only at hSw); go_simp⟩) hHeld ?_
      simp only [Act.put, List.setIfInBounds_toArray, List.set_cons_zero, List.set_cons_succ]
      refine wpAnyH_take (i := 22) (oi := { dst := some 42, op := Op.load 3 (Operand.tmp 41), type := 3, pos := "law.go:28", after := #[{ on := 21, ground := Ground.data }], guard := none }) (v := .int .i64 (z0 k 1)) rfl (by kernel_rfl) (by kernel_rfl) (by kernel_rfl) (fun _ _ _ h => h) (Or.inl ⟨by rfl, by intro w hSw; (try dsimp only at hSw); go_simp⟩) hHeld ?_
      simp only [Act.put, List.setIfInBounds_toArray, List.set_cons_zero, List.set_cons_succ]
      refine wpAnyH_ready (rs := [11]) (by kernel_rfl) (by simp) ?_
      refine AllReadyH.cons (o := { dst := some 31, op := Op.call { callee := Callee.value (Operand.func 15), args := #[Operand.tmp 20, Operand.tmp 25, Operand.tmp 30], argTypes := #[23, 3, 3] }, type := 4, pos := "law.go:28", after := #[{ on := 0, ground := Ground.data }, { on := 5, ground := Ground.data }, { on := 10, ground := Ground.data }], guard := none }) rfl (fun K hK => ?_) AllReadyH.nil
      go_simp
      refine (put_walk _ _ _ _ _ _ Hp.out.drew (by omega)).mono ?_
      rintro e w3 ⟨rfl, vp3, hp3, ht3, hf3⟩
      have Hx3 := Lib.hid (Htwo.out.keep Hx.out.drew ht3)
      have two3 := Lib.hid (Htwo.out.fresh Hx.out.drew hf3)
      have Hp3 := Lib.hid hp3
      have T3 := Lib.hid (foot_own ht.drew (Nat.le_refl _) ho1 ht3)
      have ho3 := ho1.fresh hf3 ht.size
      clear hp3 ht3 hf3
      refine hK.out _ _ (rec2 w0 T3.out hlt) (fun hHeld => ?_)
      clear hK K
      try simp only [Act.put, List.setIfInBounds_toArray, List.set_cons_zero, List.set_cons_succ]
      refine wpAnyH_ready (rs := [23]) (by kernel_rfl) (by simp) ?_
      refine AllReadyH.cons (o := { dst := some 43, op := Op.call { callee := Callee.value (Operand.func 16), args := #[Operand.tmp 32, Operand.tmp 37, Operand.tmp 42], argTypes := #[25, 3, 3] }, type := 4, pos := "law.go:28", after := #[{ on := 12, ground := Ground.data }, { on := 17, ground := Ground.data }, { on := 22, ground := Ground.data }, { on := 11, ground := Ground.chain }], guard := none }) rfl (fun K hK => ?_) AllReadyH.nil
      go_simp
      refine (rput_form _ _ _ _ _ _ Hx3.out (by omega)).mono ?_
      rintro e w4 ⟨rfl, ax, cx, hx4, ht4, hf4⟩
      have Hp4 := Lib.hid (two3.out.symm.keep Hp3.out ht4)
      have two4 := Lib.hid (two3.out.symm.fresh Hp3.out hf4)
      have kx := cell_of_one hx4.cell
      have Hx4 := Lib.hid hx4
      have T4 := Lib.hid (foot_own T3.out (by omega) ho2 ht4)
      have ho4 := ho2.fresh hf4 T3.out.size
      clear hx4 ht4 hf4
      obtain ⟨l', hl'⟩ : ∃ l', putL (z0 k 0) (z0 k 1) l = l' := ⟨_, rfl⟩
      rw [hl'] at hll kx Hp4 Hx4 ho4 two4
      obtain ⟨ok, hok⟩ : ∃ ok, putOk (z0 k 0) (z0 k 1) = ok := ⟨_, rfl⟩
      rw [hok]
      have hokk : (ok != ok) = false := by cases ok <;> rfl
      refine hK.out _ _ (rec2 w0 T4.out hlt) (fun hHeld => ?_)
      clear hK K
      try simp only [Act.put, List.setIfInBounds_toArray, List.set_cons_zero, List.set_cons_succ]
      refine wpAnyH_mono (S' := fun wx => (wx.cell? ⟨b0, o0 + k * 2, none⟩ = some (.int .i64 (z0 k 0)) ∧ wx.cell? ⟨b0, o0 + k * 2 + 1, none⟩ = some (.int .i64 (z0 k 1))) ∧ wx.cell? ⟨w.heap.size + 1, 0, none⟩ = some (.slice ax l'.length cx)) (fun _ h => h.1) _ _ _ _ ?_
      have hHeld2 : (w4.cell? ⟨b0, o0 + k * 2, none⟩ = some (.int .i64 (z0 k 0)) ∧ w4.cell? ⟨b0, o0 + k * 2 + 1, none⟩ = some (.int .i64 (z0 k 1))) ∧ w4.cell? ⟨w.heap.size + 1, 0, none⟩ = some (.slice ax l'.length cx) := ⟨hHeld, kx⟩
      refine wpAnyH_take (i := 24) (oi := { dst := some 44, op := Op.binOp BinOp.neq 4 (Operand.tmp 31) (Operand.tmp 43) 4, type := 4, pos := "law.go:28", after := #[{ on := 11, ground := Ground.data }, { on := 23, ground := Ground.data }], guard := none }) (v := .bool false) rfl (by kernel_rfl) (by kernel_rfl) (by kernel_rfl) (fun _ _ _ h => h) (Or.inl ⟨by rfl, by intro w hSw; (try dsimp only at hSw); go_simp⟩) hHeld2 ?_
      simp only [Act.put, List.setIfInBounds_toArray, List.set_cons_zero, List.set_cons_succ]
      refine wpAnyH_take (i := 25) (oi := { dst := some 45, op := Op.move (Operand.tmp 44), type := 4, pos := "law.go:28", after := #[{ on := 24, ground := Ground.data }, { on := 23, ground := Ground.chain }], guard := none }) (v := .bool false) rfl (by kernel_rfl) (by kernel_rfl) (by kernel_rfl) (fun _ _ _ h => h) (Or.inl ⟨by rfl, by intro w hSw; (try dsimp only at hSw); go_simp⟩) hHeld2 ?_
      simp only [Act.put, List.setIfInBounds_toArray, List.set_cons_zero, List.set_cons_succ]
      refine wpAnyH_take (i := 26) (oi := { dst := some 46, op := Op.move (Operand.tmp 3), type := 23, pos := "law.go:28", after := #[{ on := 25, ground := Ground.guard }], guard := some (25, false) }) (v := .pointer (some ⟨w.heap.size, 0, none⟩)) rfl (by kernel_rfl) (by kernel_rfl) (by kernel_rfl) (fun _ _ _ h => h) (Or.inl ⟨by rfl, by intro w hSw; (try dsimp only at hSw); go_simp⟩) hHeld2 ?_
      simp only [Act.put, List.setIfInBounds_toArray, List.set_cons_zero, List.set_cons_succ]
      refine wpAnyH_take (i := 28) (oi := { dst := some 48, op := Op.move (Operand.tmp 4), type := 25, pos := "law.go:28", after := #[{ on := 25, ground := Ground.guard }], guard := some (25, false) }) (v := .pointer (some ⟨w.heap.size + 1, 0, none⟩)) rfl (by kernel_rfl) (by kernel_rfl) (by kernel_rfl) (fun _ _ _ h => h) (Or.inl ⟨by rfl, by intro w hSw; (try dsimp only at hSw); go_simp⟩) hHeld2 ?_
      simp only [Act.put, List.setIfInBounds_toArray, List.set_cons_zero, List.set_cons_succ]
      refine wpAnyH_take (i := 29) (oi := { dst := some 49, op := Op.nilCheck (Operand.tmp 48), type := 0, pos := "law.go:28", after := #[{ on := 28, ground := Ground.data }, { on := 25, ground := Ground.guard }], guard := some (25, false) }) (v := .pointer (some ⟨w.heap.size + 1, 0, none⟩)) rfl (by kernel_rfl) (by kernel_rfl) (by kernel_rfl) (fun _ _ _ h => h) (Or.inl ⟨by rfl, by intro w hSw; (try dsimp only at hSw); go_simp⟩) hHeld2 ?_
      simp only [Act.put, List.setIfInBounds_toArray, List.set_cons_zero, List.set_cons_succ]
      refine wpAnyH_take (i := 30) (oi := { dst := some 50, op := Op.fieldAddr 28 (Operand.tmp 49) 0, type := 0, pos := "law.go:28", after := #[{ on := 29, ground := Ground.data }, { on := 25, ground := Ground.guard }], guard := some (25, false) }) (v := .pointer (some ⟨w.heap.size + 1, 0, none⟩)) rfl (by kernel_rfl) (by kernel_rfl) (by kernel_rfl) (fun _ _ _ h => h) (Or.inl ⟨by rfl, by intro w hSw; (try dsimp only at hSw); go_simp⟩) hHeld2 ?_
      simp only [Act.put, List.setIfInBounds_toArray, List.set_cons_zero, List.set_cons_succ]
      refine wpAnyH_take (i := 31) (oi := { dst := some 51, op := Op.load 26 (Operand.tmp 50), type := 26, pos := "law.go:28", after := #[{ on := 30, ground := Ground.data }, { on := 25, ground := Ground.guard }], guard := some (25, false) }) (v := .slice ax l'.length cx) rfl (by kernel_rfl) (by kernel_rfl) (by kernel_rfl) (fun _ _ _ h => h) (Or.inl ⟨by rfl, by intro w hSw; (try dsimp only at hSw); go_simp⟩) hHeld2 ?_
      simp only [Act.put, List.setIfInBounds_toArray, List.set_cons_zero, List.set_cons_succ]
      refine wpAnyH_take (i := 32) (oi := { dst := some 52, op := Op.call { callee := Callee.builtin Builtin.len, args := #[Operand.tmp 51], argTypes := #[26] }, type := 3, pos := "law.go:28", after := #[{ on := 31, ground := Ground.data }, { on := 25, ground := Ground.guard }], guard := some (25, false) }) (v := .int .i64 l'.length) rfl (by kernel_rfl) (by kernel_rfl) (by kernel_rfl) (fun _ _ _ h => h) (Or.inl ⟨by rfl, by intro w hSw; (try dsimp only at hSw); go_simp⟩) hHeld2 ?_
      simp only [Act.put, List.setIfInBounds_toArray, List.set_cons_zero, List.set_cons_succ]
      refine wpAnyH_ready (rs := [27]) (by kernel_rfl) (by simp) ?_
      refine AllReadyH.cons (o := { dst := some 47, op := Op.call { callee := Callee.value (Operand.func 17), args := #[Operand.tmp 46], argTypes := #[23] }, type := 3, pos := "law.go:28", after := #[{ on := 26, ground := Ground.data }, { on := 25, ground := Ground.chain }, { on := 25, ground := Ground.guard }], guard := some (25, false) }) rfl (fun K hK => ?_) AllReadyH.nil
      go_simp
      refine (len_walk _ _ _ _ Hp4.out).mono ?_
      rintro e w5 ⟨rfl, rfl⟩
      refine hK.out _ _ hHeld2 (fun _ => ?_)
      clear hK K
      try simp only [Act.put, List.setIfInBounds_toArray, List.set_cons_zero, List.set_cons_succ]
      refine wpAnyH_take (i := 33) (oi := { dst := some 53, op := Op.binOp BinOp.neq 3 (Operand.tmp 47) (Operand.tmp 52) 3, type := 4, pos := "law.go:28", after := #[{ on := 27, ground := Ground.data }, { on := 32, ground := Ground.data }, { on := 25, ground := Ground.guard }], guard := some (25, false) }) (v := .bool false) rfl (by kernel_rfl) (by kernel_rfl) (by kernel_rfl) (fun _ _ _ h => h) (Or.inl ⟨by rfl, by intro w hSw; (try dsimp only at hSw); go_simp⟩) hHeld2 ?_
      simp only [Act.put, List.setIfInBounds_toArray, List.set_cons_zero, List.set_cons_succ]
      refine wpAnyH_take (i := 34) (oi := { dst := some 54, op := Op.pick (Operand.tmp 45) (Operand.const (Value.bool true)) (Operand.tmp 53), type := 4, pos := "law.go:28", after := #[{ on := 25, ground := Ground.data }, { on := 33, ground := Ground.data }], guard := none }) (v := .bool false) rfl (by kernel_rfl) (by kernel_rfl) (by kernel_rfl) (fun _ _ _ h => h) (Or.inl ⟨by rfl, by intro w hSw; (try dsimp only at hSw); go_simp⟩) hHeld2 ?_
      simp only [Act.put, List.setIfInBounds_toArray, List.set_cons_zero, List.set_cons_succ]
      refine wpAnyH_done (by kernel_rfl) ?_ _
      clear hHeld hHeld2 kx hok hl'
      go_wp2_with fail
      go_roundw
      case rel => exact ⟨k + 1, l', vp3, _, by omega, by go_num, Hp4.out, Hx4.out, two4.out.symm, ho3, ho4, by omega, T4.out⟩
      case measure => simp [intOf]; omega
    · obtain rfl : k = l0 := by omega
      clear ho1 ho2 hk hlt d0
      go_wp2_with fail
      go_region_law (first
        | (go_simp; go_at_call 20; refine (known_walk _).mono ?_; rintro e w6 ⟨rfl, ht6⟩)
        | (go_simp; go_at_call 19; refine (rbytes_walk _ _ _ _ Hx4.out (by omega)).mono ?_; rintro e w5 ⟨rfl, hb5, ht5⟩; have hcv5 : (convert 33 9 (.slice (some ⟨w4.heap.size, 0, none⟩) (l.length / 8 + 1) (l.length / 8 + 1))).run Try.prog w5 = .ok (.string (strBits l)) w5 := conv_bytes hb5; have hcv45 : (convert 33 9 (.slice (some ⟨wr.heap.size, 0, none⟩) (l.length / 8 + 1) (l.length / 8 + 1))).run Try.prog w5 = .ok (.string (strBits l)) w5 := conv_bytes (ht5.heap Hb4.out id); clear hb5)
        | (go_simp; go_at_call 18; refine (bytes_walk _ _ _ _ Hp.out.drew (by omega)).mono ?_; rintro e w4 ⟨rfl, hb4, ht4⟩; have Hb4 := Lib.hid hb4; have hcv4 : (convert 33 9 (.slice (some ⟨wr.heap.size, 0, none⟩) (l.length / 8 + 1) (l.length / 8 + 1))).run Try.prog w4 = .ok (.string (strBits l)) w4 := conv_bytes hb4; have Hx4 := Lib.hid (Hx.out.drew.touch ht4 id (fun _ _ => id)); clear hb4))
      all_goals
        go_wp2_with fail
        go_ret
        exact ⟨rfl, (((ht.drew.then ht4 (fun _ _ h => h.elim)).then ht5 (fun _ _ h => h.elim)).then ht6 (fun _ _ h => h.elim)).below (Nat.le_refl _)⟩

theorem BitsPuts_law (w : World) (a0 : Option Addr) (b0 o0 l0 c0 : Nat) (z0 : Nat → Nat → Int) (w0 : RecsIn 2 w a0 b0 o0 l0 c0 z0) :
    Calls Try.prog 3 #[.slice a0 l0 c0] w fun e w' => e = .returned (.bool true) ∧ Below w.heap.size w w' := by
  by_cases hl : 200 < l0
  · go_enter Try.func3, Try.ntmps3
    go_wp2_with fail
    go_ret
    exact ⟨rfl, Below.refl _ _⟩
  · exact BitsPuts_in w a0 b0 o0 l0 c0 z0 w0 (by omega)
end Go.Proofs.Ytefkeofbhjmahaa
