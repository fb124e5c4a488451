/- seqs: the program's Pack, and the laws of Pack. No condition. -/
import Derived.Test.YthnhacbagmhfoaaM3
import Derived.Test.YthnhacbagmhfoaaM2
/- seqs: numbers. -/
namespace Go.Proofs.Ythnhacbagmhfoaa
open Go.RowKit Go.WideShapes Fs
set_option linter.unusedVariables false
set_option linter.unusedSimpArgs false
set_option maxRecDepth 100000

/-- Three slices in a row. -/
def Tri (w : World) (g : Nat) (u v x : Value) : Prop := w.heap[g]? = some (.cells #[u, v, x] 60 (0, 0))
theorem Tri.cells {w : World} {g : Nat} {u v x : Value} (h : Tri w g u v x) : w.cell? ⟨g, 0, none⟩ = some u ∧ w.cell? ⟨g, 1, none⟩ = some v ∧ w.cell? ⟨g, 2, none⟩ = some x := by
  unfold Tri at h
  simp [World.cell?, h]
theorem Tri.free {w : World} {g : Nat} {u v x : Value} (h : Tri w g u v x) (i : Nat) : w.frozen? ⟨g, i, none⟩ = false := by
  unfold Tri at h
  simp [World.frozen?, h]
theorem Tri.touch {w w' : World} {g : Nat} {u v x : Value} {S : Nat → Prop} (h : Tri w g u v x) (t : Touch S w w') (hs : ¬ S g) : Tri w' g u v x := t.heap h hs
theorem Tri.set0 {w : World} {g : Nat} {u v x : Value} (h : Tri w g u v x) (y : Value) : Tri (w.setCell ⟨g, 0, none⟩ y) g y v x := heap_setCell_same (o := 0) h y
theorem Tri.set1 {w : World} {g : Nat} {u v x : Value} (h : Tri w g u v x) (y : Value) : Tri (w.setCell ⟨g, 1, none⟩ y) g u y x := heap_setCell_same (o := 1) h y
theorem Tri.set2 {w : World} {g : Nat} {u v x : Value} (h : Tri w g u v x) (y : Value) : Tri (w.setCell ⟨g, 2, none⟩ y) g u v y := heap_setCell_same (o := 2) h y
theorem touch_cell (w : World) (g o : Nat) (y : Value) : Touch (· = g) w (w.setCell ⟨g, o, none⟩ y) := (Touch.refl (· = g) w).setCell (p := ⟨g, o, none⟩) (fun _ => rfl) y
theorem size_one (w : World) (o : Obj) : (w.alloc o).heap.size = w.heap.size + 1 := Array.size_push _
theorem alloc4 (w : World) (o1 o2 o3 o4 : Obj) : (((((w.alloc o1).alloc o2).alloc o3).alloc o4).heap[w.heap.size]? = some o1 ∧ ((((w.alloc o1).alloc o2).alloc o3).alloc o4).heap[w.heap.size + 1]? = some o2 ∧ ((((w.alloc o1).alloc o2).alloc o3).alloc o4).heap[w.heap.size + 1 + 1]? = some o3 ∧ ((((w.alloc o1).alloc o2).alloc o3).alloc o4).heap[w.heap.size + 1 + 1 + 1]? = some o4) ∧ ((((w.alloc o1).alloc o2).alloc o3).alloc o4).heap.size = w.heap.size + 4 ∧ Touch (fun _ => False) w ((((w.alloc o1).alloc o2).alloc o3).alloc o4) := by
  have e1 := size_one w o1
  have e2 := size_one (w.alloc o1) o2
  have e3 := size_one ((w.alloc o1).alloc o2) o3
  have e4 := size_one (((w.alloc o1).alloc o2).alloc o3) o4
  have q5 := heap_alloc_2 (w.alloc o1) o2 o3
  have q6 := heap_alloc_2 ((w.alloc o1).alloc o2) o3 o4
  rw [e1] at q5
  rw [e2, e1] at q6
  have t2 := (Touch.new ((w.alloc o1).alloc o2) o3).trans (Touch.new _ o4)
  exact ⟨⟨((Touch.new (w.alloc o1) o2).trans t2).heap (heap_alloc_new w o1) id, t2.heap (heap_alloc_2 w o1 o2) id, (Touch.new _ o4).heap q5 id, q6⟩, by omega, (Touch.new w o1).trans ((Touch.new (w.alloc o1) o2).trans t2)⟩

theorem Try.size60 : (Try.prog.info? 60).map (·.size) = some 3 := by kernel_rfl
theorem Tri.load {w : World} {g n1 n2 n3 c1 c2 c3 : Nat} {a1 a2 a3 : Option Addr} (h : Tri w g (.slice a1 n1 c1) (.slice a2 n2 c2) (.slice a3 n3 c3)) : (loadVar 60 ⟨g, 0, none⟩).run Try.prog w = .ok (.agg #[.slice a1 n1 c1, .slice a2 n2 c2, .slice a3 n3 c3]) w :=
  run_loadVar_row w g 60 60 _ (0, 0) _ h Try.underlying60 rfl Try.size60
theorem results_cc {fn : Func} {a b : Tmp} {t u : TypeId} (h : fn.results = #[.cell a t, .cell b u]) (tmps : Array Value) (P : Program) (w : World) (p q : Addr) (v x : Value) (hp : tmps.getD a undef = .pointer (some p)) (hq : tmps.getD b undef = .pointer (some q)) (hl : (loadVar t p).run P w = .ok v w) (hm : (loadVar u q).run P w = .ok x w) :
    (results fn tmps).run P w = .ok (.tuple #[v, x]) w := by
  have hp' : tmps[a]?.getD undef = .pointer (some p) := by simpa using hp
  have hq' : tmps[b]?.getD undef = .pointer (some q) := by simpa using hq
  simp [results, h, hp', hq', asAddr, hl, hm]

structure NumPost (z : Nat → Nat → Int) (h : H3) (n : Nat) (w : World) (w' : World) (xl xo xm : Option Addr) (xlb xob xmb : Nat) : Prop where
  l : Ints .i64 w' xl xlb 0 n (fun i => (vLit z i : Int))
  o : Ints .i64 w' xo xob 0 n (fun i => (vOff z h i : Int))
  m : Ints .i64 w' xm xmb 0 n (fun i => (vMore z i : Int))
  t : Touch (fun _ => False) w w'
  lb : 0 < n → w.heap.size ≤ xlb ∧ w.heap.size ≤ xob ∧ w.heap.size ≤ xmb

/-- What stays while the two rows grow. -/
structure NumI (s G : Nat) (w : World) (H2 : H3) (xo : Option Addr) (xob l xoc : Nat) (zo : Nat → Int) (wr : World) (u v : Value) : Prop where
  tri : Tri wr (s + 1 + 1 + 1) u (.slice xo l xoc) v
  a3 : Arr wr s H2
  a5 : Arr wr (s + 1 + 1) ⟨0, 0, 0⟩
  t4 : Tri wr (s + 1) (.slice none 0 0) (.slice none 0 0) (.slice none 0 0)
  o : Ints .i64 wr xo xob 0 l zo
  t : Touch (fun _ => False) w wr
  sz : G ≤ wr.heap.size
  lo : s + 4 ≤ G
  ws : w.heap.size = s
  xb : 0 < l → s + 4 ≤ xob ∧ xob < G
theorem NumI.past {s G : Nat} {w wr w' : World} {H2 : H3} {xo : Option Addr} {xob l xoc : Nat} {zo : Nat → Int} {u v : Value} (h : NumI s G w H2 xo xob l xoc zo wr u v) (t : Touch (fun q => G ≤ q) wr w') : NumI s G w H2 xo xob l xoc zo w' u v :=
  have lo := h.lo
  ⟨h.tri.touch t (fun e => by omega), h.a3.touch t (fun e => by omega), h.a5.touch t (fun e => by omega), h.t4.touch t (fun e => by omega), Ints.touchS h.o t (fun hp e => by have := (h.xb hp).2; omega),
    h.t.then t (fun i hi e => by have := h.ws; omega), Nat.le_trans h.sz t.size, lo, h.ws, h.xb⟩
theorem NumI.new {s G : Nat} {w wr : World} {H2 : H3} {xo : Option Addr} {xob l xoc : Nat} {zo : Nat → Int} {u v : Value} (h : NumI s G w H2 xo xob l xoc zo wr u v) {q : Obj} : NumI s G w H2 xo xob l xoc zo (wr.alloc q) u v := h.past ((Touch.refl _ wr).alloc q)
theorem NumI.six {s G : Nat} {w wr w' : World} {H2 : H3} {xo : Option Addr} {xob l xoc : Nat} {zo : Nat → Int} {u v u' v' : Value} (h : NumI s G w H2 xo xob l xoc zo wr u v) (t : Touch (· = s + 1 + 1 + 1) wr w') (h6 : Tri w' (s + 1 + 1 + 1) u' (.slice xo l xoc) v') : NumI s G w H2 xo xob l xoc zo w' u' v' :=
  have lo := h.lo
  ⟨h6, h.a3.touch t (fun e => by omega), h.a5.touch t (fun e => by omega), h.t4.touch t (fun e => by omega), Ints.touchS h.o t (fun hp e => by have := (h.xb hp).1; omega),
    h.t.then t (fun i hi e => by have := h.ws; omega), Nat.le_trans h.sz t.size, lo, h.ws, h.xb⟩
theorem NumI.set0 {s G : Nat} {w wr : World} {H2 : H3} {xo : Option Addr} {xob l xoc : Nat} {zo : Nat → Int} {u v : Value} (h : NumI s G w H2 xo xob l xoc zo wr u v) (y : Value) : NumI s G w H2 xo xob l xoc zo (wr.setCell ⟨s + 1 + 1 + 1, 0, none⟩ y) y v := h.six (touch_cell _ _ _ _) (h.tri.set0 y)
theorem NumI.set2 {s G : Nat} {w wr : World} {H2 : H3} {xo : Option Addr} {xob l xoc : Nat} {zo : Nat → Int} {u v : Value} (h : NumI s G w H2 xo xob l xoc zo wr u v) (y : Value) : NumI s G w H2 xo xob l xoc zo (wr.setCell ⟨s + 1 + 1 + 1, 2, none⟩ y) u y := h.six (touch_cell _ _ _ _) (h.tri.set2 y)
/-- Two rows stay when a block below them is stored into. -/
theorem Two.cell {G g o : Nat} {w : World} {u v y : Value} {k m : Nat} {zu zv : Nat → Int} (h : Two G w u v k m zu zv) (hg : g < G) : Two G (w.setCell ⟨g, o, none⟩ y) u v k m zu zv :=
  ⟨(touch_cell w g o y).row h.ru (fun b hb e => by have := h.ou b hb; omega), (touch_cell w g o y).row h.rv (fun b hb e => by have := h.ov b hb; omega), h.ou, h.ov, h.ap⟩

set_option maxHeartbeats 4000000 in
theorem numbers_walk (w : World) (a0 : Option Addr) (b0 o0 l0 c0 : Nat) (z0 : Nat → Nat → Int) (w0 : RecsIn 3 w a0 b0 o0 l0 c0 z0) (h : H3) (hp : packOk z0 l0 = true) :
    Calls Try.prog 38 #[.slice a0 l0 c0, h.val] w fun e w' => ∃ xl xlb xlc xo xob xoc xm xmb xmc, e = .returned (.tuple #[.agg #[.slice xl l0 xlc, .slice xo l0 xoc, .slice xm l0 xmc], (histO (fun i => z0 i 1) h l0).val]) ∧ NumPost z0 h l0 w w' xl xo xm xlb xob xmb := by
  obtain ⟨i0, hi, hz0, hz1, hz2⟩ := info_parts Try.info3
  have W0 := Lib.hid w0
  have HY := Lib.hid hp
  have h5 := (pack_ok hp).1
  have HOF := Lib.hid (fun w w0 => offsets_walk w a0 b0 o0 l0 c0 z0 w0 h (Nat.le_trans h5 (by decide)) (fun i hi => off_bd hp hi))
  have HOC := Lib.hid (fun i hi => off_cast (h := h) hp (i := i) hi)
  obtain ⟨H2, hH2⟩ : ∃ H2, histO (fun i => z0 i 1) h l0 = H2 := ⟨_, rfl⟩
  rw [hH2] at HOF ⊢
  clear w0 hp hH2
  obtain ⟨⟨q3, q4, q5, q6⟩, qs, qt⟩ := alloc4 w (.cells #[.int .i64 h.a, .int .i64 h.b, .int .i64 h.c] 31) (.cells #[.slice none 0 0, .slice none 0 0, .slice none 0 0] 60) (.cells #[.int .i64 0, .int .i64 0, .int .i64 0] 31) (.cells #[.slice none 0 0, .slice none 0 0, .slice none 0 0] 60)
  unfold H3.val arr3 at HOF ⊢
  go_enter Try.func38, Try.ntmps38
  go_wp2_with fail
  obtain ⟨wq, hwq⟩ : ∃ wq, (((w.alloc (.cells #[.int .i64 h.a, .int .i64 h.b, .int .i64 h.c] 31)).alloc (.cells #[.slice none 0 0, .slice none 0 0, .slice none 0 0] 60)).alloc (.cells #[.int .i64 0, .int .i64 0, .int .i64 0] 31)).alloc (.cells #[.slice none 0 0, .slice none 0 0, .slice none 0 0] 60) = wq := ⟨_, rfl⟩
  rw [hwq] at q3 q4 q5 q6 qs qt ⊢
  have HA := Lib.hid (show Arr wq w.heap.size h from q3)
  have H4 := Lib.hid (show Tri wq (w.heap.size + 1) (.slice none 0 0) (.slice none 0 0) (.slice none 0 0) from q4)
  have H5 := Lib.hid (show Arr wq (w.heap.size + 1 + 1) ⟨0, 0, 0⟩ from q5)
  have H6 := Lib.hid (show Tri wq (w.heap.size + 1 + 1 + 1) (.slice none 0 0) (.slice none 0 0) (.slice none 0 0) from q6)
  have HS := Lib.hid qs
  have HQT := Lib.hid qt
  clear q3 q4 q5 q6 qs qt hwq
  refine (HOF.out _ (recs_touch W0.out HQT.out)).mono ?_
  rintro e w1 ⟨v1, rfl, out1⟩
  have hro := out1.row
  rw [cellsZ_congr (fun i hi => HOC.out i hi)] at hro
  obtain ⟨xo, xob, xoc, hvo, hio⟩ := ints_row hro
  have howo := out1.own
  subst hvo
  have hA1 := HA.out.touch out1.touch id
  have h61 := H6.out.touch out1.touch id
  have H51 := Lib.hid (H5.out.touch out1.touch id)
  have H41 := Lib.hid (H4.out.touch out1.touch id)
  have hsz := out1.touch.size
  have hxl : 0 < l0 → w.heap.size + 4 ≤ xob := fun hp => by
    rw [hio.at_ hp] at howo
    have := howo xob rfl
    rw [HS.out] at this; exact this
  have HXL := Lib.hid hxl
  have HT1 := Lib.hid (HQT.out.trans out1.touch)
  have HIO := Lib.hid hio
  have HSZ := Lib.hid hsz
  clear hro hio out1 howo hsz hxl HA H4 H5 H6
  obtain ⟨f0, f1, f2⟩ := h61.cells
  have g0 := h61.free 0
  have g1 := h61.free 1
  have g2 := h61.free 2
  have s1 := touch_cell w1 (w.heap.size + 1 + 1 + 1) 1 (.slice xo l0 xoc)
  have hA2 := hA1.touch s1 (fun e => by omega)
  obtain ⟨p0, p1, p2⟩ := hA2.cells
  have r0 := hA2.free 0
  have r1 := hA2.free 1
  have r2 := hA2.free 2
  have s2 := s1.mono (S' := fun q => q = w.heap.size ∨ q = w.heap.size + 1 + 1 + 1) (fun _ _ e => Or.inr e)
  have s3 := s2.trans ((touch_put3 (w1.setCell ⟨w.heap.size + 1 + 1 + 1, 1, none⟩ (.slice xo l0 xoc)) w.heap.size H2).mono (fun _ _ e => Or.inl e))
  have hs4 : w.heap.size + 4 ≤ w1.heap.size := by have := HS.out; have := HSZ.out; omega
  have hI : NumI w.heap.size w1.heap.size w H2 xo xob l0 xoc (fun i => (vOff z0 h i : Int)) (put3 (w1.setCell ⟨w.heap.size + 1 + 1 + 1, 1, none⟩ (.slice xo l0 xoc)) w.heap.size H2) (.slice none 0 0) (.slice none 0 0) :=
    ⟨Tri.touch (h61.set1 _) (touch_put3 _ _ _) (by omega), hA2.put H2, H51.out.touch s3 (by omega), H41.out.touch s3 (by omega), Ints.touchS HIO.out s3 (fun hp e => by have := HXL.out hp; omega),
      HT1.out.then s3 (fun i hi e => by omega), s3.size, hs4, rfl, fun hp => ⟨HXL.out hp, ints_lt HIO.out hp⟩⟩
  have HI := Lib.hid hI
  obtain ⟨sz, hszz⟩ : ∃ s, w1.heap.size = s := ⟨_, rfl⟩
  rw [hszz] at HI
  clear h61 hA1 s1 s2 s3 hA2 hI hs4 H51 H41 HIO HXL HT1 HSZ hszz
  go_wp2_with fail
  go_loopw [18] (fun i wr => ∃ (k : Nat) (u v : Value), k ≤ l0 ∧ i = .int .i64 k ∧ Two sz wr u v k k (fun i => (vLit z0 i : Int)) (fun i => (vMore z0 i : Int)) ∧ NumI w.heap.size sz w H2 xo xob l0 xoc (fun i => (vOff z0 h i : Int)) wr u v) (fun i _ => l0 - (intOf i).toNat)
  case atStart => exact ⟨0, _, _, Nat.zero_le _, rfl, Two.nil _ _ _ _, HI.out⟩
  case round =>
    obtain ⟨k, u, v, hk, rfl, htwo, hI⟩ := hrel
    have HTW := Lib.hid htwo
    have HI2 := Lib.hid hI
    clear htwo hI HI f0 f1 f2 g0 g1 g2 p0 p1 p2 r0 r1 r2
    by_cases hlt : k < l0
    · obtain rfl := W0.out.at_ (Nat.lt_of_le_of_lt (Nat.zero_le _) hlt)
      have hmay := (allM_iff z0 l0).1 (by have := HY.out; unfold packOk at this; rw [Bool.and_eq_true] at this; exact this.2) k hlt
      obtain ⟨e0, e1, e2⟩ := rec3 W0.out HI2.out.t hlt
      have hvl := lit_cast hmay
      have hvm := more_cast hmay
      have hz4 := more_wrap hmay
      obtain ⟨x0, hx0⟩ : ∃ x, z0 k 0 = x := ⟨_, rfl⟩
      obtain ⟨x1, hx1⟩ : ∃ x, z0 k 1 = x := ⟨_, rfl⟩
      obtain ⟨x2, hx2⟩ : ∃ x, z0 k 2 = x := ⟨_, rfl⟩
      rw [hx0] at e0 hvl
      rw [hx1] at e1
      rw [hx2] at e2 hvm hz4
      have HVL := Lib.hid hvl
      have HVM := Lib.hid hvm
      have HLT := Lib.hid hlt
      have HM := Lib.hid (meas_u hlt)
      have HMX := Lib.hid (app_500 HLT.out h5)
      have fu1 := wrap_suc k (Nat.le_trans (Nat.le_of_lt hlt) (Nat.le_trans h5 (by decide)))
      have hI3 := HI2.out.new (q := .cells #[.int .i64 x0, .int .i64 x1, .int .i64 x2] 42)
      have hcell := heap_alloc_new wr (.cells #[.int .i64 x0, .int .i64 x1, .int .i64 x2] 42)
      have hlow := lt_of_block hcell
      have htw3 := HTW.out.touch (Touch.new wr (.cells #[.int .i64 x0, .int .i64 x1, .int .i64 x2] 42))
      have HBLK := Lib.hid hcell
      have HI3 := Lib.hid hI3
      have HTW3 := Lib.hid htw3
      obtain ⟨q0, q1, q2⟩ := hI3.tri.cells
      clear hx0 hx1 hx2 hvl hvm hmay hI3 htw3 hcell hlow
      have HLO := Lib.hid (show w.heap.size + 1 + 1 + 1 < sz by have := HI2.out.lo; omega)
      go_wp2_with (first
        | (refine wpList_append_mine rfl (.tmp 23) (.tmp 26) 43 43 rfl 3 i0 (.int .i64 0) 1 8 Try.underlying43 hi hz0 hz1 hz2 rfl u k _ rfl (HTW3.out.touch (Touch.new _ _)).ru _ 1 [.int .i64 x0] rfl (src_at _ Try.underlying43 (.int .i64 x0) rfl _ (heap_alloc_2 _ _ _)) HMX.out.1 HMX.out.2 ?_; intro aL cL wL hownL htL hfL _
           have T2L := Two.left (k := k) (zu := fun i => (vLit z0 i : Int)) (zv := fun i => (vMore z0 i : Int)) (HTW3.out.touch (Touch.new _ _)) HVL.out HI3.out.new.sz hownL htL hfL
           have IL := HI3.out.new.past (htL.mono (fun q _ e => HTW3.out.ou q e))
           have hb := htL.heap ((Touch.new _ _).heap HBLK.out id) (fun e => Nat.lt_irrefl _ (own_below HTW.out.ru e))
           obtain ⟨f0, f1, f2⟩ := IL.tri.cells
           have g0 := IL.tri.free 0
           have g2 := IL.tri.free 2
           have I5 := IL.set0 (.slice aL (k + 1) cL)
           have T5 := T2L.cell (g := w.heap.size + 1 + 1 + 1) (o := 0) (y := .slice aL (k + 1) cL) HLO.out
           have hb5 := (touch_cell wL (w.heap.size + 1 + 1 + 1) 0 (.slice aL (k + 1) cL)).heap hb (fun e => Nat.lt_irrefl _ (Nat.lt_of_le_of_lt HI2.out.sz (e ▸ HLO.out)))
           obtain ⟨y0, y1, y2⟩ := I5.tri.cells
           have hx2 : (wL.setCell ⟨w.heap.size + 1 + 1 + 1, 0, none⟩ (.slice aL (k + 1) cL)).cell? ⟨wr.heap.size, 2, none⟩ = some (.int .i64 x2) := by simp [World.cell?, hb5]
           have HI5 := Lib.hid I5
           have HT5 := Lib.hid T5
           clear I5 T5 hb hb5 IL T2L hownL htL hfL)
        | (refine wpList_append_mine rfl (.tmp 30) (.tmp 34) 43 43 rfl 3 i0 (.int .i64 0) 1 8 Try.underlying43 hi hz0 hz1 hz2 rfl v k _ rfl (HT5.out.touch (Touch.new _ _)).rv _ 1 [.int .i64 (x2 - 4)] rfl (src_at _ Try.underlying43 (.int .i64 (x2 - 4)) rfl _ (by first | exact heap_alloc_new _ _ | (have := heap_alloc_new (wL.setCell ⟨w.heap.size + 1 + 1 + 1, 0, none⟩ (.slice aL (k + 1) cL)) (.cells #[.int .i64 (x2 - 4)] 3); rwa [show (wL.setCell ⟨w.heap.size + 1 + 1 + 1, 0, none⟩ (.slice aL (k + 1) cL)).heap.size = wL.heap.size from by simp [World.setCell]] at this))) HMX.out.1 HMX.out.2 ?_; intro aM cM wM hownM htM hfM _
           have T2M := Two.right (m := k) (zu := fun i => (vLit z0 i : Int)) (zv := fun i => (vMore z0 i : Int)) (HT5.out.touch (Touch.new _ _)) HVM.out HI5.out.new.sz hownM htM hfM
           have IM := HI5.out.new.past (htM.mono (fun q _ e => HT5.out.ov q e))
           obtain ⟨z0', z1', z2'⟩ := IM.tri.cells
           have n0 := IM.tri.free 0
           have n2 := IM.tri.free 2
           have HI7 := Lib.hid (IM.set2 (.slice aM (k + 1) cM))
           have HT7 := Lib.hid (T2M.cell (g := w.heap.size + 1 + 1 + 1) (o := 2) (y := .slice aM (k + 1) cM) HLO.out)
           clear T2M IM hownM htM hfM))
      go_roundw
      case rel => exact ⟨k + 1, _, _, HLT.out, by first | rfl | (rw [fu1]; go_num) | go_num, HT7.out, HI7.out⟩
      case measure => first | exact HM.out | (rw [fu1]; exact HM.out)
    · obtain rfl : k = l0 := Nat.le_antisymm hk (Nat.not_lt.1 hlt)
      obtain ⟨xl, xlb, xlc, hu, hil⟩ := ints_row HTW.out.ru
      obtain ⟨xm, xmb, xmc, hv, him⟩ := ints_row HTW.out.rv
      have hou := HTW.out.ou
      have hov := HTW.out.ov
      subst hu hv
      have HIL := Lib.hid hil
      have HIM := Lib.hid him
      have HLOW := Lib.hid (show (0 < k → sz ≤ xlb) ∧ (0 < k → sz ≤ xmb) from ⟨fun hp => by rw [hil.at_ hp] at hou; exact hou xlb rfl, fun hp => by rw [him.at_ hp] at hov; exact hov xmb rfl⟩)
      clear hou hov hil him HTW
      obtain ⟨q0, q1, q2⟩ := HI2.out.tri.cells
      obtain ⟨p0, p1, p2⟩ := HI2.out.t4.cells
      have r0 := HI2.out.t4.free 0
      have r1 := HI2.out.t4.free 1
      have r2 := HI2.out.t4.free 2
      obtain ⟨k0, k1, k2⟩ := HI2.out.a3.cells
      obtain ⟨j0, j1, j2⟩ := HI2.out.a5.cells
      have l0 := HI2.out.a5.free 0
      have l1 := HI2.out.a5.free 1
      have l2 := HI2.out.a5.free 2
      clear hlt hk
      go_wp2_with fail
      go_region
      all_goals
        go_wp2_with fail
        have lo := HI2.out.lo
        have hws := HI2.out.ws
        have ht4 := ((HI2.out.t4.set0 (.slice xl k xlc)).set1 (.slice xo k xoc)).set2 (.slice xm k xmc)
        have tc : Touch (· = w.heap.size + 1) wr (((wr.setCell ⟨w.heap.size + 1, 0, none⟩ (.slice xl k xlc)).setCell ⟨w.heap.size + 1, 1, none⟩ (.slice xo k xoc)).setCell ⟨w.heap.size + 1, 2, none⟩ (.slice xm k xmc)) :=
          ((touch_cell _ _ _ _).trans (touch_cell _ _ _ _)).trans (touch_cell _ _ _ _)
        obtain ⟨wt, hwt⟩ : ∃ wt, ((wr.setCell ⟨w.heap.size + 1, 0, none⟩ (.slice xl k xlc)).setCell ⟨w.heap.size + 1, 1, none⟩ (.slice xo k xoc)).setCell ⟨w.heap.size + 1, 2, none⟩ (.slice xm k xmc) = wt := ⟨_, rfl⟩
        rw [hwt] at ht4 tc ⊢
        have tp := touch_put3 wt (w.heap.size + 1 + 1) H2
        have ha := (HI2.out.a5.touch tc (fun e => by omega)).put H2
        have hb := ht4.touch tp (fun e => by omega)
        have tb : Touch (fun q => q = w.heap.size + 1 ∨ q = w.heap.size + 1 + 1) wr (put3 wt (w.heap.size + 1 + 1) H2) := (tc.mono (fun _ _ e => Or.inl e)).trans (tp.mono (fun _ _ e => Or.inr e))
        have hxb := HI2.out.xb
        have hlow := HLOW.out
        refine bodyPost_ret (results_cc rfl _ _ _ _ _ _ _ rfl rfl (Tri.load (g := w.heap.size + 1) hb) (Arr.load (h := H2) (b := w.heap.size + 1 + 1) ha)) rfl ?_
        exact ⟨xl, xlb, xlc, xo, xob, xoc, xm, xmb, xmc, rfl, ⟨(Ints.touchS HIL.out tb (fun hp e => by have := hlow.1 hp; omega)).touch (Touch.refl _ _).drew, (Ints.touchS HI2.out.o tb (fun hp e => by have := (hxb hp).1; omega)).touch (Touch.refl _ _).drew, (Ints.touchS HIM.out tb (fun hp e => by have := hlow.2 hp; omega)).touch (Touch.refl _ _).drew,
          (HI2.out.t.then tb (fun i hi e => by omega)).drew, fun hp => ⟨Nat.le_trans (by omega) (hlow.1 hp), Nat.le_trans (by omega) (hxb hp).1, Nat.le_trans (by omega) (hlow.2 hp)⟩⟩⟩
end Go.Proofs.Ythnhacbagmhfoaa

/- seqs: Pack where it gives nothing, or two bytes. -/
namespace Go.Proofs.Ythnhacbagmhfoaa
open Go.RowKit Go.WideShapes Fs
set_option linter.unusedVariables false
set_option linter.unusedSimpArgs false
set_option maxRecDepth 100000

theorem RecsIn.stp {w : World} {a : Option Addr} {b o l c : Nat} {z : Nat → Nat → Int} (h : RecsIn 3 w a b o l c z) : Stp w a b o l z := ⟨h.at_, h.cell⟩
theorem pack_refused (w : World) (a0 : Option Addr) (b0 o0 l0 c0 : Nat) (z0 : Nat → Nat → Int) (w0 : RecsIn 3 w a0 b0 o0 l0 c0 z0) (h : H3) (hl : l0 ≤ 100000) (hno : packOk z0 l0 = false) :
    Calls Try.prog 20 #[.slice a0 l0 c0, h.val] w (PackPost z0 h l0 w) := by
  have W0 := Lib.hid w0
  obtain ⟨Q, hQ⟩ : ∃ Q, PackPost z0 h l0 w = Q := ⟨_, rfl⟩
  rw [hQ]
  have HQ := Lib.hid hQ
  have HN := Lib.hid hno
  have hB : Arr ((w.alloc (.cells #[.int .i64 h.a, .int .i64 h.b, .int .i64 h.c] 31)).alloc (.cells #[.int .i64 0, .int .i64 0, .int .i64 0] 31)) (w.heap.size + 1) ⟨0, 0, 0⟩ := heap_alloc_2 _ _ _
  have hA := Arr.touch (h := h) (heap_alloc_new w _) ((Touch.refl (fun _ => False) _).alloc (.cells #[.int .i64 0, .int .i64 0, .int .i64 0] 31)) id
  have t0 := ((Touch.refl (fun _ => False) w).alloc (.cells #[.int .i64 h.a, .int .i64 h.b, .int .i64 h.c] 31)).alloc (.cells #[.int .i64 0, .int .i64 0, .int .i64 0] 31)
  have HB := Lib.hid hB
  have HA := Lib.hid hA
  have HT0 := Lib.hid t0
  clear w0 hQ hno hB hA t0
  by_cases h5 : l0 ≤ 500
  · have hd5 : decide ((500 : Int) < l0) = false := decide_eq_false (by omega)
    have hall : allM z0 l0 = false := by have := HN.out; unfold packOk at this; rw [decide_eq_true h5, Bool.true_and] at this; exact this
    have HC := Lib.hid (fun w h => contM_walk a0 b0 o0 l0 c0 z0 w h hl false hall)
    clear hall
    unfold H3.val arr3
    go_enter Try.func20, Try.ntmps20
    go_wp2_with fail
    obtain ⟨wa, hwa⟩ : ∃ wa, (w.alloc (.cells #[.int .i64 h.a, .int .i64 h.b, .int .i64 h.c] 31)).alloc (.cells #[.int .i64 0, .int .i64 0, .int .i64 0] 31) = wa := ⟨_, rfl⟩
    rw [hwa] at HB HA HT0 ⊢
    refine (HC.out _ (W0.out.stp.touch HT0.out)).mono ?_
    rintro e w1 ⟨rfl, t1⟩
    have HB1 := Lib.hid (HB.out.touch t1 id)
    have HT1 := Lib.hid (HT0.out.trans t1)
    obtain ⟨c0', c1', c2'⟩ := (HA.out.touch t1 id).cells
    obtain ⟨f0, f1, f2⟩ := HB1.out.cells
    have g0 := HB1.out.free 0
    have g1 := HB1.out.free 1
    have g2 := HB1.out.free 2
    clear t1 hwa
    go_wp2_with fail
    go_region
    all_goals
      go_wp2_with fail
      have ha := HB1.out.put h
      have ht' := HT1.out.then (touch_put3 w1 (w.heap.size + 1) h) (fun i hi e => by omega)
      refine bodyPost_ret (results_cell3 rfl _ _ _ _ _ rfl (Arr.load (h := h) (b := w.heap.size + 1) ha)) rfl ?_
      rw [← HQ.out]
      exact pack_no HN.out ht'.drew
  · have hd5 : decide ((500 : Int) < l0) = true := decide_eq_true (by omega)
    have hB2 : Arr ((w.alloc (.cells #[.int .i64 h.a, .int .i64 h.b, .int .i64 h.c] 31)).alloc (.cells #[.int .i64 h.a, .int .i64 h.b, .int .i64 h.c] 31)) (w.heap.size + 1) h := heap_alloc_2 _ _ _
    have T1 := Lib.hid (((Touch.refl (fun _ => False) w).alloc (.cells #[.int .i64 h.a, .int .i64 h.b, .int .i64 h.c] 31)).alloc (.cells #[.int .i64 h.a, .int .i64 h.b, .int .i64 h.c] 31))
    have HB1 := Lib.hid hB2
    clear hB2
    unfold H3.val arr3
    go_enter Try.func20, Try.ntmps20
    go_wp2_with fail
    go_region
    all_goals
      go_wp2_with fail
      refine bodyPost_ret (results_cell3 rfl _ _ _ _ _ rfl (Arr.load (h := h) (b := w.heap.size + 1) HB1.out)) rfl ?_
      rw [← HQ.out]
      exact pack_no HN.out T1.out.drew

theorem pack_zero (w : World) (a0 : Option Addr) (c0 : Nat) (z0 : Nat → Nat → Int) (h : H3) :
    Calls Try.prog 20 #[.slice a0 0 c0, h.val] w (PackPost z0 h 0 w) := by
  obtain ⟨Q, hQ⟩ : ∃ Q, PackPost z0 h 0 w = Q := ⟨_, rfl⟩
  rw [hQ]
  have HQ := Lib.hid hQ
  have hB : Arr ((w.alloc (.cells #[.int .i64 h.a, .int .i64 h.b, .int .i64 h.c] 31)).alloc (.cells #[.int .i64 0, .int .i64 0, .int .i64 0] 31)) (w.heap.size + 1) ⟨0, 0, 0⟩ := heap_alloc_2 _ _ _
  have hA := Arr.touch (h := h) (heap_alloc_new w _) ((Touch.refl (fun _ => False) _).alloc (.cells #[.int .i64 0, .int .i64 0, .int .i64 0] 31)) id
  have t0 := ((Touch.refl (fun _ => False) w).alloc (.cells #[.int .i64 h.a, .int .i64 h.b, .int .i64 h.c] 31)).alloc (.cells #[.int .i64 0, .int .i64 0, .int .i64 0] 31)
  have HB := Lib.hid hB
  have HA := Lib.hid hA
  have HT0 := Lib.hid t0
  have HC := Lib.hid (fun w h => contM_walk a0 0 0 0 c0 z0 w h (by decide) true rfl)
  have HS := Lib.hid (fun w => (⟨fun h => absurd h (by decide), fun i hi => absurd hi (Nat.not_lt_zero _)⟩ : Stp w a0 0 0 0 z0))
  clear hQ hB hA t0
  have hd5 : decide ((500 : Int) < ((0 : Nat) : Int)) = false := rfl
  unfold H3.val arr3
  go_enter Try.func20, Try.ntmps20
  go_wp2_with fail
  obtain ⟨wa, hwa⟩ : ∃ wa, (w.alloc (.cells #[.int .i64 h.a, .int .i64 h.b, .int .i64 h.c] 31)).alloc (.cells #[.int .i64 0, .int .i64 0, .int .i64 0] 31) = wa := ⟨_, rfl⟩
  rw [hwa] at HB HA HT0 ⊢
  refine (HC.out _ (HS.out _)).mono ?_
  rintro e w1 ⟨rfl, t1⟩
  have t2 := t1.trans (Touch.new w1 (.cells #[.int .u8 0, .int .u8 0] 5))
  have HB1 := Lib.hid (HB.out.touch t2 id)
  have HT1 := Lib.hid (HT0.out.trans t2)
  have HR := Lib.hid (row_two w1 (.int .u8 0) (.int .u8 0))
  have HS0 := Lib.hid (Nat.le_trans HT0.out.size t1.size)
  have HS1 := Lib.hid (Nat.lt_of_lt_of_le (lt_of_block HB.out) t1.size)
  obtain ⟨c0', c1', c2'⟩ := (HA.out.touch t2 id).cells
  obtain ⟨f0, f1, f2⟩ := HB1.out.cells
  have g0 := HB1.out.free 0
  have g1 := HB1.out.free 1
  have g2 := HB1.out.free 2
  clear t1 hwa t2
  go_wp2_with fail
  go_region
  all_goals
    go_wp2_with fail
    have hs0 := HS0.out
    have hs1 := HS1.out
    have ha := HB1.out.put h
    have tp := touch_put3 (w1.alloc (.cells #[.int .u8 0, .int .u8 0] 5)) (w.heap.size + 1) h
    have ht' := HT1.out.then tp (fun i hi e => by omega)
    refine bodyPost_ret (results_cell3 rfl _ _ _ _ _ rfl (Arr.load (h := h) (b := w.heap.size + 1) ha)) rfl ?_
    rw [← HQ.out]
    exact pack_yes (z := z0) (n := 0) rfl ht'.drew ⟨tp.drew.row HR.out (fun q hq e => by simp [Value.ownBlock] at hq; omega), (OwnB.here' w1 2 2).mono hs0⟩
end Go.Proofs.Ythnhacbagmhfoaa

/- seqs: slices.Backward of steps and of rows: what its iterators give. -/
namespace Go.Proofs.Ythnhacbagmhfoaa
open Go.RowKit Go.WideShapes Go.Shelf Fs
set_option linter.unusedVariables false
set_option linter.unusedSimpArgs false
set_option maxRecDepth 100000
attribute [local go_sem] Oper.semAt_some

/-- The last k places of n, the last one first. -/
def bwdF (n : Nat) (h : 0 < n) (k : Nat) : List (Fin n) := (List.range k).map fun j => ⟨n - 1 - j, by omega⟩
theorem bwdF_succ (n : Nat) (h : 0 < n) (k : Nat) : bwdF n h (k + 1) = bwdF n h k ++ [⟨n - 1 - k, by omega⟩] := by simp [bwdF, List.range_succ]
theorem bwdF_len (n : Nat) (h : 0 < n) (k : Nat) : (bwdF n h k).length = k := by simp [bwdF]
theorem bwdF_step (n : Nat) (h : 0 < n) (j : Nat) (hj : j < n) : bwdF n h (n - j) = bwdF n h (n - (j + 1)) ++ [⟨j, hj⟩] := by
  rw [show n - j = (n - (j + 1)) + 1 by omega, bwdF_succ]
  congr 2
  apply Fin.ext
  show n - 1 - (n - (j + 1)) = j
  omega

set_option maxHeartbeats 2000000 in
theorem stepsBack1_in (F : Fence) (n : Nat) (h55 : F.fn 66) (hro : F.round = none) (hn : 1 ≤ n) (l Bs b off len cap : Nat) (y : Nat → Nat → Int) (a : Option Addr) (ha : a = some ⟨b, off, none⟩) (h0l : 0 < len) (hlen : len ≤ 100000) (J Jx : List (Fin len) → World → Prop)
    (hY : ∀ pre x W, J pre W → pre.length < len → YieldAt F (n - 1) Try.prog l #[.int .i64 ((x.1 : Nat) : Int), recV (y x.1)] W fun e W' =>
      (e = .returned (.bool true) ∧ J (pre ++ [x]) W' ∧ KeepAt (fun k => k = Bs ∨ (0 < len ∧ k = b)) W W') ∨ (e = .returned (.bool false) ∧ Jx (pre ++ [x]) W'))
    (W : World) (hBs : W.cell? ⟨Bs, 0, none⟩ = some (.slice a len cap)) (hc : ∀ i, i < len → ∀ j, j < 3 → W.cell? ⟨b, off + i * 3 + j, none⟩ = some (.int .i64 (y i j))) (h0 : J [] W) :
    CallsIn F n Try.prog 66 #[.func (.yield l) #[] #[], .pointer (some ⟨Bs, 0, none⟩)] W fun e W' => (∃ v, e = .returned v) ∧
      ((∃ ys, ys = bwdF len h0l len ∧ J ys W') ∨ (∃ pre, (∃ k, k ≤ len ∧ pre = bwdF len h0l k) ∧ Jx pre W')) := by
  refine callsIn_of_wp Try.func66 rfl h55 ?_ hro
  simp only [Try.ntmps66, List.size_toArray, List.length_cons, List.length_nil, Nat.reduceAdd, Nat.reduceSub, Array.replicate_succ, Array.replicate_zero, List.push_toArray, List.append_toArray, List.nil_append, List.cons_append]
  have hpre := wrap_pred (j := len) hlen
  gi_wp2
  gi_loopw [3] (fun i wr => ∃ (j : Nat) (ii : Int), j ≤ len ∧ ii = (j : Int) - 1 ∧ i = .int .i64 ii ∧ J (bwdF len h0l (len - j)) wr ∧ KeepAt (fun k => k = Bs ∨ (0 < len ∧ k = b)) W wr)
    (fun i _ => (intOf i + 1).toNat)
  case atStart => exact ⟨len, _, Nat.le_refl _, rfl, by first | rfl | go_num, by rw [Nat.sub_self]; exact h0, KeepAt.refl _ _⟩
  case round =>
    obtain ⟨j, ii, hj, hii, rfl, hJs, hnx⟩ := hrel
    have hbs := hnx.cell hBs (Or.inl rfl)
    clear hpre
    cases j with
    | zero =>
      have hneg : ii < 0 := by rw [hii]; decide
      have hnd : decide ((0 : Int) ≤ ii) = false := by simpa using hneg
      rw [Nat.sub_zero] at hJs
      clear hii
      gi_wp2
      go_end0
      exact ⟨⟨_, rfl⟩, .inl ⟨_, rfl, hJs⟩⟩
    | succ j =>
      obtain rfl : ii = (j : Int) := by rw [hii]; push_cast; omega
      subst ha
      have hcx : wr.cell? ⟨b, off + j * 3, none⟩ = _ := hnx.cell (hc j (by omega) 0 (by omega)) (Or.inr ⟨by omega, rfl⟩)
      have hcy := hnx.cell (hc j (by omega) 1 (by omega)) (Or.inr ⟨by omega, rfl⟩)
      have hcz := hnx.cell (hc j (by omega) 2 (by omega)) (Or.inr ⟨by omega, rfl⟩)
      have hb1 := bwdF_step len h0l j (by omega)
      have hpre := wrap_pred (j := j) (by omega)
      obtain ⟨fn, tmps, assign, body, hy, hR⟩ := hY _ ⟨j, by omega⟩ wr hJs (by rw [bwdF_len]; omega)
      dsimp only [recV] at hy
      have hltj : j < len := by omega
      have HB1 := Lib.hid hb1
      have hm : ((intOf (Value.int .i64 ((j : Int) - 1))) + 1).toNat < ((intOf (Value.int .i64 (j : Int))) + 1).toNat := by simp [intOf]
      have HM := Lib.hid hm
      clear hii hb1 hm
      gi_wp2
      refine hR.mono ?_
      rintro e W3 (⟨rfl, hJ3, hk3⟩ | ⟨rfl, hJx3⟩)
      · rw [← HB1.out] at hJ3
        gi_wp2
        go_roundw
        case rel => exact ⟨j, _, by omega, rfl, by first | rfl | go_num, hJ3, hnx.trans hk3⟩
        case measure => exact HM.out
      · rw [← HB1.out] at hJx3
        gi_wp2
        refine bodyPost_ret (results_none rfl _ _ _) rfl ?_
        exact ⟨⟨_, rfl⟩, .inr ⟨_, ⟨len - j, by omega, rfl⟩, hJx3⟩⟩

theorem stepsBack_in (F : Fence) (n : Nat) (h39 : F.fn 41) (hro : F.round = none) (a : Option Addr) (len cap : Nat) (w : World) :
    CallsIn F n Try.prog 41 #[.slice a len cap] w fun e w' => e = .returned (.func (.func 66) #[] #[.pointer (some ⟨w.heap.size, 0, none⟩)]) ∧ w' = w.alloc (.cells #[.slice a len cap] 29) := by
  refine callsIn_of_wp Try.func41 rfl h39 ?_ hro
  simp only [Try.ntmps41, List.size_toArray, List.length_cons, List.length_nil, Nat.reduceAdd, Nat.reduceSub, Array.replicate_succ, Array.replicate_zero, List.push_toArray, List.append_toArray, List.nil_append, List.cons_append]
  gi_wp2
  go_ret
  exact ⟨rfl, rfl⟩

theorem stepsBack_stops (F : Fence) (n : Nat) (h55 : F.fn 66) (hro : F.round = none) (hn : 1 ≤ n) (Bs b off len cap : Nat) (y : Nat → Nat → Int) (a : Option Addr) (h0l : 0 < len) (hlen : len ≤ 100000) (w : World) (hBs : Bs < w.heap.size)
    (hcb : w.cell? ⟨Bs, 0, none⟩ = some (.slice a len cap)) (hI : Stp w a b off len y) (hb : 0 < len → b < w.heap.size) :
    SeqStopsK F n Try.prog 66 #[.pointer (some ⟨Bs, 0, none⟩)] (fun x : Fin len => #[Value.int .i64 ((x.1 : Nat) : Int), recV (y x.1)]) (KeepAt (fun k => k = Bs ∨ (0 < len ∧ k = b))) (fun ys => ys = bwdF len h0l len)
      (fun pre => ∃ k, k ≤ len ∧ pre = bwdF len h0l k) len w := fun l J Jx W hW _ _ hY h0 =>
  stepsBack1_in F n h55 hro hn l Bs b off len cap y a (hI.at_ h0l) h0l hlen J Jx hY W ((hW.cell (p := ⟨Bs, 0, none⟩) hBs).trans hcb) (fun i hi j hj => (hW.cell (p := ⟨b, off + i * 3 + j, none⟩) (hb (by omega))).trans (hI.cell i hi j hj)) h0

/-- A slice as a value, by its four parts. -/
structure Sl where
  a : Option Addr
  n : Nat
  c : Nat
def Sl.v (s : Sl) : Value := .slice s.a s.n s.c
set_option maxHeartbeats 2000000 in
theorem rowsBack1_in (F : Fence) (n : Nat) (h55 : F.fn 67) (hro : F.round = none) (hn : 1 ≤ n) (l Bs b : Nat) (y : Nat → Sl) (J Jx : List (Fin 3) → World → Prop)
    (hY : ∀ pre x W, J pre W → pre.length < 3 → YieldAt F (n - 1) Try.prog l #[.int .i64 ((x.1 : Nat) : Int), (y x.1).v] W fun e W' =>
      (e = .returned (.bool true) ∧ J (pre ++ [x]) W' ∧ KeepAt (fun k => k = Bs ∨ k = b) W W') ∨ (e = .returned (.bool false) ∧ Jx (pre ++ [x]) W'))
    (W : World) (hBs : W.cell? ⟨Bs, 0, none⟩ = some (.slice (some ⟨b, 0, none⟩) 3 3)) (hc : ∀ i, i < 3 → W.cell? ⟨b, i, none⟩ = some (y i).v) (h0 : J [] W) :
    CallsIn F n Try.prog 67 #[.func (.yield l) #[] #[], .pointer (some ⟨Bs, 0, none⟩)] W fun e W' => (∃ v, e = .returned v) ∧
      ((∃ ys, ys = bwdF 3 (by decide) 3 ∧ J ys W') ∨ (∃ pre, (∃ k, k ≤ 3 ∧ pre = bwdF 3 (by decide) k) ∧ Jx pre W')) := by
  refine callsIn_of_wp Try.func67 rfl h55 ?_ hro
  simp only [Try.ntmps67, List.size_toArray, List.length_cons, List.length_nil, Nat.reduceAdd, Nat.reduceSub, Array.replicate_succ, Array.replicate_zero, List.push_toArray, List.append_toArray, List.nil_append, List.cons_append]
  gi_wp2
  gi_loopw [3] (fun i wr => ∃ (j : Nat) (ii : Int), j ≤ 3 ∧ ii = (j : Int) - 1 ∧ i = .int .i64 ii ∧ J (bwdF 3 (by decide) (3 - j)) wr ∧ KeepAt (fun k => k = Bs ∨ k = b) W wr)
    (fun i _ => (intOf i + 1).toNat)
  case atStart => exact ⟨3, _, Nat.le_refl _, rfl, by first | rfl | go_num, by rw [Nat.sub_self]; exact h0, KeepAt.refl _ _⟩
  case round =>
    obtain ⟨j, ii, hj, hii, rfl, hJs, hnx⟩ := hrel
    have hbs := hnx.cell hBs (Or.inl rfl)
    cases j with
    | zero =>
      have hneg : ii < 0 := by rw [hii]; decide
      have hnd : decide ((0 : Int) ≤ ii) = false := by simpa using hneg
      rw [Nat.sub_zero] at hJs
      clear hii
      gi_wp2
      go_end0
      exact ⟨⟨_, rfl⟩, .inl ⟨_, rfl, hJs⟩⟩
    | succ j =>
      obtain rfl : ii = (j : Int) := by rw [hii]; push_cast; omega
      have hcx := hnx.cell (hc j (by omega)) (Or.inr rfl)
      have hb1 := bwdF_step 3 (by decide) j (by omega)
      have hpre := wrap_pred (j := j) (by omega)
      obtain ⟨fn, tmps, assign, body, hy, hR⟩ := hY _ ⟨j, by omega⟩ wr hJs (by rw [bwdF_len]; omega)
      dsimp only [Sl.v] at hy
      unfold Sl.v at hcx
      have hltj : j < 3 := by omega
      have HB1 := Lib.hid hb1
      have hm : ((intOf (Value.int .i64 ((j : Int) - 1))) + 1).toNat < ((intOf (Value.int .i64 (j : Int))) + 1).toNat := by simp [intOf]
      have HM := Lib.hid hm
      clear hii hb1 hm
      gi_wp2
      refine hR.mono ?_
      rintro e W3 (⟨rfl, hJ3, hk3⟩ | ⟨rfl, hJx3⟩)
      · rw [← HB1.out] at hJ3
        gi_wp2
        go_roundw
        case rel => exact ⟨j, _, by omega, rfl, by first | rfl | go_num, hJ3, hnx.trans hk3⟩
        case measure => exact HM.out
      · rw [← HB1.out] at hJx3
        gi_wp2
        refine bodyPost_ret (results_none rfl _ _ _) rfl ?_
        exact ⟨⟨_, rfl⟩, .inr ⟨_, ⟨3 - j, by omega, rfl⟩, hJx3⟩⟩

theorem rowsBack_in (F : Fence) (n : Nat) (h39 : F.fn 42) (hro : F.round = none) (a : Option Addr) (len cap : Nat) (w : World) :
    CallsIn F n Try.prog 42 #[.slice a len cap] w fun e w' => e = .returned (.func (.func 67) #[] #[.pointer (some ⟨w.heap.size, 0, none⟩)]) ∧ w' = w.alloc (.cells #[.slice a len cap] 72) := by
  refine callsIn_of_wp Try.func42 rfl h39 ?_ hro
  simp only [Try.ntmps42, List.size_toArray, List.length_cons, List.length_nil, Nat.reduceAdd, Nat.reduceSub, Array.replicate_succ, Array.replicate_zero, List.push_toArray, List.append_toArray, List.nil_append, List.cons_append]
  gi_wp2
  go_ret
  exact ⟨rfl, rfl⟩

theorem rowsBack_stops (F : Fence) (n : Nat) (h55 : F.fn 67) (hro : F.round = none) (hn : 1 ≤ n) (Bs b : Nat) (y : Nat → Sl) (w : World) (hBs : Bs < w.heap.size)
    (hcb : w.cell? ⟨Bs, 0, none⟩ = some (.slice (some ⟨b, 0, none⟩) 3 3)) (hI : ∀ i, i < 3 → w.cell? ⟨b, i, none⟩ = some (y i).v) (hb : b < w.heap.size) :
    SeqStopsK F n Try.prog 67 #[.pointer (some ⟨Bs, 0, none⟩)] (fun x : Fin 3 => #[Value.int .i64 ((x.1 : Nat) : Int), (y x.1).v]) (KeepAt (fun k => k = Bs ∨ k = b)) (fun ys => ys = bwdF 3 (by decide) 3)
      (fun pre => ∃ k, k ≤ 3 ∧ pre = bwdF 3 (by decide) k) 3 w := fun l J Jx W hW _ _ hY h0 =>
  rowsBack1_in F n h55 hro hn l Bs b y J Jx hY W ((hW.cell (p := ⟨Bs, 0, none⟩) hBs).trans hcb) (fun i hi => (hW.cell (p := ⟨b, i, none⟩) hb).trans (hI i hi)) h0
end Go.Proofs.Ythnhacbagmhfoaa

/- seqs: Pack's two loops: what they keep, and their laws. -/
namespace Go.Proofs.Ythnhacbagmhfoaa
open Go.RowKit Go.WideShapes Go.Shelf Fs
set_option linter.unusedVariables false
set_option linter.unusedSimpArgs false
set_option maxRecDepth 100000
attribute [local go_sem] Oper.semAt_some

def foldQ (val : Nat → Nat) (E : List Bool) (pre : List (Fin 3)) : List Bool := pre.foldl (fun l j => putC (val j.1) l) E
def rowv (vl vo vm : Nat → Nat) (i j : Nat) : Nat := if j = 0 then vl i else if j = 1 then vo i else vm i
def foldP (vl vo vm : Nat → Nat) {n : Nat} (pre : List (Fin n)) : List Bool := pre.foldl (fun l i => partE (three (vm i.1) (vo i.1) (vl i.1)) l 3) []
theorem foldQ_snoc (val : Nat → Nat) (E : List Bool) (pre : List (Fin 3)) (j : Fin 3) : foldQ val E (pre ++ [j]) = putC (val j.1) (foldQ val E pre) := by simp [foldQ]
theorem foldP_snoc (vl vo vm : Nat → Nat) {n : Nat} (pre : List (Fin n)) (i : Fin n) : foldP vl vo vm (pre ++ [i]) = partE (three (vm i.1) (vo i.1) (vl i.1)) (foldP vl vo vm pre) 3 := by simp [foldP]
theorem foldQ_all (vl vo vm : Nat → Nat) (i : Nat) (E : List Bool) : foldQ (rowv vl vo vm i) E (bwdF 3 (by decide) 3) = partE (three (vm i) (vo i) (vl i)) E 3 := by
  simp [foldQ, bwdF, List.range_succ, partE, three, rowv]
theorem foldP_all (vl vo vm : Nat → Nat) (n : Nat) (h : 0 < n) : ∀ k, foldP vl vo vm (bwdF n h k) = extL vl vo vm n k
  | 0 => rfl
  | k + 1 => by rw [bwdF_succ, foldP_snoc, foldP_all vl vo vm n h k, extL]
theorem foldQ_len (val : Nat → Nat) (E : List Bool) : ∀ pre : List (Fin 3), (foldQ val E pre).length ≤ E.length + 24 * pre.length := by
  intro pre
  induction pre generalizing E with
  | nil => simp [foldQ]
  | cons a l ih =>
    have := ih (putC (val a.1) E)
    have h2 := putC_len (val a.1) E
    rw [show foldQ val E (a :: l) = foldQ val (putC (val a.1) E) l from rfl, List.length_cons]; omega
theorem foldP_len' (vl vo vm : Nat → Nat) {n : Nat} (E : List Bool) (pre : List (Fin n)) : (pre.foldl (fun l i => partE (three (vm i.1) (vo i.1) (vl i.1)) l 3) E).length ≤ E.length + 72 * pre.length := by
  induction pre generalizing E with
  | nil => simp
  | cons a l ih =>
    have := ih (partE (three (vm a.1) (vo a.1) (vl a.1)) E 3)
    have h2 := partE_len (three (vm a.1) (vo a.1) (vl a.1)) E 3
    rw [List.foldl_cons, List.length_cons]; omega
theorem foldP_len (vl vo vm : Nat → Nat) {n : Nat} (pre : List (Fin n)) : (foldP vl vo vm pre).length ≤ 72 * pre.length := by
  have := foldP_len' vl vo vm [] pre
  simpa [foldP] using this

/-- What the loops keep. -/
structure PakI (W0 : World) (B : Nat) (l : List Bool) (W : World) (v : Value) : Prop where
  t : Touch (fun q => q = B ∨ W0.heap.size ≤ q) W0 W
  wr : Wr W 104 B v l
  own : OwnB W0.heap.size v
def PakE (W0 : World) (B : Nat) (l : List Bool) (W : World) : Prop := ∃ v, PakI W0 B l W v
theorem PakI.touch {W0 W W' : World} {B : Nat} {l : List Bool} {v : Value} (h : PakI W0 B l W v) (t : Touch (fun _ => False) W W') : PakI W0 B l W' v :=
  ⟨h.t.trans t.none, h.wr.touch t id (fun _ _ => id), h.own⟩
theorem PakI.grown {W0 X Y : World} {B D : Nat} {l : List Bool} {v : Value} (h : PakI W0 B l X v) (hD : W0.heap.size ≤ D) {row : Option Nat} (hg : X.grownBy Y row) (hr : ∀ r, row = some r → D ≤ r ∧ ∃ o : Obj, X.heap[r]? = some o ∧ o.isCells = false) : PakI W0 B l Y v := by
  have ht := row_touch hg
  refine ⟨h.t.grown hg ?_, h.wr.touch ht (not_row hr h.wr.cell) ?_, h.own⟩
  · intro k e hk
    have := (hr k e).1
    omega
  · intro k hk
    rcases h.wr.row.2 with ⟨rfl, _⟩ | ⟨g', cap, cur', rfl, _, hg', _⟩
    · cases hk
    · obtain rfl : g' = k := by simpa [Value.ownBlock] using hk
      exact not_row hr hg'
theorem PakI.put {W0 W W' : World} {B : Nat} {l l' : List Bool} {v v' : Value} (h : PakI W0 B l W v) (hw : Wr W' 104 B v' l') (t : Touch (Foot B v) W W') (f : Fresh W.heap.size v v') : PakI W0 B l' W' v' :=
  ⟨h.t.trans (t.mono (fun q _ e => by
    rcases e with e | e
    · exact .inl e
    · exact .inr (h.own q e))), hw, h.own.fresh f h.t.size⟩
theorem PakI.keep {W0 W W' : World} {B : Nat} {l l' : List Bool} {v v' : Value} (h : PakI W0 B l W v) (h' : PakI W0 B l' W' v') {S : Nat → Prop} (hS : ∀ k, S k → k < W0.heap.size ∧ k ≠ B) : KeepAt S W W' := fun k hk => by
  obtain ⟨h1, h2⟩ := hS k hk
  have h3 : ¬ (k = B ∨ W0.heap.size ≤ k) := by omega
  exact (h'.t.block k h1 h3).trans (h.t.block k h1 h3).symm
theorem pakE_own {α : Type} {W0 : World} {B D : Nat} (hD : W0.heap.size ≤ D) (f : α → List Bool) : OwnFrom D (fun pre W => PakE W0 B (f pre) W) := by
  rintro s X Y row ⟨v, h⟩ hg hr
  exact ⟨v, h.grown hD hg hr⟩

/-- The outer loop. -/
theorem range_out {F : Fence} {n : Nat} {P : Program} {g : Operand} {assign body : Code} {Q : Exit → Act → World → Prop} {tm : Array Value} {ds : List Deferred} {w : World} (hro : F.round = none) (h1 : 1 ≤ n) {gf : Nat} {lb : Array Value} (hg : ({ tmps := tm, defers := ds } : Act).eval g = .func (.func gf) #[] lb) (hFg : F.fn gf) (eg : ∀ args w, (callFunc gf args).run P w = .ok (.enter gf args) w)
    {len : Nat} {y : Nat → Nat → Int} {Kp : World → World → Prop} {S Sp : List (Fin len) → Prop} {N : Nat} {w0 : World} (hseq : SeqStopsK F (n - 1) P gf lb (fun x : Fin len => #[Value.int .i64 ((x.1 : Nat) : Int), recV (y x.1)]) Kp S Sp N w0)
    (hKt : ∀ {A B C : World}, Kp A B → Kp B C → Kp A C) (hKb : ∀ (W : World) (l : Nat) (o o' : Obj), w.heap.size ≤ l → W.heap[l]? = some o → o.isCells = false → o.isWalk = false → Kp W (W.putObj l o')) (hb0 : Below w0.heap.size w0 w)
    (I : List (Fin len) → World → Prop) (hI : OwnFrom w.heap.size I) (h0 : I [] w)
    (hassign : ∀ (l : Nat) (pre : List (Fin len)) (x : Fin len) (W : World) (K : Act → World → Prop), I pre W → (∀ Bx W', KeepsFrom w.heap.size W W' → Kp W W' → I pre W' → Boxed W' Bx 3 (.int .i64 ((x.1 : Nat) : Int)) → K { tmps := ((tm.setIfInBounds 57 (.int .i64 ((x.1 : Nat) : Int))).setIfInBounds 58 (recV (y x.1))).setIfInBounds 12 (.pointer (some ⟨Bx, 0, none⟩)), defers := [] } W') →
      assign.wpIn (F.inRound l) (n - 1 - 1) P (Exit.then K (fun _ _ _ => False)) { tmps := (Array.zip #[57, 58] #[Value.int .i64 ((x.1 : Nat) : Int), recV (y x.1)]).foldl (fun t (p, v) => t.setIfInBounds p v) tm, defers := [] } W)
    (hbody : ∀ (l : Nat) (pre : List (Fin len)) (x : Fin len) (Bx : Nat) (W : World), w.heap.size ≤ l → (∃ r, W.heap[l]? = some (.loop r)) → I pre W → Boxed W Bx 3 (.int .i64 ((x.1 : Nat) : Int)) → pre.length < N → body.wpIn (F.inRound l) (n - 1 - 1) P (ownPostG w.heap.size Kp I (fun _ _ _ => False) (pre ++ [x]) W) { tmps := ((tm.setIfInBounds 57 (.int .i64 ((x.1 : Nat) : Int))).setIfInBounds 58 (recV (y x.1))).setIfInBounds 12 (.pointer (some ⟨Bx, 0, none⟩)), defers := [] } W)
    (hdone : ∀ (D : Nat) (xs : List (Fin len)) (W : World), w.heap.size ≤ D → S xs → I xs W → W.heap[D]? = some (.deferred (some [])) → Q .normal { tmps := tm, defers := { target := .collected D, args := #[] } :: ds } W) :
    (Code.rangeFunc g #[57, 58] assign body).wpIn F n P Q { tmps := tm, defers := ds } w :=
  wpIn_rangeFunc_ownH hro h1 hg hFg eg hseq hKt hKb hb0 (fun _ => rfl) I (fun _ _ _ => False) hI (fun _ _ _ _ _ hs _ _ => hs) h0
    (fun x a' W => ∃ Bx, Boxed W Bx 3 (.int .i64 ((x.1 : Nat) : Int)) ∧ a' = { tmps := ((tm.setIfInBounds 57 (.int .i64 ((x.1 : Nat) : Int))).setIfInBounds 58 (recV (y x.1))).setIfInBounds 12 (.pointer (some ⟨Bx, 0, none⟩)), defers := [] })
    (fun x a' _ X Y row hs hg hr => by obtain ⟨Bx, e2, e3⟩ := hs; exact ⟨Bx, boxed_own Bx 3 (fun (_ : Unit) => Value.int .i64 ((x.1 : Nat) : Int)) () X Y row e2 hg (fun r e => (hr r e).2), e3⟩)
    (fun l pre x W K hi hK => hassign l pre x W K hi (fun Bx W' a b c d => hK _ W' a b c ⟨Bx, d, rfl⟩))
    (fun l pre x a' W hl hr hi ⟨Bx, hb, e⟩ hlen => by subst e; exact hbody l pre x Bx W hl hr hi hb hlen) hdone (fun _ _ _ _ _ _ h _ => h.elim)

/-- The inner loop. -/
theorem range_inn {F : Fence} {n : Nat} {P : Program} {g : Operand} {assign body : Code} {Q : Exit → Act → World → Prop} {tm : Array Value} {ds : List Deferred} {w : World} {l₀ : Nat} {r₀ : Loop} (hro : F.round = some l₀) (hl₀ : w.heap[l₀]? = some (.loop r₀)) (h1 : 1 ≤ n) {gf : Nat} {lb : Array Value} (hg : ({ tmps := tm, defers := ds } : Act).eval g = .func (.func gf) #[] lb) (hFg : F.fn gf) (eg : ∀ args w, (callFunc gf args).run P w = .ok (.enter gf args) w)
    {y : Nat → Sl} {Kp : World → World → Prop} {S Sp : List (Fin 3) → Prop} {N : Nat} {w0 : World} (hseq : SeqStopsK F (n - 1) P gf lb (fun x : Fin 3 => #[Value.int .i64 ((x.1 : Nat) : Int), (y x.1).v]) Kp S Sp N w0)
    (hKt : ∀ {A B C : World}, Kp A B → Kp B C → Kp A C) (hKb : ∀ (W : World) (l : Nat) (o o' : Obj), w.heap.size ≤ l → W.heap[l]? = some o → o.isCells = false → o.isWalk = false → Kp W (W.putObj l o')) (hb0 : Below w0.heap.size w0 w)
    (I : List (Fin 3) → World → Prop) (hI : OwnFrom w.heap.size I) (h0 : I [] w)
    (hassign : ∀ (l : Nat) (x : Fin 3) (W : World) (K : Act → World → Prop), K { tmps := ((tm.setIfInBounds 61 (.int .i64 ((x.1 : Nat) : Int))).setIfInBounds 62 (y x.1).v).setIfInBounds 14 (y x.1).v, defers := [] } W →
      assign.wpIn (F.inRound l) (n - 1 - 1) P (Exit.then K (fun _ _ _ => False)) { tmps := (Array.zip #[61, 62] #[Value.int .i64 ((x.1 : Nat) : Int), (y x.1).v]).foldl (fun t (p, v) => t.setIfInBounds p v) tm, defers := [] } W)
    (hKr : ∀ W, Kp W W)
    (hbody : ∀ (l : Nat) (pre : List (Fin 3)) (x : Fin 3) (W : World), I pre W → pre.length < N → body.wpIn (F.inRound l) (n - 1 - 1) P (ownPostG w.heap.size Kp I (fun _ _ _ => False) (pre ++ [x]) W) { tmps := ((tm.setIfInBounds 61 (.int .i64 ((x.1 : Nat) : Int))).setIfInBounds 62 (y x.1).v).setIfInBounds 14 (y x.1).v, defers := [] } W)
    (hdone : ∀ (xs : List (Fin 3)) (W : World), S xs → I xs W → Q .normal { tmps := tm, defers := ds } W) :
    (Code.rangeFunc g #[61, 62] assign body).wpIn F n P Q { tmps := tm, defers := ds } w :=
  wpIn_rangeFunc_ownN hro hl₀ h1 hg hFg eg hseq hKt hKb hb0 (fun _ => rfl) I (fun _ _ _ => False) hI (fun _ _ _ _ _ hs _ _ => hs) h0
    (fun x a' W => a' = { tmps := ((tm.setIfInBounds 61 (.int .i64 ((x.1 : Nat) : Int))).setIfInBounds 62 (y x.1).v).setIfInBounds 14 (y x.1).v, defers := [] })
    (fun _ _ _ _ _ _ hs _ _ => hs)
    (fun l pre x W K hi hK => hassign l x W K (hK _ W (KeepsFrom.refl _ _) (hKr _) hi rfl))
    (fun l pre x a' W _ _ hi e hlen => by subst e; exact hbody l pre x W hi hlen) hdone (fun _ _ _ _ h => h.elim)
end Go.Proofs.Ythnhacbagmhfoaa

/- seqs: Pack. -/
namespace Go.Proofs.Ythnhacbagmhfoaa
open Go.RowKit Go.WideShapes Go.Shelf Fs
set_option linter.unusedVariables false
set_option linter.unusedSimpArgs false
set_option maxRecDepth 100000
attribute [local go_sem] Oper.semAt_some

theorem calls_marks {P : Program} {f : FuncId} {fn : Func} {c : Code} {args : Array Value} {w : World} {R : Ending → World → Prop} (hf : P.funcs[f]? = some fn) (hb : fn.body = some c)
    (h : c.wp P (bodyPostM Fence.wide 6 P fn R) { tmps := args ++ Array.replicate (fn.ntmps - args.size) undef, defers := [] } w) : Calls P f args w R :=
  callsIn_wide.1 (callsIn_of_wp_marks hf hb trivial (wpIn_wide.2 h) rfl)
/-- Bytes laid behind each other in a row that is one's own, where some blocks may turn. -/
structure AccS (S : Nat → Prop) (w0 w : World) (v : Value) (n : Nat) (l : List Nat) : Prop where
  row : w.ownsRow 0 5 1 v n (u8L l)
  len : l.length = n
  own : ∀ k, v.ownBlock = some k → S k
  bl : Touch S w0 w
  sz : ∀ q, w.heap.size ≤ q → S q
theorem AccS.touch {S : Nat → Prop} {w0 w w' : World} {v : Value} {n : Nat} {l : List Nat} (h : AccS S w0 w v n l) (t : Touch (fun _ => False) w w') : AccS S w0 w' v n l :=
  ⟨t.row h.row (fun _ _ => id), h.len, h.own, h.bl.trans t.none, fun q hq => h.sz q (Nat.le_trans t.size hq)⟩
theorem AccS.app {S : Nat → Prop} {w0 w w' : World} {v v' : Value} {n m : Nat} {l l' : List Nat} (h : AccS S w0 w v n l) (hr : w'.ownsRow 0 5 1 v' (n + m) (u8L l ++ u8L l')) (hm : l'.length = m) (t : Touch (fun k => v.ownBlock = some k) w w') (f : Fresh w.heap.size v v') : AccS S w0 w' v' (n + m) (l ++ l') :=
  ⟨by rw [u8L_app]; exact hr, by rw [List.length_append, h.len, hm], fun k hk => by
    rcases f with f | ⟨q, f, hq⟩
    · exact h.own k (by rw [← f]; exact hk)
    · rw [f] at hk; cases hk; exact h.sz _ hq, h.bl.trans (t.mono (fun q _ e => h.own q e)), fun q hq => h.sz q (Nat.le_trans t.size hq)⟩
/-- The lengths and the bytes, part by part. -/
def accN (a b c : Nat) : Nat → Nat
  | 0 => 2
  | 1 => 2 + a
  | 2 => 2 + a + b
  | _ => 2 + a + b + c
def accL (x a b c : List Nat) : Nat → List Nat
  | 0 => x
  | 1 => x ++ a
  | 2 => x ++ a ++ b
  | _ => x ++ a ++ b ++ c

theorem idxT0 (a b c : Value) (w : World) : (Instr.index 60 (.agg #[a, b, c]) (.int .i64 0)).run Try.prog w = .ok a w := by
  simp [Instr.index, run_underlying Try.underlying60, asIntOf, go_sem]
theorem idxT1 (a b c : Value) (w : World) : (Instr.index 60 (.agg #[a, b, c]) (.int .i64 1)).run Try.prog w = .ok b w := by
  simp [Instr.index, run_underlying Try.underlying60, asIntOf, go_sem]
theorem idxT2 (a b c : Value) (w : World) : (Instr.index 60 (.agg #[a, b, c]) (.int .i64 2)).run Try.prog w = .ok c w := by
  simp [Instr.index, run_underlying Try.underlying60, asIntOf, go_sem]


theorem AccS.past {S : Nat → Prop} {w0 w w' : World} {B : Nat} {cur : Array Value} {e : TypeId} {v : Value} {n : Nat} {l : List Nat} (h : AccS S w0 w v n l) (t : Touch (fun q => q = B ∨ w.heap.size ≤ q) w w') (hB : S B) (hc : w.heap[B]? = some (.cells cur e (0, 0))) (he : (5 : TypeId) ≠ e) : AccS S w0 w' v n l :=
  ⟨t.row h.row (fun k hk hh => by
    rcases hh with rfl | hh
    · exact own_ne h.row hc he hk
    · have := own_below h.row hk; omega), h.len, h.own, h.bl.trans (t.mono fun q _ hh => by
    rcases hh with rfl | hh
    · exact hB
    · exact h.sz q hh), fun q hq => h.sz q (Nat.le_trans t.size hq)⟩
/-- The three rows. -/
def rowS (a b c n x y z : Nat) (j : Nat) : Sl := if j = 0 then ⟨some ⟨a, 0, none⟩, n, x⟩ else if j = 1 then ⟨some ⟨b, 0, none⟩, n, y⟩ else ⟨some ⟨c, 0, none⟩, n, z⟩
theorem rowS_cells {w : World} {g a b c n x y z : Nat} (h0 : w.cell? ⟨g, 0, none⟩ = some (.slice (some ⟨a, 0, none⟩) n x)) (h1 : w.cell? ⟨g, 1, none⟩ = some (.slice (some ⟨b, 0, none⟩) n y)) (h2 : w.cell? ⟨g, 2, none⟩ = some (.slice (some ⟨c, 0, none⟩) n z)) : ∀ i, i < 3 → w.cell? ⟨g, i, none⟩ = some (rowS a b c n x y z i).v := by
  intro i hi
  have : i = 0 ∨ i = 1 ∨ i = 2 := by omega
  rcases this with rfl | rfl | rfl
  · exact h0
  · exact h1
  · exact h2
theorem rowS_at {w : World} {a b c n xlc xoc xmc B : Nat} {vl vo vm : Nat → Nat} (hl : Ints .i64 w (some ⟨a, 0, none⟩) a 0 n (fun i => (vl i : Int))) (ho : Ints .i64 w (some ⟨b, 0, none⟩) b 0 n (fun i => (vo i : Int))) (hm : Ints .i64 w (some ⟨c, 0, none⟩) c 0 n (fun i => (vm i : Int)))
    {i : Nat} (hi : i < n) (hlt : ∀ i, i < n → vl i < 32768 ∧ vo i < 32768 ∧ vm i < 32768) (y : Fin 3) (hB : a < B ∧ b < B ∧ c < B) :
    ∃ vx bq cq, (rowS a b c n xlc xoc xmc y.1).v = .slice (some ⟨bq, 0, none⟩) n cq ∧ rowv vl vo vm i y.1 = vx ∧ vx < 32768 ∧ bq < B ∧ w.cell? ⟨bq, i, none⟩ = some (.int .i64 vx) := by
  have h1 := hl.cell i hi
  have h2 := ho.cell i hi
  have h3 := hm.cell i hi
  rw [Nat.zero_add] at h1 h2 h3
  obtain ⟨k1, k2, k3⟩ := hlt i hi
  have : y.1 = 0 ∨ y.1 = 1 ∨ y.1 = 2 := by omega
  rcases this with e | e | e <;> rw [e]
  · exact ⟨_, _, _, rfl, rfl, k1, hB.1, h1⟩
  · exact ⟨_, _, _, rfl, rfl, k2, hB.2.1, h2⟩
  · exact ⟨_, _, _, rfl, rfl, k3, hB.2.2, h3⟩
theorem Boxed.far {w w' : World} {S : Nat → Prop} {b : Nat} {t : TypeId} {v : Value} (h : Boxed w b t v) (t' : Touch S w w') (hs : ¬ S b) : Boxed w' b t v := t'.heap h hs
theorem sized_src (a : Option Addr) (b off c : Nat) (l : List Nat) (w : World) (h : BytesAt w a b off l) {K NE : Nat} {RE : List Nat} (hl : l.length = K) (hK : K ≤ 60000) (hr : two2 K ++ l = RE) (hn : RE.length = NE) :
    Calls Try.prog 44 #[.slice a K c] w fun e w' => ∃ ra rc, e = .returned (.slice ra NE rc) ∧ Src Try.prog 1 28 (.slice ra NE rc) NE (u8L RE) w' ∧ Touch (fun _ => False) w w' := by
  subst hl
  refine (sized_walk a b off c l w h hK).mono ?_
  rintro e w' ⟨v, rfl, hrow, _, t⟩
  rw [hr] at hrow
  obtain ⟨ra, rc, rfl, hs⟩ := hrow.src hn
  exact ⟨ra, rc, rfl, hs, t⟩
set_option maxHeartbeats 8000000 in
theorem pack_full (w : World) (a0 : Option Addr) (b0 o0 l0 c0 : Nat) (z0 : Nat → Nat → Int) (w0 : RecsIn 3 w a0 b0 o0 l0 c0 z0) (h : H3) (hn : 0 < l0) (hok : packOk z0 l0 = true) :
    Calls Try.prog 20 #[.slice a0 l0 c0, h.val] w (PackPost z0 h l0 w) := by
  obtain ⟨j0, hj, hj0, hj1, hj2⟩ := info_parts Try.info5c
  have W0 := Lib.hid w0
  have HY := Lib.hid hok
  have HN0 := Lib.hid hn
  have h5 := (pack_ok hok).1
  obtain ⟨Q, hQ⟩ : ∃ Q, PackPost z0 h l0 w = Q := ⟨_, rfl⟩
  rw [hQ]
  have HQ := Lib.hid hQ
  have hB : Arr ((w.alloc (.cells #[.int .i64 h.a, .int .i64 h.b, .int .i64 h.c] 31)).alloc (.cells #[.int .i64 0, .int .i64 0, .int .i64 0] 31)) (w.heap.size + 1) ⟨0, 0, 0⟩ := heap_alloc_2 _ _ _
  have hA := Arr.touch (h := h) (heap_alloc_new w _) ((Touch.refl (fun _ => False) _).alloc (.cells #[.int .i64 0, .int .i64 0, .int .i64 0] 31)) id
  have t0 := ((Touch.refl (fun _ => False) w).alloc (.cells #[.int .i64 h.a, .int .i64 h.b, .int .i64 h.c] 31)).alloc (.cells #[.int .i64 0, .int .i64 0, .int .i64 0] 31)
  have HB := Lib.hid hB
  have HA := Lib.hid hA
  have HT0 := Lib.hid t0
  have hd5 : decide ((500 : Int) < l0) = false := decide_eq_false (by omega)
  have hall : allM z0 l0 = true := by unfold packOk at hok; rw [Bool.and_eq_true] at hok; exact hok.2
  have HC := Lib.hid (fun w h => contM_walk a0 b0 o0 l0 c0 z0 w h (Nat.le_trans h5 (by decide)) true hall)
  have hz0 : ((l0 : Int) == 0) = false := by simp; omega
  have HNUM := Lib.hid (fun w w0 => numbers_walk w a0 b0 o0 l0 c0 z0 w0 h hok)
  obtain ⟨H2, hH2⟩ : ∃ H2, histO (fun i => z0 i 1) h l0 = H2 := ⟨_, rfl⟩
  rw [hH2] at HNUM
  have HH2 := Lib.hid hH2
  have f1 : IntKind.u8.wrap (l0 : Int) = ((l0 % 256 : Nat) : Int) := u8_wrap l0
  have f2 : IntKind.u8.wrap ((l0 : Int) / 256) = ((l0 / 256 % 256 : Nat) : Int) := by rw [← u8_wrap]; congr 1
  obtain ⟨X0, hX0⟩ : ∃ x, l0 % 256 = x := ⟨_, rfl⟩
  obtain ⟨X1, hX1⟩ : ∃ x, l0 / 256 % 256 = x := ⟨_, rfl⟩
  rw [hX0] at f1
  rw [hX1] at f2
  have HX0 := Lib.hid hX0
  have HX1 := Lib.hid hX1
  clear w0 hQ hB hA t0 hall hok hH2 hX0 hX1
  unfold H3.val arr3 at HNUM ⊢
  refine calls_marks Try.func20 rfl ?_
  simp only [Try.ntmps20, List.size_toArray, List.length_cons, List.length_nil, Nat.reduceAdd, Nat.reduceSub, Array.replicate_succ, Array.replicate_zero, List.push_toArray, List.append_toArray, List.nil_append, List.cons_append]
  go_wp2_with fail
  obtain ⟨wa, hwa⟩ : ∃ wa, (w.alloc (.cells #[.int .i64 h.a, .int .i64 h.b, .int .i64 h.c] 31)).alloc (.cells #[.int .i64 0, .int .i64 0, .int .i64 0] 31) = wa := ⟨_, rfl⟩
  rw [hwa] at HB HA HT0 ⊢
  refine (HC.out _ (W0.out.stp.touch HT0.out)).mono ?_
  rintro e w1 ⟨rfl, t1⟩
  obtain ⟨c0', c1', c2'⟩ := (HA.out.touch (t1.trans (Touch.new w1 (.cells #[.int .u8 X0, .int .u8 X1] 5))) id).cells
  have HA1 := Lib.hid (HA.out.touch t1 id)
  have HB1 := Lib.hid (HB.out.touch t1 id)
  have HT1 := Lib.hid (HT0.out.trans t1)
  clear t1 hwa HA HB HT0
  go_wp2_with fail
  refine (HNUM.out _ (recs_touch W0.out (HT1.out.trans (Touch.new w1 _)))).mono ?_
  rintro e w2 ⟨xl, xlb, xlc, xo, xob, xoc, xm, xmb, xmc, rfl, num⟩
  have tw := Touch.new w1 (.cells #[.int .u8 X0, .int .u8 X1] 5)
  have hrow := row_two w1 (.int .u8 X0) (.int .u8 X1)
  have hs1 := size_one w1 (.cells #[.int .u8 X0, .int .u8 X1] 5)
  have hlt1 := lt_of_block HB1.out
  have hrow2 := num.t.row hrow (fun _ _ => id)
  have tn2 := Touch.new w2 (.cells #[.slice xl l0 xlc, .slice xo l0 xoc, .slice xm l0 xmc] 60)
  have hA2 := (HA1.out.touch (tw.trans num.t) id).touch tn2 id
  have hB2 := (HB1.out.touch (tw.trans num.t) id).touch tn2 id
  have hT2 : Tri (w2.alloc (.cells #[.slice xl l0 xlc, .slice xo l0 xoc, .slice xm l0 xmc] 60)) w2.heap.size (.slice xl l0 xlc) (.slice xo l0 xoc) (.slice xm l0 xmc) := heap_alloc_new _ _
  have hs2 := size_one w2 (.cells #[.slice xl l0 xlc, .slice xo l0 xoc, .slice xm l0 xmc] 60)
  have hs3 := num.t.size
  rw [hs1] at hs3
  have tp := touch_put3 (w2.alloc (.cells #[.slice xl l0 xlc, .slice xo l0 xoc, .slice xm l0 xmc] 60)) w.heap.size H2
  obtain ⟨q0, q1, q2⟩ := (hT2.touch tp (fun e => by omega)).cells
  unfold put3 at q0 q1 q2
  obtain ⟨p0, p1, p2⟩ := hA2.cells
  have r0 := hA2.free 0
  have r1 := hA2.free 1
  have r2 := hA2.free 2
  have HA2 := Lib.hid hA2
  have HB2 := Lib.hid hB2
  have HT2 := Lib.hid hT2
  have HNM := Lib.hid num
  have HR2 := Lib.hid hrow2
  have HSZ := Lib.hid (And.intro hs1 (And.intro hlt1 (And.intro hs2 hs3)))
  clear num tw hrow hs1 hlt1 hrow2 tn2 hA2 hB2 hT2 hs2 hs3 tp c0' c1' c2' HA1
  go_wp2_with fail
  have tp := touch_put3 (w2.alloc (.cells #[.slice xl l0 xlc, .slice xo l0 xoc, .slice xm l0 xmc] 60)) w.heap.size H2
  have tw := Touch.new w1 (.cells #[.int .u8 X0, .int .u8 X1] 5)
  have tn2 := Touch.new w2 (.cells #[.slice xl l0 xlc, .slice xo l0 xoc, .slice xm l0 xmc] 60)
  obtain ⟨hs1, hlt1, hs2, hs3⟩ := HSZ.out
  have hlb := HNM.out.lb HN0.out
  rw [hs1] at hlb
  have kA := HA2.out.put H2
  have kB := HB2.out.touch tp (fun e => by omega)
  have kT := HT2.out.touch tp (fun e => by omega)
  have kL := Ints.touchS (HNM.out.l.touch tn2) tp (fun _ e => by omega)
  have kO := Ints.touchS (HNM.out.o.touch tn2) tp (fun _ e => by omega)
  have kM := Ints.touchS (HNM.out.m.touch tn2) tp (fun _ e => by omega)
  have kR := tp.row (tn2.row HR2.out (fun _ _ => id)) (fun q hq e => by simp [Value.ownBlock] at hq; omega)
  have kt := (((HT1.out.trans tw).trans HNM.out.t).trans tn2).then tp (fun i hi e => by omega)
  have ksz := tp.size
  obtain ⟨wd, hwd⟩ : ∃ wd, put3 (w2.alloc (.cells #[.slice xl l0 xlc, .slice xo l0 xoc, .slice xm l0 xmc] 60)) w.heap.size H2 = wd := ⟨_, rfl⟩
  have hwd2 := hwd
  unfold put3 at hwd2
  rw [hwd2]
  rw [hwd] at kA kB kT kL kO kM kR kt ksz
  obtain ⟨Pb, hPb⟩ : ∃ k, w1.heap.size = k := ⟨_, rfl⟩
  obtain ⟨P8, hP8⟩ : ∃ k, w2.heap.size = k := ⟨_, rfl⟩
  rw [hPb] at hlb hlt1 hs3 kR
  rw [hP8] at hs2 hs3 kT
  rw [hPb, hP8]
  rw [hs2] at ksz
  have HKA := Lib.hid kA
  have HKB := Lib.hid kB
  have HKT := Lib.hid kT
  have HKL := Lib.hid kL
  have HKO := Lib.hid kO
  have HKM := Lib.hid kM
  have HKt := Lib.hid kt
  have jl := ints_lt kL HN0.out
  have jo := ints_lt kO HN0.out
  have jm := ints_lt kM HN0.out
  have HNS := Lib.hid (show ∀ b, Pb + 1 ≤ b → b < wd.heap.size → ¬ (fun q => q = Pb ∨ wd.heap.size ≤ q) b from fun b h1 h2 e => by rcases e with e | e <;> omega)
  have HJ := Lib.hid (show (Pb + 1 ≤ xlb ∧ xlb < wd.heap.size) ∧ (Pb + 1 ≤ xob ∧ xob < wd.heap.size) ∧ (Pb + 1 ≤ xmb ∧ xmb < wd.heap.size) from ⟨⟨hlb.1, jl⟩, ⟨hlb.2.1, jo⟩, ⟨hlb.2.2, jm⟩⟩)
  have HORD := Lib.hid (show w.heap.size + 1 < Pb ∧ Pb + 1 ≤ P8 ∧ P8 < wd.heap.size from ⟨by omega, by omega, by omega⟩)
  have HACC := Lib.hid (show AccS (fun q => q = Pb ∨ wd.heap.size ≤ q) wd wd (.slice (some ⟨Pb, 0, none⟩) 2 2) 2 (two2 l0) from
    ⟨by unfold two2; rw [HX0.out, HX1.out]; exact kR, rfl, fun k hk => by simp [Value.ownBlock] at hk; exact .inl hk.symm, Touch.refl _ _, fun q hq => .inr hq⟩)
  have HLT := Lib.hid (fun i (hi : i < l0) => pack_lt (h := h) HY.out hi)
  have hbl := rowB_len HN0.out h5 (fun i hi => (HLT.out i hi).1)
  have hbo := rowB_len HN0.out h5 (fun i hi => (HLT.out i hi).2.1)
  have hbm := rowB_len HN0.out h5 (fun i hi => (HLT.out i hi).2.2)
  have hbe := extB_len (vl := vLit z0) (vo := vOff z0 h) (vm := vMore z0) h5
  have hpb : packB z0 h l0 = two2 l0 ++ rowB (vLit z0) l0 ++ rowB (vOff z0 h) l0 ++ rowB (vMore z0) l0 ++ extB (vLit z0) (vOff z0 h) (vMore z0) l0 := by
    unfold packB; rw [if_neg (Nat.ne_of_gt HN0.out)]
  obtain ⟨RL, hRL⟩ : ∃ x, rowB (vLit z0) l0 = x := ⟨_, rfl⟩
  obtain ⟨RO, hRO⟩ : ∃ x, rowB (vOff z0 h) l0 = x := ⟨_, rfl⟩
  obtain ⟨RM, hRM⟩ : ∃ x, rowB (vMore z0) l0 = x := ⟨_, rfl⟩
  obtain ⟨RE, hRE⟩ : ∃ x, extB (vLit z0) (vOff z0 h) (vMore z0) l0 = x := ⟨_, rfl⟩
  rw [hRL, hRO, hRM, hRE] at hpb
  rw [hRL] at hbl
  rw [hRO] at hbo
  rw [hRM] at hbm
  rw [hRE] at hbe
  obtain ⟨NL, hNL⟩ : ∃ x, RL.length = x := ⟨_, rfl⟩
  obtain ⟨NO, hNO⟩ : ∃ x, RO.length = x := ⟨_, rfl⟩
  obtain ⟨NM, hNM⟩ : ∃ x, RM.length = x := ⟨_, rfl⟩
  obtain ⟨NE, hNE⟩ : ∃ x, RE.length = x := ⟨_, rfl⟩
  rw [hNL] at hbl
  rw [hNO] at hbo
  rw [hNM] at hbm
  rw [hNE] at hbe
  have HX1' := Lib.hid (max_len (n := 2 + NL) (by omega))
  have HX2' := Lib.hid (max_len (n := 2 + NL + NO) (by omega))
  have HX3' := Lib.hid (max_len (n := 2 + NL + NO + NM) (by omega))
  have HX4' := Lib.hid (max_len (n := 2 + NL + NO + NM + NE) (by omega))
  have HRL := Lib.hid (fun w h => row_src xl xlb 0 l0 xlc (vLit z0) w h HN0.out h5 (fun i hi => (HLT.out i hi).1) hRL hNL)
  have HRO := Lib.hid (fun w h2 => row_src xo xob 0 l0 xoc (vOff z0 h) w h2 HN0.out h5 (fun i hi => (HLT.out i hi).2.1) hRO hNO)
  have HRM := Lib.hid (fun w h => row_src xm xmb 0 l0 xmc (vMore z0) w h HN0.out h5 (fun i hi => (HLT.out i hi).2.2) hRM hNM)
  have HPB := Lib.hid hpb
  have HNL := Lib.hid hNL
  have HNO := Lib.hid hNO
  have HNMM := Lib.hid hNM
  have HNE := Lib.hid hNE
  have HRE := Lib.hid hRE
  have HPbE := Lib.hid hPb
  clear tp tw tn2 hs1 hlt1 hs2 hs3 hlb kA kB kT kL kO kM kR kt ksz hwd hwd2 hPb hP8 jl jo jm hbl hbo hbm hbe hpb hRL hRO hRM hRE hNL hNO hNM hNE HA2 HB2 HT2 HNM HR2 HSZ q0 q1 q2 p0 p1 p2 r0 r1 r2 HT1 HB1 f1 f2 HX0 HX1
  go_loopw [7, 46] (fun b i wr => ∃ (k : Nat) (ii : Int), k ≤ 3 ∧ ii = k ∧ i = .int .i64 ii ∧ AccS (fun q => q = Pb ∨ wd.heap.size ≤ q) wd wr b (accN NL NO NM k) (accL (two2 l0) RL RO RM k)) (fun _ i _ => 3 - (intOf i).toNat)
  case atStart => exact ⟨0, 0, by omega, rfl, rfl, HACC.out⟩
  case round =>
    obtain ⟨k, ii, hk, hii, rfl, hacc⟩ := hrel
    have HAC := Lib.hid hacc
    clear hacc HACC
    have hkc : k = 0 ∨ k = 1 ∨ k = 2 ∨ k = 3 := by omega
    rcases hkc with rfl | rfl | rfl | rfl
    · obtain rfl : ii = 0 := hii
      have hix := fun w => idxT0 (.slice xl l0 xlc) (.slice xo l0 xoc) (.slice xm l0 xmc) w
      have HAC' := Lib.hid (show AccS (fun q => q = Pb ∨ wd.heap.size ≤ q) wd wr u7 2 (two2 l0) from HAC.out)
      clear HAC hk
      go_wp2_with fail
      refine (HRL.out _ (Ints.touchS HKL.out HAC'.out.bl (fun _ => HNS.out _ HJ.out.1.1 HJ.out.1.2))).mono ?_
      rintro e w3 ⟨ra3, rc3, rfl, s3, t3⟩
      have HA3 := Lib.hid (HAC'.out.touch t3)
      have HS3 := Lib.hid s3
      clear s3 t3
      go_wp2_with (first
        | (refine wpList_append_mine rfl (.tmp 49) (.tmp 51) 28 28 rfl 5 j0 (.int .u8 0) 1 1 Try.underlying28 hj hj0 hj1 hj2 rfl u7 2 (u8L (two2 l0)) rfl HA3.out.row (.slice ra3 NL rc3) NL (u8L RL) rfl HS3.out HX1'.out.1 HX1'.out.2 ?_; intro a4 c4 w4 hown4 ht4 hf4 _; have HA4 := Lib.hid (HA3.out.app hown4 HNL.out ht4 hf4); clear hown4 ht4 hf4))
      go_roundw
      case rel => exact ⟨1, 1, by omega, rfl, by first | rfl | go_num, HA4.out⟩
      case measure => simp [intOf]
    · obtain rfl : ii = 1 := hii
      have hix := fun w => idxT1 (.slice xl l0 xlc) (.slice xo l0 xoc) (.slice xm l0 xmc) w
      have HAC' := Lib.hid (show AccS (fun q => q = Pb ∨ wd.heap.size ≤ q) wd wr u7 (2 + NL) (two2 l0 ++ RL) from HAC.out)
      clear HAC hk
      go_wp2_with fail
      refine (HRO.out _ (Ints.touchS HKO.out HAC'.out.bl (fun _ => HNS.out _ HJ.out.2.1.1 HJ.out.2.1.2))).mono ?_
      rintro e w3 ⟨ra3, rc3, rfl, s3, t3⟩
      have HA3 := Lib.hid (HAC'.out.touch t3)
      have HS3 := Lib.hid s3
      clear s3 t3
      go_wp2_with (first
        | (refine wpList_append_mine rfl (.tmp 49) (.tmp 51) 28 28 rfl 5 j0 (.int .u8 0) 1 1 Try.underlying28 hj hj0 hj1 hj2 rfl u7 (2 + NL) (u8L (two2 l0 ++ RL)) rfl HA3.out.row (.slice ra3 NO rc3) NO (u8L RO) rfl HS3.out HX2'.out.1 HX2'.out.2 ?_; intro a4 c4 w4 hown4 ht4 hf4 _; have HA4 := Lib.hid (HA3.out.app hown4 HNO.out ht4 hf4); clear hown4 ht4 hf4))
      go_roundw
      case rel => exact ⟨2, 2, by omega, rfl, by first | rfl | go_num, HA4.out⟩
      case measure => simp [intOf]
    · obtain rfl : ii = 2 := hii
      have hix := fun w => idxT2 (.slice xl l0 xlc) (.slice xo l0 xoc) (.slice xm l0 xmc) w
      have HAC' := Lib.hid (show AccS (fun q => q = Pb ∨ wd.heap.size ≤ q) wd wr u7 (2 + NL + NO) (two2 l0 ++ RL ++ RO) from HAC.out)
      clear HAC hk
      go_wp2_with fail
      refine (HRM.out _ (Ints.touchS HKM.out HAC'.out.bl (fun _ => HNS.out _ HJ.out.2.2.1 HJ.out.2.2.2))).mono ?_
      rintro e w3 ⟨ra3, rc3, rfl, s3, t3⟩
      have HA3 := Lib.hid (HAC'.out.touch t3)
      have HS3 := Lib.hid s3
      clear s3 t3
      go_wp2_with (first
        | (refine wpList_append_mine rfl (.tmp 49) (.tmp 51) 28 28 rfl 5 j0 (.int .u8 0) 1 1 Try.underlying28 hj hj0 hj1 hj2 rfl u7 (2 + NL + NO) (u8L (two2 l0 ++ RL ++ RO)) rfl HA3.out.row (.slice ra3 NM rc3) NM (u8L RM) rfl HS3.out HX3'.out.1 HX3'.out.2 ?_; intro a4 c4 w4 hown4 ht4 hf4 _; have HA4 := Lib.hid (HA3.out.app hown4 HNMM.out ht4 hf4); clear hown4 ht4 hf4))
      go_roundw
      case rel => exact ⟨3, 3, by omega, rfl, by first | rfl | go_num, HA4.out⟩
      case measure => simp [intOf]
    · obtain rfl : ii = 3 := hii
      have HAC' := Lib.hid (show AccS (fun q => q = Pb ∨ wd.heap.size ≤ q) wd wr u7 (2 + NL + NO + NM) (two2 l0 ++ RL ++ RO ++ RM) from HAC.out)
      have HWD := Lib.hid (show wd.heap.size ≤ wr.heap.size from HAC'.out.bl.size)
      clear HAC hk HRL HRO HRM
      go_wp2_with fail
      refine (wnew_walk _).mono ?_
      rintro e w4 ⟨rfl, hwr4, t4, s4⟩
      have HAC4 := Lib.hid (HAC'.out.touch t4)
      have HWR4 := Lib.hid hwr4
      have HS4 := Lib.hid s4
      clear hwr4 t4 s4 HAC'
      go_wp2_with fail
      refine ((callsIn_wide (n := 1)).1 (stepsBack_in Fence.wide 1 trivial rfl _ _ _ _)).mono ?_
      rintro e w5 ⟨rfl, rfl⟩
      go_wp2_with fail
      have b11 := (Boxed.new w4 64 (.pointer (some ⟨wr.heap.size, 0, none⟩))).alloc (.cells #[.slice a0 l0 c0] 29)
      have b12 := Boxed.new (w4.alloc (.cells #[.pointer (some ⟨wr.heap.size, 0, none⟩)] 64)) 29 (.slice a0 l0 c0)
      rw [World.size_alloc] at b12
      have t5 := (Touch.new w4 (.cells #[.pointer (some ⟨wr.heap.size, 0, none⟩)] 64)).alloc (.cells #[.slice a0 l0 c0] 29)
      have hsz : ((w4.alloc (.cells #[.pointer (some ⟨wr.heap.size, 0, none⟩)] 64)).alloc (.cells #[.slice a0 l0 c0] 29)).heap.size = w4.heap.size + 2 := by simp
      obtain ⟨WA, hWA⟩ : ∃ WA, (w4.alloc (.cells #[.pointer (some ⟨wr.heap.size, 0, none⟩)] 64)).alloc (.cells #[.slice a0 l0 c0] 29) = WA := ⟨_, rfl⟩
      rw [hWA] at b11 b12 t5 hsz ⊢
      try simp only [World.size_alloc]
      have hS4 := HS4.out
      obtain ⟨Bw, hBw⟩ : ∃ k, wr.heap.size = k := ⟨_, rfl⟩
      obtain ⟨P11, hP11⟩ : ∃ k, w4.heap.size = k := ⟨_, rfl⟩
      rw [hBw] at HWR4 hS4 b11 ⊢
      rw [hP11] at hS4 b11 b12 hsz ⊢
      have HAW := Lib.hid (HAC4.out.touch t5)
      have hBd := HWD.out
      rw [hBw] at hBd
      have hT5 : Touch (fun q => q = Pb ∨ wd.heap.size ≤ q) wd WA := HAW.out.bl
      obtain ⟨n1, n2, n3⟩ := HORD.out
      have eL := Ints.touchS HKL.out hT5 (fun _ => HNS.out _ HJ.out.1.1 HJ.out.1.2)
      have eO := Ints.touchS HKO.out hT5 (fun _ => HNS.out _ HJ.out.2.1.1 HJ.out.2.1.2)
      have eM := Ints.touchS HKM.out hT5 (fun _ => HNS.out _ HJ.out.2.2.1 HJ.out.2.2.2)
      have eT := HKT.out.touch hT5 (fun e => by omega)
      have eA := HKA.out.touch hT5 (fun e => by omega)
      have eB := HKB.out.touch hT5 (fun e => by omega)
      have et := HKt.out.then hT5 (fun i hi e => by omega)
      have hP : PakI WA Bw [] WA (.slice none 0 0) := ⟨Touch.refl _ _, HWR4.out.touch t5 id (fun _ _ => id), OwnB.nil _⟩
      obtain rfl := eL.at_ HN0.out
      obtain rfl := eO.at_ HN0.out
      obtain rfl := eM.at_ HN0.out
      have hdw : wd.heap.size ≤ WA.heap.size := hT5.size
      have HF := Lib.hid (show Ints .i64 WA (some ⟨xlb, 0, none⟩) xlb 0 l0 (fun i => (vLit z0 i : Int)) ∧ Ints .i64 WA (some ⟨xob, 0, none⟩) xob 0 l0 (fun i => (vOff z0 h i : Int)) ∧ Ints .i64 WA (some ⟨xmb, 0, none⟩) xmb 0 l0 (fun i => (vMore z0 i : Int)) ∧ Tri WA P8 (.slice (some ⟨xlb, 0, none⟩) l0 xlc) (.slice (some ⟨xob, 0, none⟩) l0 xoc) (.slice (some ⟨xmb, 0, none⟩) l0 xmc) ∧ Arr WA w.heap.size H2 ∧ Arr WA (w.heap.size + 1) ⟨0, 0, 0⟩ ∧ Touch (fun _ => False) w WA ∧ Boxed WA P11 64 (.pointer (some ⟨Bw, 0, none⟩)) ∧ Boxed WA (P11 + 1) 29 (.slice a0 l0 c0) from ⟨eL, eO, eM, eT, eA, eB, et, b11, b12⟩)
      have HO := Lib.hid (show w.heap.size + 1 < Bw ∧ xlb < Bw ∧ xob < Bw ∧ xmb < Bw ∧ P8 < Bw ∧ Bw < P11 ∧ P11 + 2 = WA.heap.size ∧ wd.heap.size ≤ Bw ∧ b0 < w.heap.size from ⟨by omega, by have := HJ.out; omega, by have := HJ.out; omega, by have := HJ.out; omega, by omega, by omega, by omega, hBd, W0.out.lt HN0.out⟩)
      have hstp := (W0.out.stp).touch et
      have HPI := Lib.hid hP
      clear b11 b12 t5 hsz hWA hS4 hBw hP11 hBd hT5 n1 n2 n3 eL eO eM eT eA eB et hdw hP HKL HKO HKM HKT HKA HKB HNS HJ HAC4 HWR4 HS4 HWD
      refine (wpIn_wide (n := 6)).1 (range_out rfl (by decide) (gf := 66) (lb := #[.pointer (some ⟨P11 + 1, 0, none⟩)]) rfl trivial (enters_of Try.func66 (by kernel_rfl) rfl)
        (stepsBack_stops Fence.wide 5 trivial rfl (by decide) (P11 + 1) b0 o0 l0 c0 z0 a0 HN0.out (Nat.le_trans h5 (by decide)) WA HF.out.2.2.2.2.2.2.2.2.lt HF.out.2.2.2.2.2.2.2.2.cell hstp (fun _ => by have := HO.out; omega))
        (fun h k => h.trans k) (keepAt_b (S := fun k => k = P11 + 1 ∨ (0 < l0 ∧ k = b0)) (fun k hk => hk.elim (fun e => by rw [e]; have := HO.out; omega) (fun e => by rw [e.2]; have := HO.out; omega))) (Below.refl _ _)
        (fun pre W => PakE WA Bw (foldP (vLit z0) (vOff z0 h) (vMore z0) pre) W) (pakE_own (Nat.le_refl _) _) ⟨_, HPI.out⟩ ?assign ?body ?done)
      case assign =>
        rintro lr pre x W K ⟨v, hE⟩ hK
        have hk := hK W.heap.size (W.alloc (.cells #[.int .i64 ((x.1 : Nat) : Int)] 3)) ((KeepsOthers.alloc _ _).from _) (KeepAt.of_touch (Touch.new W _) (fun k hk => ⟨Nat.lt_of_lt_of_le (hk.elim (fun e => by rw [e]; have := HO.out; omega) (fun e => by rw [e.2]; have := HO.out; omega)) hE.t.size, id⟩)) ⟨v, hE.touch (Touch.new W _)⟩ (Boxed.new W 3 _)
        simp only [List.setIfInBounds_toArray, List.set_cons_zero, List.set_cons_succ] at hk
        have HK := Lib.hid hk
        clear hk hK hE
        gi_wp2
        exact HK.out
      case body =>
        rintro lr pre x Bx W hl ⟨r, hr⟩ ⟨v, hE⟩ bX hlen
        simp only [List.setIfInBounds_toArray, List.set_cons_zero, List.set_cons_succ]
        gi_wp2_with fail
        refine ⟨trivial, (CallsIn.inRound lr (rowsBack_in Fence.wide _ trivial rfl _ _ _ _)).mono ?_⟩
        rintro e w' ⟨rfl, rfl⟩
        obtain ⟨o1, o2, o3, o4, o5, o6, o7, o8, o9⟩ := HO.out
        have hws := hE.t.size
        have tn := Touch.new W (.cells #[.slice (some ⟨P8, 0, none⟩) 3 3] 72)
        have bN := Boxed.new W 72 (.slice (some ⟨P8, 0, none⟩) 3 3)
        have hr' : (W.alloc (.cells #[.slice (some ⟨P8, 0, none⟩) 3 3] 72)).heap[lr]? = some (.loop r) := tn.heap hr id
        have hin := hE.touch tn
        have hsz1 := size_one W (.cells #[.slice (some ⟨P8, 0, none⟩) 3 3] 72)
        have hlow : ∀ k, k < Bw → k < WA.heap.size ∧ ¬ (k = Bw ∨ WA.heap.size ≤ k) := fun k hk => ⟨by omega, by omega⟩
        have hT8 := HF.out.2.2.2.1.touch hin.t (by have := hlow P8 o5; exact this.2)
        obtain ⟨q0, q1, q2⟩ := hT8.cells
        have HE := Lib.hid hE
        have bX1 := bX.alloc (.cells #[.slice (some ⟨P8, 0, none⟩) 3 3] 72)
        obtain ⟨WB, hWB⟩ : ∃ WB, W.alloc (.cells #[.slice (some ⟨P8, 0, none⟩) 3 3] 72) = WB := ⟨_, rfl⟩
        rw [hWB] at tn bN hr' hin hsz1 q0 q1 q2 bX1 ⊢
        have HKW := Lib.hid (show KeepsFrom WA.heap.size W WB from by rw [← hWB]; exact (KeepsOthers.alloc _ _).from _)
        have HIN := Lib.hid hin
        obtain ⟨Bs, hBs⟩ : ∃ k, W.heap.size = k := ⟨_, rfl⟩
        rw [hBs] at hws bN hsz1 ⊢
        gi_wp2_with fail
        refine range_inn (n := 6 - 1 - 1) (l₀ := lr) (r₀ := r) rfl hr' (by decide) (gf := 67) (lb := #[.pointer (some ⟨Bs, 0, none⟩)]) rfl trivial (enters_of Try.func67 (by kernel_rfl) rfl)
          ((rowsBack_stops Fence.wide 3 trivial rfl (by decide) Bs P8 (rowS xlb xob xmb l0 xlc xoc xmc) WB bN.lt bN.cell (rowS_cells q0 q1 q2) (by omega)).inRound lr)
          (fun h k => h.trans k) (keepAt_b (S := fun k => k = Bs ∨ k = P8) (fun k hk => hk.elim (fun e => by rw [e]; omega) (fun e => by rw [e]; omega))) (Below.refl _ _)
          (fun pre' W' => (PakE WA Bw (foldQ (rowv (vLit z0) (vOff z0 h) (vMore z0) x.1) (foldP (vLit z0) (vOff z0 h) (vMore z0) pre) pre') W' ∧ (Boxed W' Bx 3 (.int .i64 ((x.1 : Nat) : Int)) ∧ Boxed W' Bs 72 (.slice (some ⟨P8, 0, none⟩) 3 3))) ∧ KeepsFrom WA.heap.size W W')
          (OwnFrom.and (OwnFrom.and (pakE_own (by omega) _) (OwnFrom.and (Own.from (boxed_own _ _ _) _) (Own.from (boxed_own _ _ _) _))) (ownFrom_keepsFrom (by omega)))
          ⟨⟨⟨v, hin⟩, bX1, bN⟩, HKW.out⟩ ?assign2 (fun W => KeepAt.refl _ _) ?body2 ?done2
        case assign2 =>
          rintro lr2 y W' K hK
          simp only [List.setIfInBounds_toArray, List.set_cons_zero, List.set_cons_succ] at hK
          have HK := Lib.hid hK
          clear hK
          gi_wp2
          exact HK.out
        case body2 =>
          rintro lr2 pre' y W' ⟨⟨⟨v2, hE2⟩, bX2, bS2⟩, hKF⟩ hlen2
          simp only [List.setIfInBounds_toArray, List.set_cons_zero, List.set_cons_succ]
          obtain ⟨ii, hii⟩ : ∃ ii : Nat, (x.1 : Nat) = ii := ⟨_, rfl⟩
          have hil : ii < l0 := by rw [← hii]; exact x.2
          obtain ⟨vx, bq, cq, hy, hvx, hv15, hbq, hrc⟩ := rowS_at (xlc := xlc) (xoc := xoc) (xmc := xmc) HF.out.1 HF.out.2.1 HF.out.2.2.1 hil (fun i hi => HLT.out i hi) y ⟨o2, o3, o4⟩
          rw [hii] at bX2 ⊢
          have c1 := hE2.t.cell hrc (by have := hlow bq hbq; exact this.2)
          have c12 := bX2.cell
          have c11 := (box_far HF.out.2.2.2.2.2.2.2.1 hE2.t (by omega)).cell
          have HCODE := Lib.hid (fun w => code_walk vx (small_code hv15) w)
          unfold codeT at HCODE
          have HE2 := Lib.hid hE2
          have HKF := Lib.hid hKF
          have BX2 := Lib.hid bX2
          have HYV := Lib.hid hvx
          clear hE2 hKF bX2 hvx hv15 hrc q0 q1 q2
          rw [hy]
          gi_wp2_with fail
          refine ⟨trivial, (CallsIn.inRound lr2 (CallsIn.inRound lr (callsIn_wide.2 (HCODE.out _)))).mono ?_⟩
          rintro e w6 ⟨rfl, m, rfl⟩
          have td := Touch.eq_drewN (S := fun _ => False) W' m
          have hE3 := HE2.out.touch td
          have BX3 := Lib.hid (box_far BX2.out td id)
          have c11' := (box_far HF.out.2.2.2.2.2.2.2.1 hE3.t (by omega)).cell
          have HE3 := Lib.hid hE3
          have hlf := foldQ_len (rowv (vLit z0) (vOff z0 h) (vMore z0) ii) (foldP (vLit z0) (vOff z0 h) (vMore z0) pre) pre'
          have hlp := foldP_len (vLit z0) (vOff z0 h) (vMore z0) pre
          have hl9 : (foldQ (rowv (vLit z0) (vOff z0 h) (vMore z0) ii) (foldP (vLit z0) (vOff z0 h) (vMore z0) pre) pre').length ≤ 900000 := by omega
          rw [hii] at hE3
          have HPUT := Lib.hid (put_walk Bw (codeX vx : Nat) (codeN vx : Nat) _ v2 _ hE3.wr hl9)
          clear hE3 hlf hlp hl9 c11 c12 c1 td
          gi_wp2_with fail
          refine ⟨trivial, (CallsIn.inRound lr2 (CallsIn.inRound lr (callsIn_wide.2 HPUT.out))).mono ?_⟩
          rintro e w7 ⟨rfl, v7, hw7, t7, f7⟩
          gi_wp2_with fail
          have hE2 := HE2.out
          have t67 := (Touch.eq_drewN (S := Foot Bw v2) W' m).trans t7
          have hko := keeps_touch t67 (fun k o h1 h2 => foot_cells hE2.wr h1 h2)
          have h3 := HE3.out.put hw7 t7 f7
          rw [← hii, show putL (↑(codeX vx)) (↑(codeN vx)) (foldQ (rowv (vLit z0) (vOff z0 h) (vMore z0) x.1) (foldP (vLit z0) (vOff z0 h) (vMore z0) pre) pre') = foldQ (rowv (vLit z0) (vOff z0 h) (vMore z0) x.1) (foldP (vLit z0) (vOff z0 h) (vMore z0) pre) (pre' ++ [y]) from by rw [foldQ_snoc, hii, HYV.out]; rfl, hii] at h3
          have hf8 : ¬ Foot Bw v2 P8 := fun e => by
            rcases e with e | e
            · omega
            · have := hE2.own _ e; omega
          refine ⟨hko.from _, KeepAt.of_touch t67 (fun k hk => ?_), ⟨⟨⟨v7, h3⟩, ?_, ?_⟩, HKF.out.trans (hko.from _)⟩⟩
          · rcases hk with rfl | rfl
            · exact ⟨bS2.lt, foot_box hE2.wr bS2 (by decide) (by decide)⟩
            · exact ⟨Nat.lt_of_lt_of_le (hlow k o5).1 hE2.t.size, hf8⟩
          · exact box_far BX3.out t7 (foot_box HE3.out.wr BX3.out (by decide) (by decide))
          · exact box_far bS2 t67 (foot_box hE2.wr bS2 (by decide) (by decide))
        case done2 =>
          rintro ys W' rfl ⟨⟨⟨v2, hE2⟩, bX2, bS2⟩, hKF⟩
          rw [foldQ_all, ← foldP_snoc] at hE2
          gi_wp2
          refine ⟨hKF, ?_, ⟨v2, hE2⟩⟩
          exact HE.out.keep hE2 (fun k hk => by
            rcases hk with rfl | ⟨_, rfl⟩
            · exact ⟨by omega, by omega⟩
            · exact ⟨by omega, by omega⟩)
      case done =>
        rintro D ys W hD rfl ⟨v, hE⟩ hK
        rw [foldP_all] at hE
        obtain ⟨o1, o2, o3, o4, o5, o6, o7, o8, o9⟩ := HO.out
        obtain ⟨n1, n2, n3⟩ := HORD.out
        have hx72 := extL_len (vLit z0) (vOff z0 h) (vMore z0) l0 l0
        have hEl : (extL (vLit z0) (vOff z0 h) (vMore z0) l0 l0).length ≤ 1000000 := by omega
        have hK6 : (extL (vLit z0) (vOff z0 h) (vMore z0) l0 l0).length / 8 + 1 ≤ 60000 := by omega
        have hre := HRE.out
        unfold extB at hre
        obtain ⟨E, hEE⟩ : ∃ E, extL (vLit z0) (vOff z0 h) (vMore z0) l0 l0 = E := ⟨_, rfl⟩
        rw [hEE] at hE hEl hK6 hre
        have td := (Touch.refl (fun _ => False) W).drew
        have hAc := (HAW.out.past hE.t (.inr o8) HPI.out.wr.cell (by decide)).touch td
        have hAr := (HF.out.2.2.2.2.1.touch hE.t (by omega)).touch td id
        have hBr := (HF.out.2.2.2.2.2.1.touch hE.t (by omega)).touch td id
        have BB11 := Lib.hid (box_far (box_far HF.out.2.2.2.2.2.2.2.1 hE.t (by omega)) td id)
        have c11 := BB11.out.cell
        obtain ⟨q0, q1, q2⟩ := hAr.cells
        have HWR := Lib.hid (hE.wr.touch td id (fun _ _ => id))
        have HKD := Lib.hid (td.heap hK id)
        have HAC := Lib.hid hAc
        have HAR := Lib.hid hAr
        have HBR := Lib.hid hBr
        obtain ⟨K, hKK⟩ : ∃ K, E.length / 8 + 1 = K := ⟨_, rfl⟩
        have hKl : (bytesL E).length = K := by rw [bytesL_len, hKK]
        rw [hKK] at hK6
        rw [hKl] at hre
        have hby := fun w hw => bytes_walk Bw v E w hw hEl
        rw [hKK] at hby
        have HBY := Lib.hid hby
        have HSZD := Lib.hid (fun w a b hb => sized_src a b 0 K (bytesL E) w hb hKl hK6 hre HNE.out)
        have HEN := Lib.hid (fun (w : World) (g : Nat) (hh : w.heap[g]? = some (.cells (tab K (bytesF E)) 5 (0, 0))) => (enc_bytes (by rw [hKK]; exact hh) : BytesAt w (some ⟨g, 0, none⟩) g 0 (bytesL E)))
        clear hE hK hx72 hEl hK6 hre hEE td hAc hAr hBr hKK hKl hby
        have HNA := Lib.hid (show ¬ (w.heap.size = Pb ∨ wd.heap.size ≤ w.heap.size) ∧ ¬ (w.heap.size + 1 = Pb ∨ wd.heap.size ≤ w.heap.size + 1) from ⟨by omega, by omega⟩)
        have HNE1 := Lib.hid (show ¬ (w.heap.size = w.heap.size + 1) from by omega)
        have HNE11 := Lib.hid (show ¬ (P11 = w.heap.size + 1) from by omega)
        gi_wp2_with fail
        go_wp2_with fail
        go_region_held3 (fun wx => wx.cell? ⟨P11, 0, none⟩ = some (.pointer (some ⟨Bw, 0, none⟩)) ∧ wx.cell? ⟨w.heap.size, 0, none⟩ = some (.int .i64 H2.a) ∧ wx.cell? ⟨w.heap.size, 1, none⟩ = some (.int .i64 H2.b) ∧ wx.cell? ⟨w.heap.size, 2, none⟩ = some (.int .i64 H2.c)) (first | exact ⟨c11, q0, q1, q2⟩ | exact ⟨(touch_put3 w10 (w.heap.size + 1) H2).cell p11 HNE11.out, (touch_put3 w10 (w.heap.size + 1) H2).cell p0 HNE1.out, (touch_put3 w10 (w.heap.size + 1) H2).cell p1 HNE1.out, (touch_put3 w10 (w.heap.size + 1) H2).cell p2 HNE1.out⟩ | exact ⟨p11, p0, p1, p2⟩ | exact ⟨o11, o0, o1, o2⟩ | exact ⟨s11, s0, s1, s2⟩) (first
          | (go_at_call 45; refine (HBY.out _ HWR.out).mono ?_; rintro e w8 ⟨rfl, hh8, t8⟩; have hA8 := HAR.out.touch t8 id; obtain ⟨s0, s1, s2⟩ := hA8.cells; have s11 := t8.cell c11 id)
          | (go_at_call 44; refine (HSZD.out _ _ _ (HEN.out _ _ hh8)).mono ?_; rintro e w9 ⟨ra9, rc9, rfl, s9, t9⟩; have HA9 := (HAC.out.touch t8).touch t9; obtain ⟨o0, o1, o2⟩ := (hA8.touch t9 id).cells; have o11 := t9.cell s11 id)
          | (refine step_append_mine rfl (.tmp 76) (.tmp 79) 28 28 rfl 5 j0 (.int .u8 0) 1 1 Try.underlying28 hj hj0 hj1 hj2 rfl u7 (2 + NL + NO + NM) (u8L (two2 l0 ++ RL ++ RO ++ RM)) rfl HA9.row (.slice ra9 NE rc9) NE (u8L RE) rfl s9 HX4'.out.1 HX4'.out.2 ?_; intro a10 c10 w10 hown10 ht10 hf10 _; have HA10 := HA9.app hown10 HNE.out ht10 hf10; obtain ⟨p0, p1, p2⟩ := ((hA8.touch t9 id).touch ht10 (fun e => HNA.out.1 (HA9.own _ e))).cells; have HB10 := ((HBR.out.touch t8 id).touch t9 id).touch ht10 (fun e => HNA.out.2 (HA9.own _ e)); obtain ⟨f0, f1, f2⟩ := HB10.cells; have g0 := HB10.free 0; have g1 := HB10.free 1; have g2 := HB10.free 2; have p11 := (box_far (box_far (box_far BB11.out t8 id) t9 id) ht10 (fun e => own_ne HA9.row (box_far (box_far BB11.out t8 id) t9 id) (by decide) e)).cell))
        all_goals
          have HK9 := t9.heap (t8.heap HKD.out id) id
          have HK10 := Lib.hid (ht10.heap HK9 (fun e => by obtain ⟨cur, hc⟩ := own_at HA9.row e; rw [HK9] at hc; cases hc))
          have HF2 := Lib.hid HA10
          have HB11 := Lib.hid HB10
          clear o0 o1 o2 p0 p1 p2 q0 q1 q2 f0 f1 f2 g0 g1 g2 s0 s1 s2 s11 o11 p11 c11 HA9 HA10 HB10 s9 t9 hown10 ht10 hf10 HK9 hA8 t8 hh8 hstp
          go_wp2_with fail
          have ha := HB11.out.put H2
          have tp := touch_put3 w10 (w.heap.size + 1) H2
          have hD1 : D ≠ w.heap.size + 1 := by have := HO.out; omega
          have hkz := tp.heap HK10.out hD1
          have hp := grownBy_putObj' (put3 w10 (w.heap.size + 1) H2) D (.deferred none)
          have hpt : Touch (fun k => k = D) (put3 w10 (w.heap.size + 1) H2) ((put3 w10 (w.heap.size + 1) H2).putObj D (.deferred none)) := (row_touch hp).mono (fun k _ e => by cases e; rfl)
          have haz := ha.touch hpt (Ne.symm hD1)
          have hHO := HO.out
          have hHR := HORD.out
          have htz := ((HKt.out.then HF2.out.bl (fun i hi e => by omega)).then tp (fun i hi e => by omega)).then hpt (fun i hi e => by omega)
          refine ⟨by simp, .inl ⟨_, _, rfl, run_takeDeferred hkz, ?_⟩⟩
          refine ⟨_, results_cell3 rfl _ _ _ _ _ rfl (Arr.load (h := H2) (b := w.heap.size + 1) haz), ?_⟩
          rw [← HQ.out]
          have hrow3 := tp.row HF2.out.row (fun q hq e => by have := HF2.out.own q hq; omega)
          have hfin : PackYes z0 h l0 w ((put3 w10 (w.heap.size + 1) H2).putObj D (.deferred none)) (.slice a10 (2 + NL + NO + NM + NE) c10) := by
            refine ⟨?_, fun q hq => by have := HF2.out.own q hq; omega⟩
            unfold RowU
            rw [HPB.out, HF2.out.len]
            exact hpt.row hrow3 (fun q hq e => by obtain ⟨cur, hc⟩ := own_at hrow3 hq; rw [e, hkz] at hc; cases hc)
          have := pack_yes HY.out htz hfin
          rw [HH2.out] at this
          exact this
end Go.Proofs.Ythnhacbagmhfoaa

/- seqs: Pack of all steps; the laws SeqsPacks and SeqsOdd. -/
namespace Go.Proofs.Ythnhacbagmhfoaa
open Go.RowKit Go.WideShapes Go.Shelf Fs
set_option linter.unusedVariables false
set_option linter.unusedSimpArgs false
set_option maxRecDepth 100000

theorem pack_walk (w : World) (a0 : Option Addr) (b0 o0 l0 c0 : Nat) (z0 : Nat → Nat → Int) (w0 : RecsIn 3 w a0 b0 o0 l0 c0 z0) (h : H3) (hl : l0 ≤ 100000) :
    Calls Try.prog 20 #[.slice a0 l0 c0, h.val] w (PackPost z0 h l0 w) := by
  cases hp : packOk z0 l0 with
  | false => exact pack_refused w a0 b0 o0 l0 c0 z0 w0 h hl hp
  | true =>
    by_cases hn : l0 = 0
    · subst hn; exact pack_zero w a0 c0 z0 h
    · exact pack_full w a0 b0 o0 l0 c0 z0 w0 h (Nat.pos_of_ne_zero hn) hp

/-- What Pack gives: its bytes, and the last three offsets. -/
def packL (z : Nat → Nat → Int) (h : H3) (n : Nat) : List Nat := if packOk z n = true then packB z h n else []
def packH (z : Nat → Nat → Int) (h : H3) (n : Nat) : H3 := if packOk z n = true then histO (fun i => z i 1) h n else h
theorem pack_out {z : Nat → Nat → Int} {h : H3} {n : Nat} {w w' : World} {e : Ending} (hp : PackPost z h n w e w') :
    ∃ a b c, e = .returned (.tuple #[.slice a (packL z h n).length c, (packH z h n).val, .bool (packOk z n)]) ∧ BytesAt w' a b 0 (packL z h n) ∧ (0 < (packL z h n).length → w.heap.size ≤ b) ∧ Touch (fun _ => False) w w' := by
  obtain ⟨ht, hno, hyes⟩ := hp
  unfold packL packH
  cases hk : packOk z n with
  | false =>
    refine ⟨none, 0, 0, ?_, ⟨fun hh => ?_, fun i hi => ?_⟩, fun hh => ?_, ht⟩
    · rw [hno hk]; simp
    · simp at hh
    · simp at hi
    · simp at hh
  | true =>
    obtain ⟨r, he, hy⟩ := hyes hk
    obtain ⟨a, b, c, rfl, hb⟩ := hy.row.bytes
    refine ⟨a, b, c, by rw [he]; simp, by simpa using hb, fun hh => ?_, ht⟩
    have ho := hy.own
    have hh2 : 0 < (packB z h n).length := by simpa using hh
    rw [hb.at_ hh2] at ho
    exact ho b rfl
def strL (l : List Nat) : ByteArray := strOfNums (l.map fun (x : Nat) => (x : Int))
theorem conv_list {w : World} {a : Option Addr} {b off n : Nat} {l : List Nat} (h : BytesAt w a b off l) (c : Nat) (hn : l.length = n) : (convert 28 9 (.slice a n c)).run Try.prog w = .ok (.string (strL l)) w := by
  subst hn
  by_cases h0 : l.length = 0
  · have hl : l = [] := List.length_eq_zero_iff.1 h0
    subst hl
    rw [List.length_nil, run_convert_bytes_string w 28 9 5 _ 0 c Try.underlying28 Try.underlying5 Try.underlying9]
    cases a <;> simp [Conv.bytesToString, loadCells]
    all_goals rfl
  · obtain rfl := h.at_ (by omega)
    exact run_convert_bytes_arg w 28 5 Try.underlying28 Try.underlying5 b off l.length c _ (by simp) (fun i hi => by
      rw [h.cell i hi]; simp [hi]) 9 Try.underlying9
theorem arr_new (w : World) (h : H3) : Arr (w.alloc (.cells #[.int .i64 h.a, .int .i64 h.b, .int .i64 h.c] 31)) w.heap.size h := heap_alloc_new _ _

set_option maxHeartbeats 4000000 in
theorem SeqsPacks_in (w : World) (a0 : Option Addr) (b0 o0 l0 c0 : Nat) (z0 : Nat → Nat → Int) (w0 : RecsIn 3 w a0 b0 o0 l0 c0 z0) (h : H3) (hl : l0 ≤ 200) :
    Calls Try.prog 9 #[.slice a0 l0 c0, h.val] w fun e w' => e = .returned (.bool true) ∧ Below w.heap.size w w' := by
  have hd2 : decide ((200 : Int) < (l0 : Int)) = false := decide_eq_false (by omega)
  have HP := Lib.hid (fun w w0 => pack_walk w a0 b0 o0 l0 c0 z0 w0 h (Nat.le_trans hl (by decide)))
  have HR := Lib.hid (fun w w0 => rpack_walk w a0 b0 o0 l0 c0 z0 w0 h (Nat.le_trans hl (by decide)))
  have W0 := Lib.hid w0
  have HA := Lib.hid (arr_new w h)
  have TT := Lib.hid (Touch.new w (.cells #[.int .i64 h.a, .int .i64 h.b, .int .i64 h.c] 31))
  clear w0
  unfold H3.val arr3 at HP HR ⊢
  go_enter Try.func9, Try.ntmps9
  go_wp2_with fail
  refine (HP.out _ (recs_touch W0.out TT.out)).mono ?_
  intro e w1 hp
  obtain ⟨a, b, c, rfl, hb, hbo, ht⟩ := pack_out hp
  obtain ⟨H2, hH2⟩ : ∃ H2, packH z0 h l0 = H2 := ⟨_, rfl⟩
  obtain ⟨L, hL⟩ : ∃ L, packL z0 h l0 = L := ⟨_, rfl⟩
  obtain ⟨K, hK⟩ : ∃ K, packOk z0 l0 = K := ⟨_, rfl⟩
  rw [hH2, hL, hK]
  rw [hL] at hb
  have HH2 := Lib.hid hH2
  have HL := Lib.hid hL
  have HK := Lib.hid hK
  have HB := Lib.hid hb
  have T1 := Lib.hid (TT.out.trans ht)
  have t2 := Touch.new w1 (.cells #[.int .i64 H2.a, .int .i64 H2.b, .int .i64 H2.c] 31)
  obtain ⟨q0, q1, q2⟩ := ((HA.out.touch ht id).touch t2 id).cells
  have A1 := Lib.hid (arr_new w1 H2)
  clear hp ht hbo hb t2
  unfold H3.val arr3
  go_wp2_with fail
  refine (HR.out _ (recs_touch W0.out (T1.out.trans (Touch.new w1 _)))).mono ?_
  intro e w2 hp
  obtain ⟨a2, b2, c2, rfl, hb2, hbo2, ht2⟩ := pack_out hp
  rw [HH2.out, HL.out, HK.out]
  rw [HL.out] at hb2
  have tn := Touch.new w1 (.cells #[.int .i64 H2.a, .int .i64 H2.b, .int .i64 H2.c] 31)
  have t3 := Touch.new w2 (.cells #[.int .i64 H2.a, .int .i64 H2.b, .int .i64 H2.c] 31)
  obtain ⟨p0, p1, p2⟩ := ((A1.out.touch ht2 id).touch t3 id).cells
  obtain ⟨r0, r1, r2⟩ := (arr_new w2 H2).cells
  have hc1 := conv_list (((HB.out.touch tn).touch ht2).touch t3) c rfl
  have hc2 := conv_list (hb2.touch t3) c2 rfl
  have heq := fun w => eq31 H2.a H2.b H2.c H2.a H2.b H2.c w
  have T3 := Lib.hid (((T1.out.trans tn).trans ht2).trans t3)
  obtain ⟨LN, hLN⟩ : ∃ n, L.length = n := ⟨_, rfl⟩
  rw [hLN] at hc1 hc2 ⊢
  clear hp ht2 hbo2 hb2 tn t3 q0 q1 q2
  unfold H3.val arr3
  go_wp2_with fail
  refine (known_walk _).mono ?_
  rintro e w4 ⟨rfl, t4⟩
  have T4 := Lib.hid (T3.out.trans t4)
  clear t4
  go_wp2_with fail
  go_ret
  exact ⟨rfl, T4.out.owned⟩
theorem SeqsPacks_law (w : World) (a0 : Option Addr) (b0 o0 l0 c0 : Nat) (z0 : Nat → Nat → Int) (w0 : RecsIn 3 w a0 b0 o0 l0 c0 z0) (x1 y1 z1 : Int) (wx1 : (Lit.int .i64 x1).wf = true) (wy1 : (Lit.int .i64 y1).wf = true) (wz1 : (Lit.int .i64 z1).wf = true) :
    Calls Try.prog 9 #[.slice a0 l0 c0, .agg #[.int .i64 x1, .int .i64 y1, .int .i64 z1]] w fun e w' => e = .returned (.bool true) ∧ Below w.heap.size w w' := by
  clear wx1 wy1 wz1
  by_cases h1 : 200 < l0
  · have hd2 : decide ((200 : Int) < (l0 : Int)) = true := decide_eq_true (by omega)
    go_enter Try.func9, Try.ntmps9
    go_wp2_with fail
    go_ret
    exact ⟨rfl, (Touch.new _ _).owned⟩
  exact SeqsPacks_in w a0 b0 o0 l0 c0 z0 w0 ⟨x1, y1, z1⟩ (by omega)
end Go.Proofs.Ythnhacbagmhfoaa

/- seqs: the law SeqsOdd. -/
namespace Go.Proofs.Ythnhacbagmhfoaa
open Go.RowKit Go.WideShapes Go.Shelf Fs
set_option linter.unusedVariables false
set_option linter.unusedSimpArgs false
set_option maxRecDepth 100000

theorem packMany_walk (w : World) (a0 : Option Addr) (l0 c0 : Nat) (h : H3) (hl : l0 ≤ 100000) (h5 : ¬ l0 ≤ 500) :
    Calls Try.prog 20 #[.slice a0 l0 c0, h.val] w fun e w' => e = .returned (.tuple #[.slice none 0 0, h.val, .bool false]) ∧ Touch (fun _ => False) w w' := by
  have hd5 : decide ((500 : Int) < l0) = true := decide_eq_true (by omega)
  have hB2 : Arr ((w.alloc (.cells #[.int .i64 h.a, .int .i64 h.b, .int .i64 h.c] 31)).alloc (.cells #[.int .i64 h.a, .int .i64 h.b, .int .i64 h.c] 31)) (w.heap.size + 1) h := heap_alloc_2 _ _ _
  have T1 := Lib.hid (((Touch.refl (fun _ => False) w).alloc (.cells #[.int .i64 h.a, .int .i64 h.b, .int .i64 h.c] 31)).alloc (.cells #[.int .i64 h.a, .int .i64 h.b, .int .i64 h.c] 31))
  have HB1 := Lib.hid hB2
  clear hB2
  unfold H3.val arr3
  go_enter Try.func20, Try.ntmps20
  go_wp2_with fail
  go_region
  all_goals
    go_wp2_with fail
    refine bodyPost_ret (results_cell3 rfl _ _ _ _ _ rfl (Arr.load (h := h) (b := w.heap.size + 1) HB1.out)) rfl ?_
    exact ⟨rfl, T1.out.drew⟩

/-- The seven steps' numbers. -/
def oddL : List Int := [3, 2, 9, -1, 2, 9, 501, 2, 9, 3, 0, 9, 3, 2501, 9, 3, 2, 3, 3, 2, 501]
def oddA : Array Value := (oddL.map fun x => Value.int .i64 x).toArray
def oddZ (k : Nat) (i j : Nat) : Int := if i = 0 ∧ j < 3 then oddL.getD (k * 3 + j) 0 else 0
theorem odd_get (m : Nat) (hm : m < 21) : oddA[m]? = some (.int .i64 (oddL.getD m 0)) := by
  have h : m < oddL.length := hm
  simp [oddA, h]
theorem odd_bd (m : Nat) : -1 ≤ oddL.getD m 0 ∧ oddL.getD m 0 ≤ 2501 := by
  by_cases hm : m < 21
  · have : ∀ m : Fin 21, -1 ≤ oddL.getD m.1 0 ∧ oddL.getD m.1 0 ≤ 2501 := by decide
    exact this ⟨m, hm⟩
  · rw [List.getD_eq_getElem?_getD, List.getElem?_eq_none (by show 21 ≤ m; omega)]; decide
theorem odd_recs {w : World} {g k : Nat} (hk : k < 7) (h : w.heap[g]? = some (.cells oddA 42 (0, 0))) : RecsIn 3 w (some ⟨g, k * 3, none⟩) g (k * 3) 1 (7 - k) (oddZ k) := by
  refine ⟨fun _ => rfl, fun _ => lt_of_block h, by omega, by unfold maxLen; omega, fun i hi j hj => ?_, fun i j => ?_⟩
  · obtain rfl : i = 0 := by omega
    have := odd_get (k * 3 + j) (by omega)
    simp only [World.cell?, h]
    simp [oddZ, hj, this]
  · unfold oddZ
    split
    · have := odd_bd (k * 3 + j)
      simp only [Lit.wf, Bool.and_eq_true, decide_eq_true_eq]
      exact ⟨Int.le_trans (by decide) this.1, Int.le_trans this.2 (by decide)⟩
    · decide
theorem odd_ok (k : Nat) (hk : k < 7) : packOk (oddZ k) 1 = (k == 0) := by
  have : ∀ k : Fin 7, packOk (oddZ k.1) 1 = (k.1 == 0) := by decide
  exact this ⟨k, hk⟩
theorem Try.info42c : (Try.prog.info? 42).map (fun i => (i.zero, i.size, i.bytes)) = some (some (.agg #[.int .i64 0, .int .i64 0, .int .i64 0]), 3, 24) := by kernel_rfl
theorem make_recs501 (w : World) : (Instr.makeSlice 29 (.int .i64 501) (.int .i64 501)).run Try.prog w = .ok (.slice (some ⟨w.heap.size, 0, none⟩) 501 501) (w.alloc (.cells (madeCells #[.int .i64 0, .int .i64 0, .int .i64 0] 1503) 42)) := by
  obtain ⟨i0, hi, hz0, hz1, hz2⟩ := info_parts Try.info42c
  have := run_make (P := Try.prog) w 29 42 i0 (.agg #[.int .i64 0, .int .i64 0, .int .i64 0]) Try.underlying29 hi hz0 .i64 .i64 501 501 (by omega) (by decide) (by rw [hz2]; omega) (by omega)
  rw [hz1] at this
  simpa [Value.cells] using this
theorem SeqsOdd_in (w : World) (k : Nat) (hk : k < 7) :
    Calls Try.prog 10 #[.int .i64 k] w fun e w' => e = .returned (.bool true) ∧ Below w.heap.size w w' := by
  have hd0 : decide ((k : Int) < 0) = false := decide_eq_false (by omega)
  have hd7 : decide ((7 : Int) ≤ (k : Int)) = false := decide_eq_false (by omega)
  have fu1 := wrap_suc k (by omega)
  go_enter Try.func10, Try.ntmps10
  go_wp2_with fail
  have hh := heap_alloc_new w (.cells oddA 42)
  have tn := Touch.new w (.cells oddA 42)
  have hok := odd_ok k hk
  have hp := pack_walk _ _ _ _ _ _ _ (odd_recs hk hh) ⟨7, 8, 9⟩ (by decide)
  unfold H3.val arr3 at hp
  refine hp.mono ?_
  intro e w1 hpp
  obtain ⟨a, b, c, rfl, hb, hbo, ht⟩ := pack_out hpp
  have hcase : (k = 0 ∧ packOk (oddZ k) 1 = true) ∨ (k ≠ 0 ∧ packOk (oddZ k) 1 = false ∧ packH (oddZ k) ⟨7, 8, 9⟩ 1 = ⟨7, 8, 9⟩ ∧ (packL (oddZ k) ⟨7, 8, 9⟩ 1).length = 0) := by
    by_cases e : k = 0
    · exact .inl ⟨e, by rw [hok, e]; rfl⟩
    · have hf : packOk (oddZ k) 1 = false := by rw [hok]; simpa using e
      exact .inr ⟨e, hf, by unfold packH; rw [hf]; rfl, by unfold packL; rw [hf]; rfl⟩
  have T1 := Lib.hid (tn.trans ht)
  have hmk := fun w => make_recs501 w
  have heq := fun x y z w => eq31 x y z 7 8 9 w
  obtain ⟨H2, hH2⟩ : ∃ H2, packH (oddZ k) ⟨7, 8, 9⟩ 1 = H2 := ⟨_, rfl⟩
  obtain ⟨NL, hNL⟩ : ∃ n, (packL (oddZ k) ⟨7, 8, 9⟩ 1).length = n := ⟨_, rfl⟩
  obtain ⟨K, hK⟩ : ∃ K, packOk (oddZ k) 1 = K := ⟨_, rfl⟩
  rw [hH2, hNL, hK] at hcase
  rw [hH2, hNL, hK]
  have HC := Lib.hid hcase
  have HA := Lib.hid (arr_new w1 H2)
  clear hpp hp hok ht tn hh hbo hb hcase hH2 hNL hK
  unfold H3.val arr3
  go_wp2_with fail
  have hm := fun w a => packMany_walk w a 501 501 ⟨0, 0, 0⟩ (by decide) (by decide)
  unfold H3.val arr3 at hm
  refine (hm _ _).mono ?_
  rintro e w2 ⟨rfl, t2⟩
  have tn2 := Touch.new (w1.alloc (.cells #[.int .i64 H2.a, .int .i64 H2.b, .int .i64 H2.c] 31)) (.cells (madeCells #[.int .i64 0, .int .i64 0, .int .i64 0] 1503) 42)
  have tn1 := Touch.new w1 (.cells #[.int .i64 H2.a, .int .i64 H2.b, .int .i64 H2.c] 31)
  have tn3 := Touch.new w2 (.cells #[.int .i64 0, .int .i64 0, .int .i64 0] 31)
  obtain ⟨q0, q1, q2⟩ := ((HA.out.touch (tn2.trans t2) id).touch tn3 id).cells
  have T3 := Lib.hid ((((T1.out.trans tn1).trans tn2).trans t2).trans tn3)
  clear tn1 tn2 tn3 t2 hm hmk
  rcases HC.out with ⟨rfl, rfl⟩ | ⟨hk0, rfl, rfl, rfl⟩
  · go_wp2_with fail
    refine (known_walk _).mono ?_
    rintro e w4 ⟨rfl, t4⟩
    have T4 := Lib.hid (T3.out.trans t4)
    clear t4
    go_wp2_with fail
    go_ret
    exact ⟨rfl, T4.out.owned⟩
  · have hk1 : ((k : Int) == 0) = false := by simpa using hk0
    go_wp2_with fail
    refine (known_walk _).mono ?_
    rintro e w4 ⟨rfl, t4⟩
    have T4 := Lib.hid (T3.out.trans t4)
    clear t4
    go_wp2_with fail
    go_ret
    exact ⟨rfl, T4.out.owned⟩
theorem SeqsOdd_law (w : World) (a0 : Int) (w0 : (Lit.int .i64 a0).wf = true) :
    Calls Try.prog 10 #[.int .i64 a0] w fun e w' => e = .returned (.bool true) ∧ Below w.heap.size w w' := by
  clear w0
  by_cases h : 0 ≤ a0 ∧ a0 < 7
  · obtain ⟨k, rfl⟩ : ∃ k : Nat, a0 = k := ⟨a0.toNat, by omega⟩
    exact SeqsOdd_in w k (by omega)
  by_cases h0 : a0 < 0
  · go_enter Try.func10, Try.ntmps10
    go_wp2_with fail
    go_ret
    exact ⟨rfl, (Touch.new _ _).owned⟩
  · have h7 : decide ((7 : Int) ≤ a0) = true := decide_eq_true (by omega)
    have h0' : decide (a0 < 0) = false := decide_eq_false h0
    go_enter Try.func10, Try.ntmps10
    go_wp2_with fail
    go_ret
    exact ⟨rfl, (Touch.new _ _).owned⟩
end Go.Proofs.Ythnhacbagmhfoaa
