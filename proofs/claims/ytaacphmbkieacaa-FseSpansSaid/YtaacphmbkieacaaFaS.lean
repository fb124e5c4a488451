/- fse: Encode. -/
import Derived.Test.YtaacphmbkieacaaFaR
namespace Go.Proofs.Ytaacphmbkieacaa
open Go.RowKit Go.WideShapes Go.Shelf Fs
set_option linter.unusedVariables false
set_option linter.unusedSimpArgs false
set_option maxRecDepth 100000
attribute [local go_sem] Oper.semAt_some

theorem wide_in {F : Fence} {n : Nat} {P : Program} {f : FuncId} {args : Array Value} {w : World} {R : Ending → World → Prop} (hF : F = Fence.wide) (h : Calls P f args w R) : CallsIn F n P f args w R := by
  subst hF; exact callsIn_wide.2 h
theorem results_two {fn : Func} {s a : Tmp} {t t' : TypeId} (h : fn.results = #[.cell s t', .cell a t]) (tmps : Array Value) (P : Program) (w : World) (p q : Addr) (u v : Value) (hp : tmps.getD a undef = .pointer (some p)) (hq : tmps.getD s undef = .pointer (some q)) (hl : (loadVar t p).run P w = .ok v w) (hl' : (loadVar t' q).run P w = .ok u w) :
    (results fn tmps).run P w = .ok (.tuple #[u, v]) w := by
  have hp' : tmps[a]?.getD undef = .pointer (some p) := by simpa using hp
  have hq' : tmps[s]?.getD undef = .pointer (some q) := by simpa using hq
  simp [results, h, hp', hq', asAddr, hl, hl']
theorem load4 {w : World} {g : Nat} {x : Value} (h : w.cell? ⟨g, 0, none⟩ = some x) : (loadVar 4 ⟨g, 0, none⟩).run Try.prog w = .ok x w := by
  have z4 := Try.sizeOf4
  have a4 := Try.isAgg4
  have u4 := Try.underlying4
  go_simp
theorem load37 {w : World} {g : Nat} {x : Value} (h : w.cell? ⟨g, 0, none⟩ = some x) : (loadVar 37 ⟨g, 0, none⟩).run Try.prog w = .ok x w := by
  have z4 := Try.sizeOf37
  have a4 := Try.isAgg37
  have u4 := Try.underlying37
  go_simp

theorem enc_no (a a2 : Option Addr) (b off n c ns cs : Nat) (z : Nat → Int) (log : Int) (w : World) (h : Ints .i64 w a b off n z) (hn : n ≤ 100000) (hno : isOk z n log = false) :
    Calls Try.prog 24 #[.slice a n c, .int .i64 log, .slice a2 ns cs] w fun e w' => e = .returned (.tuple #[.slice none 0 0, .bool false]) ∧ Touch (fun _ => False) w w' := by
  have T0 := Lib.hid ((Touch.new w (.cells #[.slice none 0 0] 37)).alloc (.cells #[.bool false] 4))
  have H := Lib.hid (h.touch T0.out)
  have HN := Lib.hid hno
  have b6 := Lib.hid ((Boxed.new w 37 (.slice none 0 0)).alloc (.cells #[.bool false] 4))
  have b7 := Boxed.new (w.alloc (.cells #[.slice none 0 0] 37)) 4 (.bool false)
  rw [World.size_alloc] at b7
  have b7 := Lib.hid b7
  clear h hno
  go_enter Try.func24, Try.ntmps24
  go_wp2_with fail
  refine (table_no a b off n c z log _ H.out hn HN.out).mono ?_
  rintro e w1 ⟨rfl, t1⟩
  have T1 := Lib.hid (T0.out.trans t1)
  have c6 := ((box_far b6.out t1 id).alloc (.cells #[.slice none 0 0] 29)).cell
  have f6 := ((box_far b6.out t1 id).alloc (.cells #[.slice none 0 0] 29)).frozen
  have c7 := ((box_far b7.out t1 id).alloc (.cells #[.slice none 0 0] 29)).cell
  have f7 := ((box_far b7.out t1 id).alloc (.cells #[.slice none 0 0] 29)).frozen
  have C6 := Lib.hid ((((box_far b6.out t1 id).alloc (.cells #[.slice none 0 0] 29)).set (.slice none 0 0)).other (B' := w.heap.size + 1) (by omega) (.bool false))
  have C7 := Lib.hid ((((box_far b7.out t1 id).alloc (.cells #[.slice none 0 0] 29)).other (B' := w.heap.size) (by omega) (.slice none 0 0)).set (.bool false))
  clear t1
  go_wp2_with fail
  refine bodyPost_ret (results_two rfl _ _ _ _ _ _ _ rfl rfl (load4 C7.out.cell) (load37 C6.out.cell)) rfl ?_
  exact ⟨rfl, ((T1.out.alloc _).setCell (fun h => absurd h (Nat.lt_irrefl _)) _).setCell (fun h => absurd h (by simp)) _⟩

def noDefer (ops : Array Oper) : Bool := ops.all fun o => match o.op with | .defer _ => false | _ => true
theorem noDefer_spec {ops : Array Oper} (h : noDefer ops = true) (j : Nat) (o : Oper) (c : Call) (hj : ops[j]? = some o) : o.op ≠ .defer c := by
  intro e
  have h1 := Array.all_eq_true.1 h
  obtain ⟨hlt, rfl⟩ := Array.getElem?_eq_some_iff.1 hj
  have := h1 j hlt
  rw [e] at this
  cases this

/-- A loop over pairs the second of which is boxed. -/
theorem range_two {F : Fence} {n : Nat} {P : Program} {g : Operand} {assign body : Code} {Q : Exit → Act → World → Prop} {tm : Array Value} {ds : List Deferred} {w : World} (hro : F.round = none) (h1 : 1 ≤ n) {gf : Nat} {lb : Array Value} (hg : ({ tmps := tm, defers := ds } : Act).eval g = .func (.func gf) #[] lb) (hFg : F.fn gf) (eg : ∀ args w, (callFunc gf args).run P w = .ok (.enter gf args) w)
    {Kp : World → World → Prop} {S Sp : List (Int × Int) → Prop} {N : Nat} {w0 : World} (hseq : SeqStopsK F (n - 1) P gf lb (fun x : Int × Int => #[Value.int .i64 x.1, Value.int .i64 x.2]) Kp S Sp N w0)
    (hKt : ∀ {A B C : World}, Kp A B → Kp B C → Kp A C) (hKb : ∀ (W : World) (l : Nat) (o o' : Obj), w.heap.size ≤ l → W.heap[l]? = some o → o.isCells = false → o.isWalk = false → Kp W (W.putObj l o')) (hb0 : Below w0.heap.size w0 w)
    (I : List (Int × Int) → World → Prop) (Ix : Code → List (Int × Int) → World → Prop) (hI : OwnFrom w.heap.size I) (hIx : ∀ c, OwnFrom w.heap.size (Ix c)) (h0 : I [] w)
    (hassign : ∀ (l : Nat) (pre : List (Int × Int)) (x : Int × Int) (W : World) (K : Act → World → Prop), I pre W → (∀ Bx W', KeepsFrom w.heap.size W W' → Kp W W' → I pre W' → Boxed W' Bx 3 (.int .i64 x.2) → K { tmps := ((tm.setIfInBounds 26 (.int .i64 x.1)).setIfInBounds 27 (.int .i64 x.2)).setIfInBounds 13 (.pointer (some ⟨Bx, 0, none⟩)), defers := [] } W') →
      assign.wpIn (F.inRound l) (n - 1 - 1) P (Exit.then K (fun _ _ _ => False)) { tmps := (Array.zip #[26, 27] #[Value.int .i64 x.1, Value.int .i64 x.2]).foldl (fun t (p, v) => t.setIfInBounds p v) tm, defers := [] } W)
    (hbody : ∀ (l : Nat) (pre : List (Int × Int)) (x : Int × Int) (Bx : Nat) (W : World), I pre W → Boxed W Bx 3 (.int .i64 x.2) → pre.length < N → body.wpIn (F.inRound l) (n - 1 - 1) P (ownPostG w.heap.size Kp I Ix (pre ++ [x]) W) { tmps := ((tm.setIfInBounds 26 (.int .i64 x.1)).setIfInBounds 27 (.int .i64 x.2)).setIfInBounds 13 (.pointer (some ⟨Bx, 0, none⟩)), defers := [] } W)
    (hdone : ∀ (D : Nat) (xs : List (Int × Int)) (W : World), w.heap.size ≤ D → S xs → I xs W → W.heap[D]? = some (.deferred (some [])) → Q .normal { tmps := tm, defers := { target := .collected D, args := #[] } :: ds } W)
    (hstop : ∀ (D : Nat) (c : Code) (pre : List (Int × Int)) (W : World), w.heap.size ≤ D → Sp pre → Ix c pre W → W.heap[D]? = some (.deferred (some [])) → c.wpIn F n P Q { tmps := tm, defers := { target := .collected D, args := #[] } :: ds } W) :
    (Code.rangeFunc g #[26, 27] assign body).wpIn F n P Q { tmps := tm, defers := ds } w :=
  wpIn_rangeFunc_ownH hro h1 hg hFg eg hseq hKt hKb hb0 (fun _ => rfl) I Ix hI hIx h0
    (fun x a' W => ∃ Bx, Boxed W Bx 3 (.int .i64 x.2) ∧ a' = { tmps := ((tm.setIfInBounds 26 (.int .i64 x.1)).setIfInBounds 27 (.int .i64 x.2)).setIfInBounds 13 (.pointer (some ⟨Bx, 0, none⟩)), defers := [] })
    (fun x a' _ X Y row hs hg hr => by obtain ⟨Bx, e2, e3⟩ := hs; exact ⟨Bx, boxed_own Bx 3 (fun (_ : Unit) => Value.int .i64 x.2) () X Y row e2 hg (fun r e => (hr r e).2), e3⟩)
    (fun l pre x W K hi hK => hassign l pre x W K hi (fun Bx W' a b c d => hK _ W' a b c ⟨Bx, d, rfl⟩))
    (fun l pre x a' W _ _ hi ⟨Bx, hb, e⟩ hlen => by subst e; exact hbody l pre x Bx W hi hb hlen) hdone hstop

set_option maxHeartbeats 4000000 in
theorem enc_in (F : Fence) (hF : F = Fence.wide) (q : Nat) (hq : 6 ≤ q) (h21 : F.fn 21) (h24 : F.fn 24) (h38 : F.fn 38) (h39 : F.fn 39) (h40 : F.fn 40) (h42 : F.fn 42) (h43 : F.fn 43) (h55 : F.fn 55) (hro : F.round = none)
    (a a2 : Option Addr) (b off n c L b2 off2 ns cs : Nat) (z y : Nat → Int) (w : World) (h : Ints .i64 w a b off n z) (hy : Ints .i64 w a2 b2 off2 ns y) (hb2 : 0 < ns → b2 < w.heap.size) (hns : ns ≤ 40000) (hok : isOk z n (L : Int) = true) :
    CallsIn F q Try.prog 24 #[.slice a n c, .int .i64 L, .slice a2 ns cs] w (EncPost w L (encF (2 ^ L) (symU (natM z) n L) (fun u => bitsU L (xU (natM z) (symU (natM z) n L) u)) (fun u => baseU L (xU (natM z) (symU (natM z) n L) u)) (backL y ns ns))) := by
  obtain ⟨h5, h9, hn32, hn0, hzm, hsum⟩ := isOk_nat hok
  have htb := fun w h => table_yes a b off n c L z w h hok
  have T := tabOk_is h5 h9 (natM z) hsum hn32
  obtain ⟨Ba, hBa⟩ : ∃ f, (fun u => baseU L (xU (natM z) (symU (natM z) n L) u)) = f := ⟨_, rfl⟩
  obtain ⟨Bi, hBi⟩ : ∃ f, (fun u => bitsU L (xU (natM z) (symU (natM z) n L) u)) = f := ⟨_, rfl⟩
  obtain ⟨Sy, hSy⟩ : ∃ f, symU (natM z) n L = f := ⟨_, rfl⟩
  rw [hBa, hBi, hSy] at htb T ⊢
  have hN0 : 0 < 2 ^ L := Nat.two_pow_pos L
  obtain ⟨N, hN⟩ : ∃ N : Nat, 2 ^ L = N := ⟨_, rfl⟩
  rw [hN] at htb T hN0 ⊢
  have hN512 := T.size
  obtain ⟨R, hR⟩ : ∃ R, encF N Sy Bi Ba (backL y ns ns) = R := ⟨_, rfl⟩
  rw [hR]
  have HR := Lib.hid hR
  have HT := Lib.hid T
  have HTB := Lib.hid htb
  have T0 := Lib.hid ((Touch.new w (.cells #[.slice none 0 0] 37)).alloc (.cells #[.bool false] 4))
  have H := Lib.hid (h.touch T0.out)
  have HY := Lib.hid hy
  have b6 := Lib.hid ((Boxed.new w 37 (.slice none 0 0)).alloc (.cells #[.bool false] 4))
  have b7 := Boxed.new (w.alloc (.cells #[.slice none 0 0] 37)) 4 (.bool false)
  rw [World.size_alloc] at b7
  have b7 := Lib.hid b7
  have h1 : 1 ≤ q := by omega
  have HF := Lib.hid hF
  clear hBa hBi hSy hN hR T htb h hy hok hzm hsum hF
  refine callsIn_of_wp_marks Try.func24 rfl h24 ?_ hro
  simp only [Try.ntmps24, List.size_toArray, List.length_cons, List.length_nil, Nat.reduceAdd, Nat.reduceSub, Array.replicate_succ, Array.replicate_zero, List.push_toArray, List.append_toArray, List.nil_append, List.cons_append]
  gi_wp2_with (gi_at_call 21; refine (wide_in HF.out (HTB.out _ H.out)).mono ?_; rintro e w1 ⟨g, rfl, hg, htab, t1⟩)
  have B6 := box_far b6.out t1 id
  have B7 := box_far b7.out t1 id
  have B8 := Boxed.new w1 29 (.slice (some ⟨g, 0, none⟩) N N)
  have hs1 : w.heap.size + 2 ≤ w1.heap.size := by have := t1.size; simp at this; omega
  have T1 := (T0.out.trans t1).alloc (.cells #[.slice (some ⟨g, 0, none⟩) N N] 29)
  have HTab := RowAt.touch htab (Touch.new w1 (.cells #[.slice (some ⟨g, 0, none⟩) N N] 29)) id
  clear htab t1
  refine (wide_in HF.out (wnew_walk _)).mono ?_
  rintro e w2 ⟨rfl, hw2, t2, s2⟩
  have hs1' : (w1.alloc (.cells #[.slice (some ⟨g, 0, none⟩) N N] 29)).heap.size = w1.heap.size + 1 := by simp
  rw [hs1'] at hw2 s2 ⊢
  have HB := Lib.hid (show Boxed w2 w.heap.size 37 (.slice none 0 0) ∧ Boxed w2 (w.heap.size + 1) 4 (.bool false) ∧ Boxed w2 w1.heap.size 29 (.slice (some ⟨g, 0, none⟩) N N) ∧ TabAt w2 g N Sy Bi Ba ∧ Wr w2 82 (w1.heap.size + 1) (.slice none 0 0) [] ∧ Touch (fun _ => False) w w2 from
    ⟨box_far (B6.alloc _) t2 id, box_far (B7.alloc _) t2 id, box_far B8 t2 id, RowAt.touch HTab t2 id, hw2, T1.trans t2⟩)
  have S2 := Lib.hid s2
  clear B6 B7 B8 T1 HTab hw2 t2 s2
  gi_wp2_with (gi_at_call 39; refine (back_in F (q - 1) h39 hro _ _ _ _).mono ?_; rintro e w' ⟨rfl, rfl⟩)
  have hsz : (((w2.alloc (.cells #[.pointer (some ⟨w1.heap.size + 1, 0, none⟩)] 51)).alloc (.cells #[.int .i64 0] 3)).alloc (.cells #[.slice a2 ns cs] 22)).heap.size = w2.heap.size + 3 := by simp
  have b10 := ((Boxed.new w2 51 (.pointer (some ⟨w1.heap.size + 1, 0, none⟩))).alloc (.cells #[.int .i64 0] 3)).alloc (.cells #[.slice a2 ns cs] 22)
  have b11 := (Boxed.new (w2.alloc (.cells #[.pointer (some ⟨w1.heap.size + 1, 0, none⟩)] 51)) 3 (.int .i64 0)).alloc (.cells #[.slice a2 ns cs] 22)
  have b12 := Boxed.new ((w2.alloc (.cells #[.pointer (some ⟨w1.heap.size + 1, 0, none⟩)] 51)).alloc (.cells #[.int .i64 0] 3)) 22 (.slice a2 ns cs)
  have t3 := ((Touch.new w2 (.cells #[.pointer (some ⟨w1.heap.size + 1, 0, none⟩)] 51)).alloc (.cells #[.int .i64 0] 3)).alloc (.cells #[.slice a2 ns cs] 22)
  simp only [World.size_alloc] at b11 b12
  obtain ⟨W0, hW0⟩ : ∃ W0, ((w2.alloc (.cells #[.pointer (some ⟨w1.heap.size + 1, 0, none⟩)] 51)).alloc (.cells #[.int .i64 0] 3)).alloc (.cells #[.slice a2 ns cs] 22) = W0 := ⟨_, rfl⟩
  rw [hW0] at hsz b10 b11 b12 t3 ⊢
  try simp only [World.size_alloc]
  obtain ⟨c1, c2, c3, c4, c5, c6⟩ := HB.out
  have HE0 := Lib.hid (show EncI w w.heap.size (w.heap.size + 1) w1.heap.size (w1.heap.size + 1) w2.heap.size (w2.heap.size + 1) (w2.heap.size + 1 + 1) g N (.slice a2 ns cs) Sy Bi Ba [] W0 0 [] (.slice none 0 0) from
    ⟨rfl, box_far c1 t3 id, box_far c2 t3 id, box_far c3 t3 id, b10, b11, b12, c5.touch t3 id (fun _ _ => id), OwnB.nil _, RowAt.touch c4 t3 id, c6.trans t3⟩)
  clear c1 c2 c3 c4 c5 c6 b10 b11 b12 t3 hW0 HB
  obtain ⟨P6, hP6⟩ : ∃ k, w.heap.size = k := ⟨_, rfl⟩
  obtain ⟨P7, hP7⟩ : ∃ k, w.heap.size + 1 = k := ⟨_, rfl⟩
  obtain ⟨P8, hP8⟩ : ∃ k, w1.heap.size = k := ⟨_, rfl⟩
  obtain ⟨B, hBB⟩ : ∃ k, w1.heap.size + 1 = k := ⟨_, rfl⟩
  obtain ⟨P10, hP10⟩ : ∃ k, w2.heap.size = k := ⟨_, rfl⟩
  obtain ⟨P11, hP11⟩ : ∃ k, w2.heap.size + 1 = k := ⟨_, rfl⟩
  obtain ⟨P12, hP12⟩ : ∃ k, w2.heap.size + 1 + 1 = k := ⟨_, rfl⟩
  have hord : Hid (w.heap.size = P6 ∧ P6 < P7 ∧ P7 < P8 ∧ P8 < B ∧ B < P10 ∧ P10 < P11 ∧ P11 < P12 ∧ P12 + 1 = W0.heap.size) := by refine Lib.hid ?_; have := S2.out; omega
  rw [hP12, hP11, hP10, hBB, hP8, hP7, hP6] at HE0
  rw [hP12, hP11, hP10, hBB, hP8, hP7, hP6]
  have o6 : w.heap.size ≤ P6 := by omega
  have oB : w.heap.size ≤ B := by have := hord.out; omega
  have o11 : w.heap.size ≤ P11 := by have := hord.out; omega
  have oW : w.heap.size ≤ W0.heap.size := by have := hord.out; omega
  have HO := Lib.hid (show w.heap.size ≤ P6 ∧ w.heap.size ≤ B ∧ w.heap.size ≤ P11 ∧ w.heap.size ≤ W0.heap.size from ⟨o6, oB, o11, oW⟩)
  clear o6 oB o11 oW hP6 hP7 hP8 hBB hP10 hP11 hP12 hsz hs1 hs1' S2
  refine range_two hro h1 (gf := 55) (lb := #[.pointer (some ⟨P12, 0, none⟩)]) rfl h55 (enters_of Try.func55 (by kernel_rfl) rfl)
    (back_stops F (q - 1) h55 hro (by omega) P12 b2 off2 ns cs y a2 (by omega) W0 HE0.out.b12.lt HE0.out.b12.cell (HY.out.touch HE0.out.touch) (fun h => Nat.lt_of_lt_of_le (hb2 h) HO.out.2.2.2))
    (fun h k => h.trans k) (keepAt_b (fun k hk => hk.elim (fun e => by rw [e]; exact HE0.out.b12.lt) (fun e => by rw [e.2]; exact Nat.lt_of_lt_of_le (hb2 e.1) HO.out.2.2.2))) (Below.refl _ _)
    (EncJ w P6 P7 P8 B P10 P11 P12 g N (.slice a2 ns cs) Sy Bi Ba) (EncX w P6 P7 N Sy Bi Ba) (encJ_own _ _ _ _ _ _ _ _ _ _ _ _ _ _ HO.out.2.2.2) (encX_own _ _ _ _ _ _ _ HO.out.2.2.2) ⟨0, [], _, HE0.out⟩ ?assign ?body ?done ?stop
  case assign =>
    rintro lr pre x W K ⟨t, l, v, hE⟩ hK
    have hk := hK W.heap.size (W.alloc (.cells #[.int .i64 x.2] 3)) ((KeepsOthers.alloc _ _).from _) (KeepAt.of_touch (Touch.new W _) (fun k hk => ⟨hk.elim (fun e => by rw [e]; exact hE.b12.lt) (fun e => by rw [e.2]; exact Nat.lt_of_lt_of_le (hb2 e.1) hE.touch.size), id⟩)) ⟨t, l, v, encI_touch _ _ _ _ _ _ _ _ _ _ _ _ _ _ hE (Touch.new W _)⟩ (Boxed.new W 3 _)
    simp only [List.setIfInBounds_toArray, List.set_cons_zero, List.set_cons_succ] at hk
    have HK := Lib.hid hk
    clear hk hK hE
    gi_wp2
    exact HK.out
  case body =>
    rintro lr pre x Bx W ⟨t, l, v, hE⟩ bX hlen
    simp only [List.setIfInBounds_toArray, List.set_cons_zero, List.set_cons_succ]
    have h1' : 1 ≤ q - 1 - 1 := by omega
    obtain ⟨s, hs⟩ : ∃ s, x.2 = s := ⟨_, rfl⟩
    have hap : (pre ++ [x]).map (·.2) = pre.map (·.2) ++ [s] := by simp [hs]
    have hst : encF N Sy Bi Ba ((pre ++ [x]).map (·.2)) = encS N Sy Bi Ba (some (t, l)) s := by rw [hap, encF_snoc, hE.enc]
    rw [hs] at bX
    rw [hs]
    have HS := Lib.hid hst
    have c8 := hE.b8.cell
    have hlen9 := (encF_bd HT.out _ _ rfl hE.enc hN0).2
    rw [List.length_map] at hlen9
    have hl900 : l.length ≤ 900000 := by omega
    have HE := Lib.hid hE
    have HL := Lib.hid hl900
    clear hs hap hst hE hlen9 hl900
    cases hf : firstU (hit Sy Bi Ba s t) N with
    | none =>
      have hfi := firstI_none hf
      have he := HS.out
      rw [encS_no _ _ _ _ hf] at he
      have HEN := Lib.hid he
      clear hf he
      gi_wp2_with fail
      refine (CallsIn.inRound lr (wide_in HF.out (index41 g N N Sy Bi Ba s t Bx P11 W HT.out HE.out.tab bX.cell HE.out.b11.cell))).mono ?_
      rintro e w2 ⟨rfl, t2⟩
      rw [hfi]
      have B6 := box_far HE.out.b6 t2 id
      have B7 := box_far HE.out.b7 t2 id
      have f6 := B6.frozen
      have k6 := B6.cell
      have B7' := B7.other (B' := P6) (by have := hord.out; omega) (.slice none 0 0)
      have f7 := B7'.frozen
      have k7 := B7'.cell
      have E6 := Lib.hid ((B6.set (.slice none 0 0)).other (B' := P7) (by have := hord.out; omega) (.bool false))
      have E7 := Lib.hid ((B7.other (B' := P6) (by have := hord.out; omega) (.slice none 0 0)).set (.bool false))
      have T2 := Lib.hid t2
      clear B6 B7 B7' t2
      gi_wp2_with fail
      exact ⟨(((keeps_touch T2.out (fun k o h => h.elim)).trans (KeepsOthers.setCell _ ⟨P6, 0, none⟩ _)).trans (KeepsOthers.setCell _ ⟨P7, 0, none⟩ _)).from _, rfl, HEN.out, E6.out, E7.out,
        ((HE.out.touch.trans T2.out).setCell (p := ⟨P6, 0, none⟩) (fun h => absurd h (Nat.not_lt.2 HO.out.1)) _).setCell (p := ⟨P7, 0, none⟩) (fun h => absurd h (by have := HO.out.1; have := hord.out; simp; omega)) _⟩
    | some u =>
      have hfi := firstI_some hf
      have he := HS.out
      rw [encS_yes _ _ _ _ hf] at he
      obtain ⟨xx, hx, hx2, hb9, hu, _⟩ := hit_put HT.out hf
      have hxl : xx ≤ 512 := Nat.le_trans (Nat.le_of_lt hx2) (pow_small hb9)
      have hpx : putL (xx : Int) (Bi u : Int) l = l ++ Go.Proofs.Ytaacphmbkieacaa.digits xx (Bi u) := putL_nat _ hx2 (by omega)
      rw [hx, hpx] at he
      obtain ⟨qq, hq'⟩ : ∃ q, Ba u = q := ⟨_, rfl⟩
      obtain ⟨bb, hbb⟩ : ∃ q, Bi u = q := ⟨_, rfl⟩
      rw [hq'] at hx
      rw [hbb] at he hpx
      have fx := sub_nat_wrap hx hxl
      have fxi := sub_nat_wrapi hx hxl
      have hcells : ∀ w2, Touch (fun _ => False) W w2 → w2.cell? ⟨P10, 0, none⟩ = some (.pointer (some ⟨B, 0, none⟩)) ∧ w2.cell? ⟨P11, 0, none⟩ = some (.int .i64 t) ∧ w2.cell? ⟨P8, 0, none⟩ = some (.slice (some ⟨g, 0, none⟩) N N) ∧ w2.cell? ⟨g, u * 3 + 2, none⟩ = some (.int .i64 qq) ∧ w2.cell? ⟨g, u * 3 + 1, none⟩ = some (.int .i64 bb) := fun w2 t2 => by
        obtain ⟨k1, k2, k3⟩ := TabAt.get (RowAt.touch HE.out.tab t2 id) hu
        rw [hbb] at k2
        rw [hq'] at k3
        exact ⟨(box_far HE.out.b10 t2 id).cell, (box_far HE.out.b11 t2 id).cell, (box_far HE.out.b8 t2 id).cell, k3, k2⟩
      have HCC := Lib.hid hcells
      have HEN := Lib.hid he
      have HPX := Lib.hid hpx
      clear hf he hpx hx hx2 hq' hbb hxl hb9 hcells
      gi_wp2_with fail
      refine (CallsIn.inRound lr (wide_in HF.out (index41 g N N Sy Bi Ba s t Bx P11 W HT.out HE.out.tab bX.cell HE.out.b11.cell))).mono ?_
      rintro e w2 ⟨rfl, t2⟩
      rw [hfi]
      have T2 := Lib.hid t2
      have HE2 := Lib.hid (encI_touch _ _ _ _ _ _ _ _ _ _ _ _ _ _ HE.out t2)
      have hc2 := HCC.out _ t2.drew
      clear t2 c8 hfi
      gi_wp2_with fail
      have hF' := HF.out
      subst hF'
      refine region_round (S := fun wx => wx.cell? ⟨P10, 0, none⟩ = some (.pointer (some ⟨B, 0, none⟩)) ∧ wx.cell? ⟨P11, 0, none⟩ = some (.int .i64 t) ∧ wx.cell? ⟨P8, 0, none⟩ = some (.slice (some ⟨g, 0, none⟩) N N) ∧ wx.cell? ⟨g, u * 3 + 2, none⟩ = some (.int .i64 qq) ∧ wx.cell? ⟨g, u * 3 + 1, none⟩ = some (.int .i64 bb)) (by kernel_rfl) (noDefer_spec (by kernel_rfl)) (by rintro ⟨a, w, h⟩; exact h) hc2 (fun hHeld => ?_)
      clear hc2
      refine wpAnyH_take (i := 0) (oi := { dst := some 33, op := Op.load 51 (Operand.tmp 10), type := 51, pos := "fse.go:99", after := #[], guard := none }) (v := .pointer (some ⟨B, 0, none⟩)) rfl (by kernel_rfl) (by kernel_rfl) (by kernel_rfl) (fun _ _ _ h => h) (Or.inl ⟨by rfl, by intro w hSw; (try dsimp only at hSw); go_simp⟩) hHeld ?_
      simp only [Act.put, List.setIfInBounds_toArray, List.set_cons_zero, List.set_cons_succ]
      refine wpAnyH_take (i := 1) (oi := { dst := some 34, op := Op.load 3 (Operand.tmp 11), type := 3, pos := "fse.go:99", after := #[], guard := none }) (v := .int .i64 t) rfl (by kernel_rfl) (by kernel_rfl) (by kernel_rfl) (fun _ _ _ h => h) (Or.inl ⟨by rfl, by intro w hSw; (try dsimp only at hSw); go_simp⟩) hHeld ?_
      simp only [Act.put, List.setIfInBounds_toArray, List.set_cons_zero, List.set_cons_succ]
      refine wpAnyH_take (i := 2) (oi := { dst := some 35, op := Op.load 29 (Operand.tmp 8), type := 29, pos := "fse.go:99", after := #[], guard := none }) (v := .slice (some ⟨g, 0, none⟩) N N) rfl (by kernel_rfl) (by kernel_rfl) (by kernel_rfl) (fun _ _ _ h => h) (Or.inl ⟨by rfl, by intro w hSw; (try dsimp only at hSw); go_simp⟩) hHeld ?_
      simp only [Act.put, List.setIfInBounds_toArray, List.set_cons_zero, List.set_cons_succ]
      refine wpAnyH_take (i := 3) (oi := { dst := some 36, op := Op.move (Operand.tmp 14), type := 3, pos := "fse.go:99", after := #[], guard := none }) (v := .int .i64 u) rfl (by kernel_rfl) (by kernel_rfl) (by kernel_rfl) (fun _ _ _ h => h) (Or.inl ⟨by rfl, by intro w hSw; (try dsimp only at hSw); go_simp⟩) hHeld ?_
      simp only [Act.put, List.setIfInBounds_toArray, List.set_cons_zero, List.set_cons_succ]
      refine wpAnyH_take (i := 4) (oi := { dst := some 37, op := Op.indexAddr 29 (Operand.tmp 35) (Operand.tmp 36), type := 0, pos := "fse.go:99", after := #[{ on := 2, ground := Ground.data }, { on := 3, ground := Ground.data }], guard := none }) (v := .pointer (some ⟨g, u * 3, none⟩)) rfl (by kernel_rfl) (by kernel_rfl) (by kernel_rfl) (fun _ _ _ h => h) (Or.inl ⟨by rfl, by intro w hSw; (try dsimp only at hSw); go_simp⟩) hHeld ?_
      simp only [Act.put, List.setIfInBounds_toArray, List.set_cons_zero, List.set_cons_succ]
      refine wpAnyH_take (i := 5) (oi := { dst := some 38, op := Op.fieldAddr 34 (Operand.tmp 37) 2, type := 0, pos := "fse.go:99", after := #[{ on := 4, ground := Ground.data }], guard := none }) (v := .pointer (some ⟨g, u * 3 + 2, none⟩)) rfl (by kernel_rfl) (by kernel_rfl) (by kernel_rfl) (fun _ _ _ h => h) (Or.inl ⟨by rfl, by intro w hSw; (try dsimp only at hSw); go_simp⟩) hHeld ?_
      simp only [Act.put, List.setIfInBounds_toArray, List.set_cons_zero, List.set_cons_succ]
      refine wpAnyH_take (i := 6) (oi := { dst := some 39, op := Op.load 3 (Operand.tmp 38), type := 3, pos := "fse.go:99", after := #[{ on := 5, ground := Ground.data }], guard := none }) (v := .int .i64 qq) rfl (by kernel_rfl) (by kernel_rfl) (by kernel_rfl) (fun _ _ _ h => h) (Or.inl ⟨by rfl, by intro w hSw; (try dsimp only at hSw); go_simp⟩) hHeld ?_
      simp only [Act.put, List.setIfInBounds_toArray, List.set_cons_zero, List.set_cons_succ]
      refine wpAnyH_take (i := 7) (oi := { dst := some 40, op := Op.binOp BinOp.sub 3 (Operand.tmp 34) (Operand.tmp 39) 3, type := 3, pos := "fse.go:99", after := #[{ on := 1, ground := Ground.data }, { on := 6, ground := Ground.data }], guard := none }) (v := .int .i64 xx) rfl (by kernel_rfl) (by kernel_rfl) (by kernel_rfl) (fun _ _ _ h => h) (Or.inl ⟨by rfl, by intro w hSw; (try dsimp only at hSw); go_simp⟩) hHeld ?_
      simp only [Act.put, List.setIfInBounds_toArray, List.set_cons_zero, List.set_cons_succ]
      refine wpAnyH_take (i := 8) (oi := { dst := some 41, op := Op.load 29 (Operand.tmp 8), type := 29, pos := "fse.go:99", after := #[], guard := none }) (v := .slice (some ⟨g, 0, none⟩) N N) rfl (by kernel_rfl) (by kernel_rfl) (by kernel_rfl) (fun _ _ _ h => h) (Or.inl ⟨by rfl, by intro w hSw; (try dsimp only at hSw); go_simp⟩) hHeld ?_
      simp only [Act.put, List.setIfInBounds_toArray, List.set_cons_zero, List.set_cons_succ]
      refine wpAnyH_take (i := 9) (oi := { dst := some 42, op := Op.move (Operand.tmp 14), type := 3, pos := "fse.go:99", after := #[], guard := none }) (v := .int .i64 u) rfl (by kernel_rfl) (by kernel_rfl) (by kernel_rfl) (fun _ _ _ h => h) (Or.inl ⟨by rfl, by intro w hSw; (try dsimp only at hSw); go_simp⟩) hHeld ?_
      simp only [Act.put, List.setIfInBounds_toArray, List.set_cons_zero, List.set_cons_succ]
      refine wpAnyH_take (i := 10) (oi := { dst := some 43, op := Op.indexAddr 29 (Operand.tmp 41) (Operand.tmp 42), type := 0, pos := "fse.go:99", after := #[{ on := 8, ground := Ground.data }, { on := 9, ground := Ground.data }], guard := none }) (v := .pointer (some ⟨g, u * 3, none⟩)) rfl (by kernel_rfl) (by kernel_rfl) (by kernel_rfl) (fun _ _ _ h => h) (Or.inl ⟨by rfl, by intro w hSw; (try dsimp only at hSw); go_simp⟩) hHeld ?_
      simp only [Act.put, List.setIfInBounds_toArray, List.set_cons_zero, List.set_cons_succ]
      refine wpAnyH_take (i := 11) (oi := { dst := some 44, op := Op.fieldAddr 34 (Operand.tmp 43) 1, type := 0, pos := "fse.go:99", after := #[{ on := 10, ground := Ground.data }], guard := none }) (v := .pointer (some ⟨g, u * 3 + 1, none⟩)) rfl (by kernel_rfl) (by kernel_rfl) (by kernel_rfl) (fun _ _ _ h => h) (Or.inl ⟨by rfl, by intro w hSw; (try dsimp only at hSw); go_simp⟩) hHeld ?_
      simp only [Act.put, List.setIfInBounds_toArray, List.set_cons_zero, List.set_cons_succ]
      refine wpAnyH_take (i := 12) (oi := { dst := some 45, op := Op.load 3 (Operand.tmp 44), type := 3, pos := "fse.go:99", after := #[{ on := 11, ground := Ground.data }], guard := none }) (v := .int .i64 bb) rfl (by kernel_rfl) (by kernel_rfl) (by kernel_rfl) (fun _ _ _ h => h) (Or.inl ⟨by rfl, by intro w hSw; (try dsimp only at hSw); go_simp⟩) hHeld ?_
      simp only [Act.put, List.setIfInBounds_toArray, List.set_cons_zero, List.set_cons_succ]
      refine wpAnyH_ready (rs := [13]) (by kernel_rfl) (by simp) ?_
      refine AllReadyH.cons (o := { dst := some 46, op := Op.call { callee := Callee.value (Operand.func 42), args := #[Operand.tmp 33, Operand.tmp 40, Operand.tmp 45], argTypes := #[51, 3, 3] }, type := 4, pos := "fse.go:99", after := #[{ on := 0, ground := Ground.data }, { on := 7, ground := Ground.data }, { on := 12, ground := Ground.data }], guard := none }) rfl (fun K hK => ?_) AllReadyH.nil
      go_simp
      refine (put_walk B xx bb _ v l HE2.out.wr.drew HL.out).mono ?_
      rintro e w3 ⟨rfl, v3, hw3, t3, f3⟩
      rw [HPX.out] at hw3
      obtain ⟨n1, n2, n3, n4, n5, n6, n7, n8⟩ := hord.out
      have E3 := Lib.hid (encI_step HE2.out (x := x) (by omega) (by omega) (by omega) (by omega) (by omega) (by omega) (by omega) HO.out.2.1 HO.out.2.2.1 t3 hw3 f3 HEN.out)
      have KK := Lib.hid (encI_keeps (u := u) (D := W0.heap.size) HE.out (by omega) HO.out.2.1 HO.out.2.2.1 hb2 T2.out t3)
      have hwd := HE2.out.wr.drew
      have B11 := box_far (W := w2.drew) HE2.out.b11 t3 (foot_box hwd HE2.out.b11 (by decide) (by decide))
      have hft := foot_tab hwd (RowAt.drewI HE2.out.tab) (by decide)
      have hS3 : w3.cell? ⟨P10, 0, none⟩ = some (.pointer (some ⟨B, 0, none⟩)) ∧ w3.cell? ⟨P11, 0, none⟩ = some (.int .i64 t) ∧ w3.cell? ⟨P8, 0, none⟩ = some (.slice (some ⟨g, 0, none⟩) N N) ∧ w3.cell? ⟨g, u * 3 + 2, none⟩ = some (.int .i64 qq) ∧ w3.cell? ⟨g, u * 3 + 1, none⟩ = some (.int .i64 bb) :=
        ⟨(box_far (W := w2.drew) HE2.out.b10 t3 (foot_box hwd HE2.out.b10 (by decide) (by decide))).cell, B11.cell, (box_far (W := w2.drew) HE2.out.b8 t3 (foot_box hwd HE2.out.b8 (by decide) (by decide))).cell, t3.cell hHeld.2.2.2.1 hft, t3.cell hHeld.2.2.2.2 hft⟩
      have f11 := B11.frozen
      have k11 := B11.cell
      clear hw3 t3 f3 n1 n2 n3 n4 n5 n6 n7 n8 B11 hft hwd hHeld
      refine hK.out _ _ hS3 (fun hHeld => ?_)
      clear hK K hHeld hS3
      try simp only [Act.put, List.setIfInBounds_toArray, List.set_cons_zero, List.set_cons_succ]
      refine wpAnyH_done (by kernel_rfl) ?_ _
      gi_wp2_with fail
      exact ⟨KK.out.1, KK.out.2, _, _, _, E3.out⟩
  case done =>
    rintro D ys W hD rfl ⟨t, l, v, hE⟩ hK
    have he := hE.enc
    rw [bwd_snd, HR.out] at he
    subst he
    have hlen9 := (encF_bd HT.out _ _ rfl hE.enc hN0).2
    rw [List.length_map, bwd_len] at hlen9
    have hl900 : l.length ≤ 900000 := by omega
    have hpl := putL_len (t : Int) (L : Int) l
    have hl1 : (putL (t : Int) (L : Int) l).length ≤ 1000000 := by omega
    have c10 := hE.b10.cell
    have c11 := hE.b11.cell
    have HE := Lib.hid hE
    have HK := Lib.hid hK
    obtain ⟨l3, hl3⟩ : ∃ l3, putL (t : Int) (L : Int) l = l3 := ⟨_, rfl⟩
    rw [hl3] at hl1
    have HL3 := Lib.hid hl3
    have HLL := Lib.hid hl1
    clear hE hK hlen9 hpl hl3 hl1
    gi_wp2_with fail
    refine (wide_in HF.out (put_walk B t L _ v l HE.out.wr hl900)).mono ?_
    rintro e w3 ⟨rfl, v3, hw3, t3, f3⟩
    rw [HL3.out] at hw3
    have T3 := Lib.hid t3
    have HW3 := Lib.hid hw3
    have k10 := (box_far HE.out.b10 t3 (foot_box HE.out.wr HE.out.b10 (by decide) (by decide))).cell
    clear t3 f3 hw3 c10 c11
    gi_wp2_with fail
    refine (wide_in HF.out (bytes_walk B v3 l3 _ HW3.out HLL.out)).mono ?_
    rintro e w4 ⟨rfl, hh4, t4⟩
    obtain ⟨n1, n2, n3, n4, n5, n6, n7, n8⟩ := hord.out
    obtain ⟨⟨k6, f6, k7, f7⟩, g1, g2, g3, g4, g5⟩ := enc_fin HE.out HO.out.2.1 HO.out.1 (by omega) (by omega) (by omega) (Nat.le_trans HO.out.2.2.2 hD) HK.out T3.out t4 hh4 (.slice (some ⟨w3.heap.size, 0, none⟩) (l3.length / 8 + 1) (l3.length / 8 + 1))
    have GG := Lib.hid (And.intro g1 (And.intro g2 (And.intro g3 (And.intro g4 g5))))
    have hle : w.heap.size ≤ w3.heap.size := Nat.le_trans HE.out.touch.size T3.out.size
    have k7' : (w4.setCell ⟨P6, 0, none⟩ (.slice (some ⟨w3.heap.size, 0, none⟩) (l3.length / 8 + 1) (l3.length / 8 + 1))).cell? ⟨P7, 0, none⟩ = some (.bool false) := (touch_set w4 P6 _).cell k7 (by show ¬ P7 = P6; omega)
    have HLE := Lib.hid hle
    clear g1 g2 g3 g4 g5 n1 n2 n3 n4 n5 n6 n7 n8 t4 hh4 k7 k10 hle
    gi_wp2_with fail
    obtain ⟨g1, g2, g3, g4, g5⟩ := GG.out
    refine ⟨by simp, .inl ⟨_, _, rfl, run_takeDeferred g1, ?_⟩⟩
    refine ⟨_, results_two rfl _ _ _ _ _ _ _ rfl rfl (load4 g3) (load37 g2), ?_⟩
    refine ⟨?_, g4⟩
    show ∃ g, _ ∧ _ ∧ _
    rw [HL3.out]
    exact ⟨_, rfl, HLE.out, g5⟩
  case stop =>
    rintro D c pre W hD ⟨k, hk, rfl⟩ ⟨rfl, he, c6, c7, ht⟩ hK
    rw [bwd_snd] at he
    have hR : R = none := by rw [← HR.out]; exact backL_no N Sy Bi Ba he hk
    subst hR
    have hp := grownBy_putObj' W D (.deferred none)
    have C6 := Lib.hid (cell_kept c6.cell hp (fun r e => by cases e; exact ⟨_, hK, rfl⟩))
    have C7 := Lib.hid (cell_kept c7.cell hp (fun r e => by cases e; exact ⟨_, hK, rfl⟩))
    have TT := Lib.hid (ht.grown hp (fun k e hk => by cases e; have := HO.out.2.2.2; omega))
    have HK := Lib.hid hK
    clear he c6 c7 ht hK hp
    gi_wp2_with fail
    refine ⟨by simp, .inl ⟨_, _, rfl, run_takeDeferred HK.out, ?_⟩⟩
    exact ⟨_, results_two rfl _ _ _ _ _ _ _ rfl rfl (load4 C7.out) (load37 C6.out), rfl, TT.out⟩
theorem enc_yes (a a2 : Option Addr) (b off n c L b2 off2 ns cs : Nat) (z y : Nat → Int) (w : World) (h : Ints .i64 w a b off n z) (hy : Ints .i64 w a2 b2 off2 ns y) (hb2 : 0 < ns → b2 < w.heap.size) (hns : ns ≤ 40000) (hok : isOk z n (L : Int) = true) :
    Calls Try.prog 24 #[.slice a n c, .int .i64 L, .slice a2 ns cs] w (EncPost w L (encF (2 ^ L) (symU (natM z) n L) (fun u => bitsU L (xU (natM z) (symU (natM z) n L) u)) (fun u => baseU L (xU (natM z) (symU (natM z) n L) u)) (backL y ns ns))) :=
  (callsIn_wide (n := 6)).1 (enc_in Fence.wide rfl 6 (Nat.le_refl _) trivial trivial trivial trivial trivial trivial trivial trivial rfl a a2 b off n c L b2 off2 ns cs z y w h hy hb2 hns hok)
end Go.Proofs.Ytaacphmbkieacaa
