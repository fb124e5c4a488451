/- match: Parse. -/
import Derived.Test.YtmhmbepohcapnaaE
namespace Go.Proofs.Ytmhmbepohcapnaa
open Go.RowKit Go.WideShapes
set_option linter.unusedVariables false
set_option maxRecDepth 100000

theorem Try.info29 : (Try.prog.info? 29).map (fun i => (i.zero, i.size, i.bytes)) = some (some (.agg #[.int .i64 0, .int .i64 0, .int .i64 0]), 3, 24) := by kernel_rfl

theorem bestF_le (z : Nat → Int) (n i depth : Nat) : ∀ j at_ most seen, j ≤ i → at_ ≤ i → most ≤ n - i → (bestF z n i depth j at_ most seen).1 ≤ i ∧ (bestF z n i depth j at_ most seen).2 ≤ n - i
  | 0, at_, most, seen, _, h1, h2 => ⟨h1, h2⟩
  | j + 1, at_, most, seen, hj, h1, h2 => by
    unfold bestF
    split
    · exact ⟨h1, h2⟩
    · split
      · exact bestF_le z n i depth j at_ most seen (by omega) h1 h2
      · split
        · exact bestF_le z n i depth j j _ _ (by omega) (by omega) (lcp_le z n j i)
        · exact bestF_le z n i depth j at_ most _ (by omega) h1 h2
theorem best_le (z : Nat → Int) (n i depth : Nat) : (best z n i depth).1 ≤ i ∧ (best z n i depth).2 ≤ n - i := bestF_le z n i depth i 0 0 0 (Nat.le_refl _) (by omega) (by omega)

/-- Steps from a place on. -/
def parseF (z : Nat → Int) (n depth : Nat) : Nat → Nat → Nat → List (Int × Int × Int)
  | 0, _, _ => []
  | f + 1, lit, at_ =>
    if n < at_ + 4 then []
    else if (best z n at_ depth).2 = 0 then parseF z n depth f (lit + 1) (at_ + 1)
    else ((lit : Int), offOf at_ (best z n at_ depth), ((best z n at_ depth).2 : Int)) :: parseF z n depth f 0 (at_ + (best z n at_ depth).2)
theorem parseF_end (z : Nat → Int) (n depth f lit at_ : Nat) (h : n < at_ + 4) : parseF z n depth f lit at_ = [] := by
  cases f with
  | zero => rfl
  | succ f => rw [parseF, if_pos h]
/-- The steps of n bytes, the first p of which are a prefix. -/
def parse (z : Nat → Int) (n p depth : Nat) : List (Int × Int × Int) := parseF z n depth (n - p) 0 p

/-- A list of steps that a call gives. -/
structure Steps (w w' : World) (v : Value) (ps : List (Int × Int × Int)) : Prop where
  row : w'.ownsRow 0 29 3 v ps.length (recL ps)
  own : OwnB w.heap.size v
  touch : Touch (fun _ => False) w w'

theorem two_rows {w w' : World} {a1 a2 : Option Addr} {b1 o1 l1 c1 b2 o2 l2 c2 : Nat} {z1 z2 : Nat → Int} {g : Nat} {e : TypeId} (h1 : Ints .u8 w a1 b1 o1 l1 z1) (h2 : Ints .u8 w a2 b2 o2 l2 z2) (ht : Touch (fun _ => False) w w')
    (hg : w'.heap[g]? = some (.cells #[.slice a1 l1 c1, .slice a2 l2 c2] e (0, 0))) :
    RowsOf w' (some ⟨g, 0, none⟩) g 0 2 (fun i => if i = 0 then a1 else a2) (fun i => if i = 0 then b1 else b2) (fun i => if i = 0 then o1 else o2) (fun i => if i = 0 then l1 else l2) (fun i => if i = 0 then c1 else c2) (fun i => if i = 0 then z1 else z2) := by
  refine ⟨fun _ => rfl, fun i hi => ?_, fun i hi => ?_⟩
  · rw [cell_of_row _ _ _ _ _ _ hg]
    have : i = 0 ∨ i = 1 := by omega
    rcases this with rfl | rfl <;> rfl
  · have : i = 0 ∨ i = 1 := by omega
    rcases this with rfl | rfl
    · exact h1.touch ht
    · exact h2.touch ht
theorem two_cat (l1 l2 : Nat) (z1 z2 : Nat → Int) : catV (fun i => if i = 0 then l1 else l2) (fun i => if i = 0 then z1 else z2) 2 = cellsZ .u8 (two l1 z1 z2) (l1 + l2) := by
  show ([] ++ cellsZ .u8 z1 l1) ++ cellsZ .u8 z2 l2 = _
  rw [List.nil_append, cellsZ_append]
  rfl
theorem two_sum (l1 l2 : Nat) : sumL (fun i => if i = 0 then l1 else l2) 2 = l1 + l2 := by
  show 0 + l1 + l2 = _; omega

set_option maxHeartbeats 2000000 in
theorem parse_walk (w : World) (a1 : Option Addr) (b1 o1 l1 c1 : Nat) (z1 : Nat → Int) (a2 : Option Addr) (b2 o2 l2 c2 : Nat) (z2 : Nat → Int) (h1 : Ints .u8 w a1 b1 o1 l1 z1) (h2 : Ints .u8 w a2 b2 o2 l2 z2) (depth : Nat)
    (hl1 : l1 ≤ 100000) (hl2 : l2 ≤ 100000) (hd0 : 1 ≤ depth) (hd : depth ≤ 1000) :
    Calls Try.prog 15 #[.slice a1 l1 c1, .slice a2 l2 c2, .int .i64 depth] w fun e w' => ∃ v, e = .returned v ∧ Steps w w' v (parse (two l1 z1 z2) (l1 + l2) l1 depth) := by
  obtain ⟨i0, hi, hz0, hz1, hz2⟩ := info_parts Try.info29
  have H1 := Lib.hid h1
  have H2 := Lib.hid h2
  clear h1 h2
  obtain ⟨n, hn⟩ : ∃ n, l1 + l2 = n := ⟨_, rfl⟩
  obtain ⟨z, hz⟩ : ∃ z, two l1 z1 z2 = z := ⟨_, rfl⟩
  rw [hn, hz]
  have hn1 : l1 ≤ n := by omega
  have hn2 : n ≤ 200000 := by omega
  have Hn := Lib.hid hn
  have Hzz := Lib.hid hz
  clear hn hz
  go_enter Try.func15, Try.ntmps15
  go_wp2_with fail
  have hcc := concat_walk (w.alloc (.cells #[.slice a1 l1 c1, .slice a2 l2 c2] 22)) _ _ _ 2 2 _ _ _ _ _ _ (two_rows H1.out H2.out (Touch.new w _) (heap_alloc_new w _)) (by omega) (by rw [two_sum]; omega)
  rw [two_sum, two_cat, Hzz.out, Hn.out] at hcc
  refine hcc.mono ?_
  rintro e w3 ⟨v3, rfl, hown3, ob3, t3⟩
  clear hcc
  have T3 := Lib.hid ((Touch.new w _).trans t3)
  obtain ⟨xa, xb, xc, rfl, hx⟩ := ints_row hown3
  have X := Lib.hid hx
  clear hown3 ob3 t3 hx
  go_wp2_with fail
  go_loopw [8, 9, 10, 11, 12] (fun q x y _ _ wr => ∃ f lit at_ : Nat, ∃ ps : List (Int × Int × Int), at_ ≤ n ∧ lit ≤ at_ ∧ n ≤ at_ + f ∧ x = .int .i64 lit ∧ y = .int .i64 at_ ∧ ps ++ parseF z n depth f lit at_ = parse z n l1 depth ∧ ps.length ≤ at_ ∧
      wr.ownsRow 0 29 3 q ps.length (recL ps) ∧ OwnB w3.heap.size q ∧ Touch (fun _ => False) w3 wr) (fun _ _ y _ _ _ => n - (intOf y).toNat)
  case atStart => exact ⟨n - l1, 0, l1, [], hn1, by omega, by omega, rfl, rfl, rfl, by simp, World.ownsRow_nil _ _ _ _, OwnB.nil _, Touch.refl _ _⟩
  case round =>
    obtain ⟨f, lit, at_, ps, hat, hlit, hf, rfl, rfl, hps, hlen, hrow, hown, ht⟩ := hrel
    have Hrow := Lib.hid hrow
    have Hps := Lib.hid hps
    clear hrow hps
    by_cases hlt : n < at_ + 4
    · have hp := Hps.out
      rw [parseF_end _ _ _ _ _ _ hlt, List.append_nil] at hp
      have Hp := Lib.hid hp
      clear hp
      go_wp2_with fail
      go_ret
      exact ⟨_, rfl, ⟨by rw [← Hp.out]; exact Hrow.out, hown.mono T3.out.size, T3.out.trans ht⟩⟩
    · obtain ⟨f, rfl⟩ : ∃ g, f = g + 1 := ⟨f - 1, by omega⟩
      have hp := Hps.out
      rw [parseF, if_neg hlt] at hp
      obtain ⟨hb1, hb2⟩ := best_le z n at_ depth
      have Hl := Lib.hid (fun w h => longest_walk xa xb 0 n xc z w h at_ depth hat (by omega) hd hd0)
      obtain ⟨R, hR⟩ : ∃ R, best z n at_ depth = R := ⟨_, rfl⟩
      rw [hR] at Hl hp hb1 hb2
      obtain ⟨r1, r2⟩ := R
      simp only at hp hb1 hb2 Hl
      have Hp := Lib.hid hp
      clear hp hR Hps
      go_wp2_with fail
      refine (Hl.out _ (X.out.touch ht)).mono ?_
      rintro e w4 ⟨rfl, m, rfl⟩
      by_cases h0 : r2 = 0
      · have hp := Hp.out
        rw [if_pos h0] at hp
        have Hp2 := Lib.hid hp
        clear hp Hp
        subst h0
        obtain ⟨o, ho⟩ : ∃ o, offOf at_ (r1, 0) = o := ⟨_, rfl⟩
        rw [ho]
        clear ho
        go_wp2_with fail
        go_roundw
        case rel => exact ⟨f, lit + 1, at_ + 1, ps, by omega, by omega, by omega, by go_num, by go_num, Hp2.out, by omega, (Touch.eq_drewN (S := fun _ => False) wr m).row Hrow.out (fun _ _ => id), hown, ht.drewN m⟩
        case measure => simp [intOf]; omega
      · have hp := Hp.out
        rw [if_neg h0] at hp
        obtain ⟨o, ho⟩ : ∃ o, offOf at_ (r1, r2) = o := ⟨_, rfl⟩
        rw [ho] at hp
        have Hp2 := Lib.hid hp
        have hne : ((r2 : Int) == 0) = false := by simp; omega
        have Hrow2 := Lib.hid ((Touch.eq_drewN (S := fun _ => False) wr m).row Hrow.out (fun _ _ => id))
        rw [ho]
        clear hp Hp ho
        go_wp2_with (refine wpList_append_mine rfl (.tmp 37) (.tmp 42) 24 24 rfl 29 i0 (.agg #[.int .i64 0, .int .i64 0, .int .i64 0]) 3 24 Try.underlying24 hi hz0 hz1 hz2 rfl u8 _ _ rfl (row_heap Hrow2.out rfl) _ 1 [.int .i64 lit, .int .i64 o, .int .i64 r2] rfl (src_cells wr.heap.size Try.underlying24 [.int .i64 lit, .int .i64 o, .int .i64 r2] (by simp [Value.oneCell']) _ (heap_alloc_new (wr.drewN m) _)) (by unfold maxLen; omega) (by omega) ?_; intro a4 c4 w6 hown6 ht6 hf6 _)
        have t6 : Touch (fun k => u8.ownBlock = some k) (wr.drewN m) w6 := ((Touch.refl _ (wr.drewN m)).alloc _).trans ht6
        have T6 := own_app (ht.drewN m) hown t6
        have own6 := hown.fresh hf6 (Nat.le_trans ht.size ((Touch.refl (fun _ => False) _).alloc _).size)
        go_wp2_with fail
        go_roundw
        case rel => exact ⟨f, 0, at_ + r2, ps ++ [((lit : Int), o, (r2 : Int))], by omega, by omega, by omega, rfl, by go_num, by rw [List.append_assoc]; exact Hp2.out, by simp; omega, by rw [recL_snoc, List.length_append]; exact hown6, own6, T6⟩
        case measure => simp [intOf]; omega
end Go.Proofs.Ytmhmbepohcapnaa
