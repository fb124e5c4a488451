/- seqs: the document's Parse, and the law SeqsParsed. No condition. -/
import Derived.Test.YthnhacbagmhfoaaM5
import Derived.WalkMore
/- seqs: the document's Parse. -/
namespace Go.Proofs.Ythnhacbagmhfoaa
open Go.RowKit Go.WideShapes Fs
set_option linter.unusedVariables false
set_option linter.unusedSimpArgs false
set_option maxRecDepth 100000


/-- For how many of f places the ones from j and from i on are the same. -/
def lcpA (z : Nat → Int) : Nat → Nat → Nat → Nat
  | 0, _, _ => 0
  | f + 1, j, i => if z j = z i then lcpA z f (j + 1) (i + 1) + 1 else 0
def lcp (z : Nat → Int) (n j i : Nat) : Nat := lcpA z (n - i) j i
theorem lcpA_le (z : Nat → Int) : ∀ f j i, lcpA z f j i ≤ f
  | 0, _, _ => Nat.le_refl _
  | f + 1, j, i => by
    unfold lcpA
    have := lcpA_le z f (j + 1) (i + 1)
    split <;> omega
theorem lcpA_add (z : Nat → Int) : ∀ k f j i, k ≤ f → (∀ t, t < k → z (j + t) = z (i + t)) → lcpA z f j i = lcpA z (f - k) (j + k) (i + k) + k
  | 0, f, j, i, _, _ => by simp
  | k + 1, f, j, i, hf, h => by
    obtain ⟨f, rfl⟩ : ∃ g, f = g + 1 := ⟨f - 1, by omega⟩
    have h0 : z j = z i := h 0 (by omega)
    rw [lcpA, if_pos h0, lcpA_add z k f (j + 1) (i + 1) (by omega) (fun t ht => by have := h (t + 1) (by omega); rw [show j + 1 + t = j + (t + 1) by omega, show i + 1 + t = i + (t + 1) by omega]; exact this)]
    rw [show f + 1 - (k + 1) = f - k by omega, show j + 1 + k = j + (k + 1) by omega, show i + 1 + k = i + (k + 1) by omega]
    omega
theorem lcp_end {z : Nat → Int} {n j i k : Nat} (hk : i + k = n) (h : ∀ t, t < k → z (j + t) = z (i + t)) : lcp z n j i = k := by
  unfold lcp
  rw [lcpA_add z k (n - i) j i (by omega) h, show n - i - k = 0 by omega]
  simp [lcpA]
theorem lcp_stop {z : Nat → Int} {n j i k : Nat} (hk : i + k < n) (h : ∀ t, t < k → z (j + t) = z (i + t)) (hs : z (j + k) ≠ z (i + k)) : lcp z n j i = k := by
  unfold lcp
  rw [lcpA_add z k (n - i) j i (by omega) h]
  obtain ⟨f, hf⟩ : ∃ f, n - i - k = f + 1 := ⟨n - i - k - 1, by omega⟩
  rw [hf, lcpA, if_neg hs]; omega
theorem lcp_same (z : Nat → Int) : ∀ f j i t, t < lcpA z f j i → z (j + t) = z (i + t)
  | 0, j, i, t, h => by simp [lcpA] at h
  | f + 1, j, i, t, h => by
    unfold lcpA at h
    split at h
    · rename_i h0
      cases t with
      | zero => exact h0
      | succ t =>
        have := lcp_same z f (j + 1) (i + 1) t (by omega)
        rw [show j + 1 + t = j + (t + 1) by omega, show i + 1 + t = i + (t + 1) by omega] at this
        exact this
    · omega
theorem lcp_le (z : Nat → Int) (n j i : Nat) : lcp z n j i ≤ n - i := lcpA_le z _ _ _

set_option maxHeartbeats 1000000 in
theorem long_walk (a : Option Addr) (b off n c : Nat) (z : Nat → Int) (w : World) (h : Ints .u8 w a b off n z) (j i : Nat) (hji : j < i) (hin : i ≤ n) (hn : n ≤ 1000000) :
    Calls Try.prog 62 #[.slice a n c, .int .i64 j, .int .i64 i] w fun e w' => e = .returned (.int .i64 (lcp z n j i : Nat)) ∧ ∃ m, w' = w.drewN m := by
  have H := Lib.hid h
  clear h
  go_enter Try.func62, Try.ntmps62
  go_wp2_with fail
  go_loopw [7] (fun v wr => ∃ k m : Nat, i + k ≤ n ∧ v = .int .i64 k ∧ (∀ t, t < k → z (j + t) = z (i + t)) ∧ wr = w.drewN m) (fun v _ => n - (intOf v).toNat)
  case atStart => exact ⟨0, 0, by omega, rfl, fun t ht => by omega, rfl⟩
  case round =>
    obtain ⟨k, m, hk, rfl, hs, rfl⟩ := hrel
    have Hs := Lib.hid hs
    clear hs
    have f1 : IntKind.i64.wrap ((i : Int) + (k : Int)) = (i : Int) + k := IntWalk.i64_in _ (by omega)
    have f2 : IntKind.i64.wrap ((j : Int) + (k : Int)) = (j : Int) + k := IntWalk.i64_in _ (by omega)
    have f3 : (0 : Int) ≤ (i : Int) + k := by omega
    have f4 : (0 : Int) ≤ (j : Int) + k := by omega
    have f5 : ((i : Int) + (k : Int)).toNat = i + k := by omega
    have f6 : ((j : Int) + (k : Int)).toNat = j + k := by omega
    by_cases hlt : i + k < n
    · obtain rfl := H.out.at_ (by omega)
      have g1 : (i : Int) + k < n := by omega
      have g2 : (j : Int) + k < n := by omega
      have e1 : ∀ m, (w.drewN m).cell? ⟨b, off + (j + k), none⟩ = some (.int .u8 (z (j + k))) := fun m => (Touch.eq_drewN (S := fun _ => False) w m).cell (H.out.cell _ (by omega)) id
      have e2 : ∀ m, (w.drewN m).cell? ⟨b, off + (i + k), none⟩ = some (.int .u8 (z (i + k))) := fun m => (Touch.eq_drewN (S := fun _ => False) w m).cell (H.out.cell _ (by omega)) id
      by_cases he : z (j + k) = z (i + k)
      · have hb : (z (j + k) == z (i + k)) = true := by simpa using he
        have He := Lib.hid he
        clear he
        go_wp2_with fail
        go_quiet (fail)
        go_wp2_with fail
        go_roundw
        case rel => exact ⟨k + 1, _, by omega, by go_num, fun t ht => by
          by_cases e : t = k
          · subst e; exact He.out
          · exact Hs.out t (by omega), rfl⟩
        case measure => simp [intOf]; omega
      · have hb : (z (j + k) == z (i + k)) = false := by simpa using he
        have Hl := Lib.hid (lcp_stop hlt Hs.out he)
        clear he
        go_wp2_with fail
        go_quiet (fail)
        go_wp2_with fail
        go_ret
        exact ⟨ret_int (by rw [Hl.out]), m + nq, by rw [World.drewN_drewN]⟩
    · have g1 : ¬ ((i : Int) + k < n) := by omega
      have g2 : decide ((i : Int) + (k : Int) < (n : Int)) = false := by simpa using g1
      have Hl := Lib.hid (lcp_end (show i + k = n by omega) Hs.out)
      go_wp2_with fail
      go_quiet (fail)
      go_wp2_with fail
      go_ret
      exact ⟨ret_int (by rw [Hl.out]), m + nq, by rw [World.drewN_drewN]⟩

/-- The best place of i: where, and for how long; of the places below j, with what is known of those above. -/
def bestF (z : Nat → Int) (n i depth : Nat) : Nat → Nat → Nat → Nat → Nat × Nat
  | 0, at_, most, _ => (at_, most)
  | j + 1, at_, most, seen =>
    if depth ≤ seen then (at_, most)
    else if lcp z n j i < 4 then bestF z n i depth j at_ most seen
    else if most < lcp z n j i then bestF z n i depth j j (lcp z n j i) (seen + 1)
    else bestF z n i depth j at_ most (seen + 1)
theorem bestF_full (z : Nat → Int) (n i depth j at_ most seen : Nat) (h : depth ≤ seen) : bestF z n i depth j at_ most seen = (at_, most) := by
  cases j with
  | zero => rfl
  | succ j => rw [bestF, if_pos h]
def best (z : Nat → Int) (n i depth : Nat) : Nat × Nat := bestF z n i depth i 0 0 0

set_option maxHeartbeats 2000000 in
theorem best_walk (a : Option Addr) (b off n c : Nat) (z : Nat → Int) (w : World) (h : Ints .u8 w a b off n z) (i depth : Nat) (hin : i ≤ n) (hn : n ≤ 1000000) (hd : depth ≤ 1000) :
    Calls Try.prog 34 #[.slice a n c, .int .i64 i, .int .i64 depth] w fun e w' => e = .returned (.tuple #[.int .i64 (best z n i depth).1, .int .i64 (best z n i depth).2]) ∧ ∃ m, w' = w.drewN m := by
  have H := Lib.hid h
  clear h
  obtain ⟨R, hR⟩ : ∃ R, best z n i depth = R := ⟨_, rfl⟩
  rw [hR]
  have HR := Lib.hid hR
  clear hR
  go_enter Try.func34, Try.ntmps34
  go_wp2_with fail
  go_loopw [8, 9, 10, 11, 12] (fun x y s v _ wr => ∃ j at_ most seen m : Nat, ∃ jj : Int, j ≤ i ∧ at_ ≤ i ∧ most ≤ n ∧ seen ≤ i - j ∧ jj = (j : Int) - 1 ∧ x = .int .i64 at_ ∧ y = .int .i64 most ∧ s = .int .i64 seen ∧ v = .int .i64 jj ∧ bestF z n i depth j at_ most seen = R ∧ wr = w.drewN m) (fun _ _ _ v _ _ => (intOf v + 1).toNat)
  case atStart => exact ⟨i, 0, 0, 0, 0, _, by omega, by omega, by omega, by omega, rfl, rfl, rfl, rfl, rfl, HR.out, rfl⟩
  case round =>
    obtain ⟨j, at_, most, seen, m, jj, hj, hat, hmost, hseen, hjj, rfl, rfl, rfl, rfl, hb, rfl⟩ := hrel
    have Hb := Lib.hid hb
    clear hb
    by_cases h0 : j = 0
    · have hj1 : jj = -1 := by omega
      clear hjj
      subst hj1 h0
      have hr : R = (at_, most) := by rw [← Hb.out]; rfl
      have Hr := Lib.hid hr
      clear hr
      go_wp2_with fail
      go_ret2
      exact ⟨by rw [Hr.out]; rfl, m, rfl⟩
    obtain ⟨j, rfl⟩ : ∃ q, j = q + 1 := ⟨j - 1, by omega⟩
    have hj1 : jj = j := by omega
    clear hjj h0
    subst hj1
    by_cases hs : depth ≤ seen
    · have hr : R = (at_, most) := by rw [← Hb.out]; exact bestF_full _ _ _ _ _ _ _ _ hs
      have Hr := Lib.hid hr
      clear hr
      go_wp2_with fail
      go_ret2
      exact ⟨by rw [Hr.out]; rfl, m, rfl⟩
    have hb := Hb.out
    rw [bestF, if_neg hs] at hb
    obtain ⟨k, hk⟩ : ∃ k, lcp z n j i = k := ⟨_, rfl⟩
    have hkn : k ≤ n := by rw [← hk]; exact Nat.le_trans (lcp_le z n j i) (by omega)
    have Hl := Lib.hid (fun w h => long_walk a b off n c z w h j i (by omega) hin hn)
    rw [hk] at hb Hl
    have Hb2 := Lib.hid hb
    clear hb hk Hb
    go_wp2_with fail
    refine (Hl.out _ (H.out.touch (Touch.eq_drewN _ _))).mono ?_
    rintro e w1 ⟨rfl, m1, rfl⟩
    rw [World.drewN_drewN]
    by_cases h4 : k < 4
    · have hb := Hb2.out
      rw [if_pos h4] at hb
      have Hb3 := Lib.hid hb
      clear hb Hb2
      go_wp2_with fail
      go_roundw
      case rel => exact ⟨j, at_, most, seen, m + m1, _, by omega, by omega, by omega, by omega, rfl, rfl, rfl, rfl, rfl, Hb3.out, rfl⟩
      case measure => simp [intOf]
    · by_cases hm : most < k
      · have hb := Hb2.out
        rw [if_neg h4, if_pos hm] at hb
        have Hb3 := Lib.hid hb
        clear hb Hb2
        go_wp2_with fail
        go_roundw
        case rel => exact ⟨j, j, k, seen + 1, m + m1, _, by omega, by omega, by omega, by omega, rfl, rfl, rfl, by go_num, rfl, Hb3.out, rfl⟩
        case measure => simp [intOf]
      · have hb := Hb2.out
        rw [if_neg h4, if_neg hm] at hb
        have Hb3 := Lib.hid hb
        clear hb Hb2
        go_wp2_with fail
        go_roundw
        case rel => exact ⟨j, at_, most, seen + 1, m + m1, _, by omega, by omega, by omega, by omega, rfl, rfl, rfl, by go_num, rfl, Hb3.out, rfl⟩
        case measure => simp [intOf]
/-- What longest gives: how far back, for how long. -/
def offOf (i : Nat) (r : Nat × Nat) : Int := if r.2 = 0 then 0 else (i : Int) - r.1
def two (l1 : Nat) (z1 z2 : Nat → Int) (i : Nat) : Int := if i < l1 then z1 i else z2 (i - l1)
theorem bestF_le (z : Nat → Int) (n i depth : Nat) : ∀ j at_ most seen, j ≤ i → at_ ≤ i → most ≤ n - i → (bestF z n i depth j at_ most seen).1 ≤ i ∧ (bestF z n i depth j at_ most seen).2 ≤ n - i
  | 0, at_, most, seen, _, h1, h2 => ⟨h1, h2⟩
  | j + 1, at_, most, seen, hj, h1, h2 => by
    unfold bestF
    split
    · exact ⟨h1, h2⟩
    · split
      · exact bestF_le z n i depth j at_ most seen (by omega) h1 h2
      · split
        · exact bestF_le z n i depth j j _ _ (by omega) (by omega) (lcp_le z n j i)
        · exact bestF_le z n i depth j at_ most _ (by omega) h1 h2
theorem best_le (z : Nat → Int) (n i depth : Nat) : (best z n i depth).1 ≤ i ∧ (best z n i depth).2 ≤ n - i := bestF_le z n i depth i 0 0 0 (Nat.le_refl _) (by omega) (by omega)

/-- Steps from a place on. -/
def parseF (z : Nat → Int) (n depth : Nat) : Nat → Nat → Nat → List (Int × Int × Int)
  | 0, _, _ => []
  | f + 1, lit, at_ =>
    if n < at_ + 4 then []
    else if (best z n at_ depth).2 = 0 then parseF z n depth f (lit + 1) (at_ + 1)
    else ((lit : Int), offOf at_ (best z n at_ depth), ((best z n at_ depth).2 : Int)) :: parseF z n depth f 0 (at_ + (best z n at_ depth).2)
theorem parseF_end (z : Nat → Int) (n depth f lit at_ : Nat) (h : n < at_ + 4) : parseF z n depth f lit at_ = [] := by
  cases f with
  | zero => rfl
  | succ f => rw [parseF, if_pos h]
/-- The steps of n bytes, the first p of which are a prefix. -/
def parse (z : Nat → Int) (n p depth : Nat) : List (Int × Int × Int) := parseF z n depth (n - p) 0 p

/-- A list of steps that a call gives. -/
structure Steps (w w' : World) (v : Value) (ps : List (Int × Int × Int)) : Prop where
  row : w'.ownsRow 0 42 3 v ps.length (recL ps)
  own : OwnB w.heap.size v
  touch : Touch (fun _ => False) w w'


set_option maxHeartbeats 2000000 in
theorem ref_parse (w : World) (a1 : Option Addr) (b1 o1 l1 c1 : Nat) (z1 : Nat → Int) (a2 : Option Addr) (b2 o2 l2 c2 : Nat) (z2 : Nat → Int) (h1 : Ints .u8 w a1 b1 o1 l1 z1) (h2 : Ints .u8 w a2 b2 o2 l2 z2) (depth : Nat)
    (hl1 : l1 ≤ 100000) (hl2 : l2 ≤ 100000) (hd0 : 1 ≤ depth) (hd : depth ≤ 1000) :
    Calls Try.prog 19 #[.slice a1 l1 c1, .slice a2 l2 c2, .int .i64 depth] w fun e w' => ∃ v, e = .returned v ∧ Steps w w' v (parse (two l1 z1 z2) (l1 + l2) l1 depth) := by
  obtain ⟨i0, hi, hz0, hz1, hz2⟩ := info_parts Try.info42c
  have H1 := Lib.hid h1
  have H2 := Lib.hid h2
  clear h1 h2
  obtain ⟨n, hn⟩ : ∃ n, l1 + l2 = n := ⟨_, rfl⟩
  obtain ⟨z, hz⟩ : ∃ z, two l1 z1 z2 = z := ⟨_, rfl⟩
  rw [hn, hz]
  have hn1 : l1 ≤ n := by omega
  have hn2 : n ≤ 200000 := by omega
  have Hn := Lib.hid hn
  have Hzz := Lib.hid hz
  clear hn hz
  go_enter Try.func19, Try.ntmps19
  obtain ⟨j0, hj, hj0, hj1, hj2⟩ := info_parts Try.info5c
  go_wp2_with (first
    | (refine wpList_append_mine rfl (.tmp 13) (.tmp 14) 28 28 rfl 5 j0 (.int .u8 0) 1 1 Try.underlying28 hj hj0 hj1 hj2 rfl (.slice (some ⟨w.heap.size, 0, none⟩) 0 0) 0 [] rfl (row_of_tab (m := 0) (F := fun _ => .int .u8 0) (heap_alloc_new _ _) (by unfold maxLen; omega)) _ l1 _ rfl (src_ints c1 Try.underlying28 (H1.out.touch (Touch.new w _))) (by unfold maxLen; omega) (by omega) ?_; intro a5 c5 w2 hown ht hf _; simp only [Nat.zero_add, List.nil_append] at hown hf ⊢; have t2 := own_app (Touch.new w _) (OwnB.here w 0) ht)
    | (refine wpList_append_mine rfl (.tmp 15) (.tmp 16) 28 28 rfl 5 j0 (.int .u8 0) 1 1 Try.underlying28 hj hj0 hj1 hj2 rfl (.slice a5 l1 c5) l1 _ rfl hown _ l2 _ rfl (src_ints c2 Try.underlying28 (H2.out.touch t2)) (by unfold maxLen; omega) (by omega) ?_; intro a6 c6 w3 hown3 ht3 hf3 _))
  have o5 := (OwnB.here w 0).fresh hf (Touch.new w _).size
  have T3 := Lib.hid (own_app t2 o5 ht3)
  rw [cellsZ_append] at hown3
  have hzz : (fun i => if i < l1 then z1 i else z2 (i - l1)) = z := Hzz.out
  rw [hzz, Hn.out] at hown3
  rw [Hn.out]
  obtain ⟨xa, xb, xc, hxv, hx⟩ := ints_row hown3
  simp at hxv
  obtain ⟨rfl, rfl⟩ := hxv
  have X := Lib.hid hx
  clear hown hown3 ht ht3 hf hf3 hx hzz t2 o5
  go_wp2_with fail
  go_loopw [8, 9, 10, 11, 12] (fun q x y _ _ wr => ∃ f lit at_ : Nat, ∃ ps : List (Int × Int × Int), at_ ≤ n ∧ lit ≤ at_ ∧ n ≤ at_ + f ∧ x = .int .i64 lit ∧ y = .int .i64 at_ ∧ ps ++ parseF z n depth f lit at_ = parse z n l1 depth ∧ ps.length ≤ at_ ∧
      wr.ownsRow 0 42 3 q ps.length (recL ps) ∧ OwnB w3.heap.size q ∧ Touch (fun _ => False) w3 wr) (fun _ _ y _ _ _ => n - (intOf y).toNat)
  case atStart => exact ⟨n - l1, 0, l1, [], hn1, by omega, by omega, rfl, rfl, rfl, by simp, World.ownsRow_nil _ _ _ _, OwnB.nil _, Touch.refl _ _⟩
  case round =>
    obtain ⟨f, lit, at_, ps, hat, hlit, hf, rfl, rfl, hps, hlen, hrow, hown, ht⟩ := hrel
    have Hrow := Lib.hid hrow
    have Hps := Lib.hid hps
    clear hrow hps
    by_cases hlt : n < at_ + 4
    · have hp := Hps.out
      rw [parseF_end _ _ _ _ _ _ hlt, List.append_nil] at hp
      have Hp := Lib.hid hp
      clear hp
      go_wp2_with fail
      go_ret
      exact ⟨_, rfl, ⟨by rw [← Hp.out]; exact Hrow.out, hown.mono T3.out.size, T3.out.trans ht⟩⟩
    · obtain ⟨f, rfl⟩ : ∃ g, f = g + 1 := ⟨f - 1, by omega⟩
      have hp := Hps.out
      rw [parseF, if_neg hlt] at hp
      obtain ⟨hb1, hb2⟩ := best_le z n at_ depth
      have Hl := Lib.hid (fun w h => best_walk a6 xb 0 n c6 z w h at_ depth hat (by omega) hd)
      obtain ⟨R, hR⟩ : ∃ R, best z n at_ depth = R := ⟨_, rfl⟩
      rw [hR] at Hl hp hb1 hb2
      obtain ⟨r1, r2⟩ := R
      simp only at hp hb1 hb2 Hl
      have Hp := Lib.hid hp
      clear hp hR Hps
      go_wp2_with fail
      refine (Hl.out _ (X.out.touch ht)).mono ?_
      rintro e w4 ⟨rfl, m, rfl⟩
      by_cases h0 : r2 = 0
      · have hp := Hp.out
        rw [if_pos h0] at hp
        have Hp2 := Lib.hid hp
        clear hp Hp
        subst h0
        go_wp2_with fail
        go_roundw
        case rel => exact ⟨f, lit + 1, at_ + 1, ps, by omega, by omega, by omega, by go_num, by go_num, Hp2.out, by omega, (Touch.eq_drewN (S := fun _ => False) wr m).row Hrow.out (fun _ _ => id), hown, ht.drewN m⟩
        case measure => simp [intOf]; omega
      · have hp := Hp.out
        rw [if_neg h0] at hp
        obtain ⟨o, ho⟩ : ∃ o, offOf at_ (r1, r2) = o := ⟨_, rfl⟩
        rw [ho] at hp
        have hoo : (at_ : Int) - r1 = o := by rw [← ho]; unfold offOf; rw [if_neg h0]
        have Hp2 := Lib.hid hp
        have hne : ((r2 : Int) == 0) = false := by simp; omega
        have Hrow2 := Lib.hid ((Touch.eq_drewN (S := fun _ => False) wr m).row Hrow.out (fun _ _ => id))
        clear hp Hp ho
        go_wp2_with (refine wpList_append_mine rfl (.tmp 38) (.tmp 45) 29 29 rfl 42 i0 (.agg #[.int .i64 0, .int .i64 0, .int .i64 0]) 3 24 Try.underlying29 hi hz0 hz1 hz2 rfl u8 _ _ rfl (row_heap Hrow2.out rfl) _ 1 [.int .i64 lit, .int .i64 o, .int .i64 r2] rfl (src_cells wr.heap.size Try.underlying29 [.int .i64 lit, .int .i64 o, .int .i64 r2] (by simp [Value.oneCell']) _ (heap_alloc_new (wr.drewN m) _)) (by unfold maxLen; omega) (by omega) ?_; intro a4 c4 w6 hown6 ht6 hf6 _)
        have t6 : Touch (fun k => u8.ownBlock = some k) (wr.drewN m) w6 := ((Touch.refl _ (wr.drewN m)).alloc _).trans ht6
        have T6 := own_app (ht.drewN m) hown t6
        have own6 := hown.fresh hf6 (Nat.le_trans ht.size ((Touch.refl (fun _ => False) _).alloc _).size)
        go_wp2_with fail
        go_roundw
        case rel => exact ⟨f, 0, at_ + r2, ps ++ [((lit : Int), o, (r2 : Int))], by omega, by omega, by omega, rfl, by go_num, by rw [List.append_assoc]; exact Hp2.out, by simp; omega, by rw [recL_snoc, List.length_append]; exact hown6, own6, T6⟩
        case measure => simp [intOf]; omega
end Go.Proofs.Ythnhacbagmhfoaa

/- seqs: the law SeqsParsed. -/
namespace Go.Proofs.Ythnhacbagmhfoaa
open Go.RowKit Go.WideShapes Go.Shelf Fs
set_option linter.unusedVariables false
set_option linter.unusedSimpArgs false
set_option maxRecDepth 100000

theorem bestF_is (z : Nat → Int) (n i depth : Nat) : ∀ j at_ most seen, j ≤ i → (most = 0 ∨ (4 ≤ most ∧ at_ < i ∧ most = lcp z n at_ i)) →
    (bestF z n i depth j at_ most seen).2 = 0 ∨ (4 ≤ (bestF z n i depth j at_ most seen).2 ∧ (bestF z n i depth j at_ most seen).1 < i ∧ (bestF z n i depth j at_ most seen).2 = lcp z n (bestF z n i depth j at_ most seen).1 i)
  | 0, at_, most, seen, _, h => h
  | j + 1, at_, most, seen, hj, h => by
    unfold bestF
    split
    · exact h
    · split
      · exact bestF_is z n i depth j at_ most seen (by omega) h
      · split
        · exact bestF_is z n i depth j j _ _ (by omega) (.inr ⟨by omega, by omega, rfl⟩)
        · exact bestF_is z n i depth j at_ most _ (by omega) h
theorem best_is (z : Nat → Int) (n i depth : Nat) : (best z n i depth).2 = 0 ∨ (4 ≤ (best z n i depth).2 ∧ (best z n i depth).1 < i ∧ (best z n i depth).2 = lcp z n (best z n i depth).1 i) :=
  bestF_is z n i depth i 0 0 0 (Nat.le_refl _) (.inl rfl)

/-- Steps that are long enough and reach back no further than there is something, from place at on; what they say is so. -/
def okSteps (z : Nat → Int) (n : Nat) : Nat → List (Int × Int × Int) → Prop
  | at_, [] => at_ ≤ n
  | at_, p :: r => ∃ L O M : Nat, p = ((L : Int), (O : Int), (M : Int)) ∧ 4 ≤ M ∧ at_ + L + M ≤ n ∧ 1 ≤ O ∧ O ≤ at_ + L ∧ (∀ t, t < M → z (at_ + L - O + t) = z (at_ + L + t)) ∧ okSteps z n (at_ + L + M) r
theorem parseF_ok (z : Nat → Int) (n depth : Nat) : ∀ f lit at_, lit ≤ at_ → at_ ≤ n → okSteps z n (at_ - lit) (parseF z n depth f lit at_)
  | 0, lit, at_, h, h2 => by show at_ - lit ≤ n; omega
  | f + 1, lit, at_, h, h2 => by
    unfold parseF
    split
    · show at_ - lit ≤ n; omega
    · split
      · have := parseF_ok z n depth f (lit + 1) (at_ + 1) (by omega) (by omega)
        rwa [show at_ + 1 - (lit + 1) = at_ - lit by omega] at this
      · rename_i h0 hne
        obtain ⟨hb1, hb2⟩ := best_le z n at_ depth
        rcases best_is z n at_ depth with e | ⟨e1, e2, e3⟩
        · exact absurd e hne
        · have hs : ∀ t, t < (best z n at_ depth).2 → z ((best z n at_ depth).1 + t) = z (at_ + t) := fun t ht =>
            lcp_same z (n - at_) (best z n at_ depth).1 at_ t (by have h3 : (best z n at_ depth).2 = lcpA z (n - at_) (best z n at_ depth).1 at_ := e3; omega)
          refine ⟨lit, at_ - (best z n at_ depth).1, (best z n at_ depth).2, ?_, e1, by omega, by omega, by omega, fun t ht => ?_, ?_⟩
          · unfold offOf
            rw [if_neg hne]
            congr 2
            omega
          · have := hs t ht
            rw [show at_ - lit + lit - (at_ - (best z n at_ depth).1) + t = (best z n at_ depth).1 + t by omega, show at_ - lit + lit + t = at_ + t by omega]
            exact this
          · have := parseF_ok z n depth f 0 (at_ + (best z n at_ depth).2) (by omega) (by omega)
            rw [show at_ - lit + lit + (best z n at_ depth).2 = at_ + (best z n at_ depth).2 - 0 by omega]
            exact this
theorem parse_ok (z : Nat → Int) (n p depth : Nat) (h : p ≤ n) : okSteps z n p (parse z n p depth) := by
  have := parseF_ok z n depth (n - p) 0 p (by omega) h
  rwa [Nat.sub_zero] at this

theorem parseF_length (z : Nat → Int) (n depth : Nat) : ∀ f lit at_, (parseF z n depth f lit at_).length ≤ f
  | 0, _, _ => Nat.le_refl _
  | f + 1, lit, at_ => by
    unfold parseF
    split
    · simp
    · split
      · have := parseF_length z n depth f (lit + 1) (at_ + 1); omega
      · have := parseF_length z n depth f 0 (at_ + (best z n at_ depth).2)
        simp; omega
theorem parse_len (z : Nat → Int) (n p depth : Nat) : (parse z n p depth).length ≤ n := Nat.le_trans (parseF_length z n depth _ _ _) (by omega)
theorem ok_bd {z : Nat → Int} {n : Nat} : ∀ {ps : List (Int × Int × Int)} {at_ : Nat}, okSteps z n at_ ps → ∀ p ∈ ps, 0 ≤ p.1 ∧ p.1 ≤ n ∧ 1 ≤ p.2.1 ∧ p.2.1 ≤ n ∧ 4 ≤ p.2.2 ∧ p.2.2 ≤ n
  | [], _, _, p, hp => absurd hp List.not_mem_nil
  | q :: r, at_, h, p, hp => by
    obtain ⟨L, O, M, rfl, h1, h2, h3, h4, _, h5⟩ := h
    rcases List.mem_cons.1 hp with rfl | hp
    · simp only; omega
    · exact ok_bd h5 p hp
/-- A list of steps as numbers. -/
def zPs (ps : List (Int × Int × Int)) (i j : Nat) : Int := if j = 0 then (ps.getD i (0, 0, 0)).1 else if j = 1 then (ps.getD i (0, 0, 0)).2.1 else if j = 2 then (ps.getD i (0, 0, 0)).2.2 else 0
theorem trip_ps (ps : List (Int × Int × Int)) : trip (zPs ps) ps.length = ps := by
  apply List.ext_getElem?
  intro i
  by_cases h : i < ps.length
  · rw [trip_get h]
    simp [zPs, h]
  · rw [List.getElem?_eq_none (by rw [trip_len]; omega), List.getElem?_eq_none (by omega)]
theorem zPs_bd {z : Nat → Int} {n : Nat} {ps : List (Int × Int × Int)} {at_ : Nat} (h : okSteps z n at_ ps) (hn : n ≤ 500) (i j : Nat) : (Lit.int .i64 (zPs ps i j)).wf = true := by
  have hb : -1 ≤ (ps.getD i (0, 0, 0)).1 ∧ (ps.getD i (0, 0, 0)).1 ≤ 500 ∧ -1 ≤ (ps.getD i (0, 0, 0)).2.1 ∧ (ps.getD i (0, 0, 0)).2.1 ≤ 500 ∧ -1 ≤ (ps.getD i (0, 0, 0)).2.2 ∧ (ps.getD i (0, 0, 0)).2.2 ≤ 500 := by
    by_cases hi : i < ps.length
    · have := ok_bd h (ps[i]) (List.getElem_mem hi)
      simp only [List.getD_eq_getElem?_getD, List.getElem?_eq_getElem hi, Option.getD_some]
      omega
    · simp only [List.getD_eq_getElem?_getD, List.getElem?_eq_none (by omega : ps.length ≤ i), Option.getD_none]
      decide
  unfold zPs
  split
  · exact wf_of (by omega) (by omega)
  · split
    · exact wf_of (by omega) (by omega)
    · split
      · exact wf_of (by omega) (by omega)
      · exact wf_of (by decide) (by decide)
theorem zPs_ok {z : Nat → Int} {n : Nat} {ps : List (Int × Int × Int)} {at_ : Nat} (h : okSteps z n at_ ps) (hn : n ≤ 500) (hl : ps.length ≤ 500) : packOk (zPs ps) ps.length = true := by
  unfold packOk
  rw [decide_eq_true hl, Bool.true_and, allM_iff]
  intro i hi
  rw [may_iff]
  have := ok_bd h (ps[i]) (List.getElem_mem hi)
  simp only [zPs, List.getD_eq_getElem?_getD, List.getElem?_eq_getElem hi, Option.getD_some, if_true]
  simp
  omega
theorem unp_packed {z : Nat → Nat → Int} {h : H3} {n : Nat} (hp : packOk z n = true) : unpN (packB z h n) h = n ∧ unpH (packB z h n) h = packH z h n ∧ unpS (packB z h n) h = (packB z h n).length ∧ (unpQ (packB z h n) h).isSome = true ∧ Agree z (qz (packB z h n) h) n := by
  obtain ⟨hq, ha⟩ := unp_back (h := h) hp (List.prefix_refl _)
  unfold unpN unpH unpS packH
  rw [hq, if_pos hp]
  refine ⟨rfl, hist_congr3 ha, ?_, rfl, fun i hi j hj => (ha i hi j hj).symm⟩
  show (packB (qz (packB z h n) h) h n).length = _
  rw [packB_congr ha]
set_option maxHeartbeats 8000000 in
theorem SeqsParsed_in (w : World) (a0 : Option Addr) (b0 o0 l0 c0 : Nat) (z0 : Nat → Int) (w0 : IntsIn .u8 w a0 b0 o0 l0 c0 z0) (a1 : Option Addr) (b1 o1 l1 c1 : Nat) (z1 : Nat → Int) (w1 : IntsIn .u8 w a1 b1 o1 l1 c1 z1) (hl0 : l0 ≤ 200) (hl1 : l1 ≤ 300) :
    Calls Try.prog 4 #[.slice a0 l0 c0, .slice a1 l1 c1] w fun e w' => e = .returned (.bool true) ∧ Below w.heap.size w w' := by
  have hd0 : decide ((200 : Int) < l0) = false := decide_eq_false (by omega)
  have hd1 : decide ((300 : Int) < l1) = false := decide_eq_false (by omega)
  have HPR := Lib.hid (ref_parse w a0 b0 o0 l0 c0 z0 a1 b1 o1 l1 c1 z1 (ints_of w0) (ints_of w1) 8 (by omega) (by omega) (by decide) (by decide))
  have hok := parse_ok (two l0 z0 z1) (l0 + l1) l0 8 (by omega)
  have hpl := parse_len (two l0 z0 z1) (l0 + l1) l0 8
  obtain ⟨ps, hps⟩ : ∃ ps, parse (two l0 z0 z1) (l0 + l1) l0 8 = ps := ⟨_, rfl⟩
  rw [hps] at HPR hok hpl
  have hpk := zPs_ok hok (by omega) (by omega)
  have hwz := zPs_bd hok (by omega)
  have hlp : ps.length ≤ 500 := by omega
  have HLP := Lib.hid hlp
  have HWZ := Lib.hid hwz
  have HPK := Lib.hid hpk
  have hwf : WfH ⟨1, 4, 8⟩ := ⟨by decide, by decide, by decide⟩
  have HWF := Lib.hid hwf
  clear w0 w1 hok hpl hps hpk hwz hlp hwf hl0 hl1
  go_enter Try.func4, Try.ntmps4
  go_wp2_with fail
  refine HPR.out.mono ?_
  rintro e w2 ⟨v, rfl, hst⟩
  have hrow := hst.row
  have htr := trip_ps ps
  obtain ⟨n, hn⟩ : ∃ n, ps.length = n := ⟨_, rfl⟩
  rw [hn] at hrow htr HLP HPK
  rw [← htr] at hrow
  obtain ⟨al, bl, cl, rfl, hrec, _⟩ := recs_of hrow HWZ.out
  obtain ⟨zz, hzz⟩ : ∃ zz, zPs ps = zz := ⟨_, rfl⟩
  rw [hzz] at hrec HPK
  have HREC := Lib.hid hrec
  have T2 := Lib.hid hst.touch
  clear hst hrow htr hn hzz hrec HWZ
  go_wp2_with fail
  refine (begin_walk _).mono ?_
  rintro e w3 ⟨rfl, t3⟩
  have T3 := Lib.hid (T2.out.trans t3)
  have HREC3 := Lib.hid (recs_touch HREC.out t3)
  have HPW := Lib.hid (pack_walk w3 al bl 0 n cl zz (recs_touch HREC.out t3) ⟨1, 4, 8⟩ (Nat.le_trans HLP.out (by decide)))
  unfold H3.val at HPW
  clear t3
  go_wp2_with fail
  refine HPW.out.mono ?_
  intro e w4 hp
  obtain ⟨a, b, c, rfl, hb, hc, hblk, ht⟩ := pack_out2 hp
  have hLe : packL zz ⟨1, 4, 8⟩ n = packB zz ⟨1, 4, 8⟩ n := by unfold packL; rw [if_pos HPK.out]
  have h256 := pack_256 (h := ⟨1, 4, 8⟩) HPK.out
  have hle := (pack_le (h := ⟨1, 4, 8⟩) HPK.out).2
  obtain ⟨u1, u2, u3, u4, u5⟩ := unp_packed (h := ⟨1, 4, 8⟩) HPK.out
  rw [HPK.out]
  rw [hLe] at hb hc hblk ⊢
  obtain ⟨H2, hH2⟩ : ∃ H2, packH zz ⟨1, 4, 8⟩ n = H2 := ⟨_, rfl⟩
  rw [hH2] at u2 ⊢
  obtain ⟨L, hL⟩ : ∃ L, packB zz ⟨1, 4, 8⟩ n = L := ⟨_, rfl⟩
  rw [hL] at hb hc hblk h256 hle u1 u2 u3 u4 u5 ⊢
  have tn := Touch.new w4 (.cells #[.int .i64 H2.a, .int .i64 H2.b, .int .i64 H2.c] 31)
  have T5 := Lib.hid ((T3.out.trans ht).trans tn)
  have HP7 := Lib.hid (arr_new w4 H2)
  have HREC5 := Lib.hid (recs_touch (recs_touch HREC3.out ht) tn)
  have HUP := Lib.hid (fun W (tw : Touch (fun _ => False) (w4.alloc (.cells #[.int .i64 H2.a, .int .i64 H2.b, .int .i64 H2.c] 31)) W) => punp_walk W a b 0 c L ⟨1, 4, 8⟩ HWF.out ((hb.touch tn).touch tw) hc (fun hp => Nat.lt_of_lt_of_le (hblk hp).1 (Nat.le_trans tn.size tw.size)) h256 hle)
  have HUU := Lib.hid (And.intro u1 (And.intro u2 (And.intro u3 (And.intro u4 u5))))
  obtain ⟨nl, hnl⟩ : ∃ n, L.length = n := ⟨_, rfl⟩
  rw [hnl] at HUP HUU ⊢
  unfold H3.val at HUP
  clear hp hb hc hblk ht tn hLe h256 hle hH2 hL hnl u1 u2 u3 u4 u5 HPW HREC HREC3
  unfold H3.val arr3
  go_wp2_with fail
  refine (begin_walk _).mono ?_
  rintro e w5 ⟨rfl, t5⟩
  have T55 := Lib.hid (T5.out.trans t5)
  have TT5 := Lib.hid t5
  have HP75 := Lib.hid (HP7.out.touch t5 id)
  have HREC55 := Lib.hid (recs_touch HREC5.out t5)
  clear t5
  go_wp2_with fail
  refine (HUP.out _ TT5.out).mono ?_
  intro e w6 hp
  obtain ⟨ap, bp, cp, rfl, hrp, tp⟩ := unp_out HWF.out hp
  obtain ⟨u1, u2, u3, u4, u5⟩ := HUU.out
  rw [u1] at hrp
  rw [u1, u2, u3, u4]
  have tn := Touch.new w6 (.cells #[.int .i64 H2.a, .int .i64 H2.b, .int .i64 H2.c] 31)
  have T7 := Lib.hid ((T55.out.trans tp).trans tn)
  have HP10 := Lib.hid (arr_new w6 H2)
  have hP7 := (HP75.out.touch tp id).touch tn id
  have HP77 := Lib.hid hP7
  have HRP := Lib.hid (recs_touch hrp tn)
  have HREC7 := Lib.hid (recs_touch (recs_touch HREC55.out tp) tn)
  have HAG := Lib.hid u5
  have heq := fun w => eq31 H2.a H2.b H2.c H2.a H2.b H2.c w
  obtain ⟨x0, x1, x2⟩ := hP7.cells
  obtain ⟨v0, v1, v2⟩ := HP10.out.cells
  clear hp hrp tp tn u1 u2 u3 u4 u5 hP7
  unfold H3.val arr3
  go_wp2_with fail
  refine (sameS_walk al bl 0 cl ap bp 0 cp n zz (qz L ⟨1, 4, 8⟩) _ HREC7.out HRP.out HAG.out HLP.out).mono ?_
  rintro e w8 ⟨rfl, m, rfl⟩
  have tm := Touch.eq_drewN (S := fun _ => False) (w6.alloc (.cells #[.int .i64 H2.a, .int .i64 H2.b, .int .i64 H2.c] 31)) m
  have T8 := Lib.hid (T7.out.trans tm)
  clear tm
  go_wp2_with fail
  refine (known_walk _).mono ?_
  rintro e w9 ⟨rfl, t9⟩
  have T9 := Lib.hid (T8.out.trans t9)
  clear t9
  go_wp2_with fail
  try go_ret
  exact ⟨rfl, T9.out.owned⟩
theorem SeqsParsed_law (w : World) (a0 : Option Addr) (b0 o0 l0 c0 : Nat) (z0 : Nat → Int) (w0 : IntsIn .u8 w a0 b0 o0 l0 c0 z0) (a1 : Option Addr) (b1 o1 l1 c1 : Nat) (z1 : Nat → Int) (w1 : IntsIn .u8 w a1 b1 o1 l1 c1 z1) :
    Calls Try.prog 4 #[.slice a0 l0 c0, .slice a1 l1 c1] w fun e w' => e = .returned (.bool true) ∧ Below w.heap.size w w' := by
  by_cases h0 : 200 < l0
  · have hd0 : decide ((200 : Int) < l0) = true := decide_eq_true (by omega)
    go_enter Try.func4, Try.ntmps4
    go_wp2_with fail
    try go_ret
    exact ⟨rfl, (Touch.refl _ w).owned⟩
  have hd0 : decide ((200 : Int) < l0) = false := decide_eq_false (by omega)
  by_cases h1 : 300 < l1
  · have hd1 : decide ((300 : Int) < l1) = true := decide_eq_true (by omega)
    go_enter Try.func4, Try.ntmps4
    go_wp2_with fail
    try go_ret
    exact ⟨rfl, (Touch.refl _ w).owned⟩
  exact SeqsParsed_in w a0 b0 o0 l0 c0 z0 w0 a1 b1 o1 l1 c1 z1 w1 (by omega) (by omega)
end Go.Proofs.Ythnhacbagmhfoaa
