/- match: longest. -/
import Derived.Test.YtmhmbepohcapnaaB
import Derived.WalkMore
namespace Go.Proofs.Ytmhmbepohcapnaa
open Go.RowKit Go.WideShapes
set_option linter.unusedVariables false
set_option maxRecDepth 100000

/-- What longest gives: how far back, for how long. -/
def offOf (i : Nat) (r : Nat × Nat) : Int := if r.2 = 0 then 0 else (i : Int) - r.1

set_option maxHeartbeats 4000000 in
theorem longest_walk (a : Option Addr) (b off n c : Nat) (z : Nat → Int) (w : World) (h : Ints .u8 w a b off n z) (i depth : Nat) (hin : i ≤ n) (hn : n ≤ 1000000) (hd : depth ≤ 1000) (hd0 : 1 ≤ depth) :
    Calls Try.prog 21 #[.slice a n c, .int .i64 i, .int .i64 depth] w fun e w' => e = .returned (.tuple #[.int .i64 (offOf i (best z n i depth)), .int .i64 (best z n i depth).2]) ∧ ∃ m, w' = w.drewN m := by
  have H := Lib.hid h
  clear h
  obtain ⟨R, hR⟩ : ∃ R, best z n i depth = R := ⟨_, rfl⟩
  rw [hR]
  have HR := Lib.hid hR
  clear hR
  go_enter Try.func21, Try.ntmps21
  go_wp2_with fail
  go_step3
  go_wp2_with fail
  go_step3
  go_wp2_with fail
  go_loopw [6, 7, 8, 9, 10] (fun x y s v _ wr => ∃ j at_ most seen m : Nat, ∃ jj o : Int, j ≤ i ∧ at_ ≤ i ∧ most ≤ n ∧ seen ≤ i - j ∧ seen < depth ∧ jj = (j : Int) - 1 ∧ o = offOf i (at_, most) ∧ x = .int .i64 o ∧ y = .int .i64 most ∧ s = .int .i64 seen ∧ v = .int .i64 jj ∧ bestF z n i depth j at_ most seen = R ∧ wr = w.drewN m) (fun _ _ _ v _ _ => (intOf v + 1).toNat)
  case atStart => exact ⟨i, 0, 0, 0, 0, _, 0, by omega, by omega, by omega, by omega, by omega, rfl, rfl, rfl, rfl, rfl, rfl, HR.out, rfl⟩
  case round =>
    obtain ⟨j, at_, most, seen, m, jj, o, hj, hat, hmost, hseen, hsd, hjj, ho, rfl, rfl, rfl, rfl, hb, rfl⟩ := hrel
    have Hb := Lib.hid hb
    have Ho := Lib.hid ho
    clear hb ho
    by_cases h0 : j = 0
    · have hj1 : jj = -1 := by omega
      clear hjj
      subst hj1 h0
      have hr : R = (at_, most) := by rw [← Hb.out]; rfl
      have Hr := Lib.hid hr
      clear hr
      go_wp2_with fail
      try rw [Exit.noGoto_ret]
      go_ret2
      exact ⟨by rw [Hr.out, ← Ho.out]; rfl, m, rfl⟩
    obtain ⟨j, rfl⟩ : ∃ q, j = q + 1 := ⟨j - 1, by omega⟩
    have hj1 : jj = j := by omega
    clear hjj h0
    subst hj1
    go_wp2_with fail
    go_loopw [10] (fun v wr => ∃ k m : Nat, i + k ≤ n ∧ v = .int .i64 k ∧ (∀ t, t < k → z (j + t) = z (i + t)) ∧ wr = w.drewN m) (fun v _ => n - (intOf v).toNat)
    case atStart => exact ⟨0, m, by omega, rfl, fun t ht => by omega, rfl⟩
    case round =>
      obtain ⟨k, m, hk, rfl, hs, rfl⟩ := hrel
      have Hs := Lib.hid hs
      clear hs
      have f1 : IntKind.i64.wrap ((i : Int) + (k : Int)) = (i : Int) + k := IntWalk.i64_in _ (by omega)
      have f2 : IntKind.i64.wrap ((j : Int) + (k : Int)) = (j : Int) + k := IntWalk.i64_in _ (by omega)
      have f3 : (0 : Int) ≤ (i : Int) + k := by omega
      have f4 : (0 : Int) ≤ (j : Int) + k := by omega
      have f5 : ((i : Int) + (k : Int)).toNat = i + k := by omega
      have f6 : ((j : Int) + (k : Int)).toNat = j + k := by omega
      by_cases he : i + k < n ∧ z (j + k) = z (i + k)
      · obtain ⟨hlt, he⟩ := he
        obtain rfl := H.out.at_ (by omega)
        have g1 : (i : Int) + k < n := by omega
        have g2 : (j : Int) + k < n := by omega
        have e1 : ∀ m, (w.drewN m).cell? ⟨b, off + (j + k), none⟩ = some (.int .u8 (z (j + k))) := fun m => (Touch.eq_drewN (S := fun _ => False) w m).cell (H.out.cell _ (by omega)) id
        have e2 : ∀ m, (w.drewN m).cell? ⟨b, off + (i + k), none⟩ = some (.int .u8 (z (i + k))) := fun m => (Touch.eq_drewN (S := fun _ => False) w m).cell (H.out.cell _ (by omega)) id
        have hb : (z (j + k) == z (i + k)) = true := by simpa using he
        have hb' : (z (j + k) != z (i + k)) = false := by simpa using he
        have He := Lib.hid he
        clear he
        go_wp2_with fail
        go_quiet (fail)
        go_wp2_with fail
        go_roundw
        case rel => exact ⟨k + 1, _, by omega, by go_num, fun t ht => by
          by_cases e : t = k
          · subst e; exact He.out
          · exact Hs.out t (by omega), rfl⟩
        case measure => simp [intOf]; omega
      · have hl : lcp z n j i = k := by
          by_cases hlt : i + k < n
          · exact lcp_stop hlt Hs.out (fun e => he ⟨hlt, e⟩)
          · exact lcp_end (by omega) Hs.out
        have hb := Hb.out
        rw [bestF, if_neg (by omega), hl] at hb
        clear hl
        have hcase : (k < 4 ∧ bestF z n i depth j at_ most seen = R) ∨ (4 ≤ k ∧ most < k ∧ bestF z n i depth j j k (seen + 1) = R) ∨ (4 ≤ k ∧ ¬ most < k ∧ bestF z n i depth j at_ most (seen + 1) = R) := by
          by_cases h4 : k < 4
          · rw [if_pos h4] at hb; exact .inl ⟨h4, hb⟩
          · rw [if_neg h4] at hb
            by_cases hm : most < k
            · rw [if_pos hm] at hb; exact .inr (.inl ⟨by omega, hm, hb⟩)
            · rw [if_neg hm] at hb; exact .inr (.inr ⟨by omega, hm, hb⟩)
        clear hb Hb
        have hstop : (i + k < n ∧ z (j + k) ≠ z (i + k)) ∨ i + k = n := by
          by_cases hlt : i + k < n
          · exact .inl ⟨hlt, fun e => he ⟨hlt, e⟩⟩
          · exact .inr (by omega)
        clear he
        have hkn : k ≤ n := by omega
        rcases hstop with ⟨hlt, hne⟩ | hend
        · obtain rfl := H.out.at_ (by omega)
          have g1 : (i : Int) + k < n := by omega
          have g2 : (j : Int) + k < n := by omega
          have e1 : ∀ m, (w.drewN m).cell? ⟨b, off + (j + k), none⟩ = some (.int .u8 (z (j + k))) := fun m => (Touch.eq_drewN (S := fun _ => False) w m).cell (H.out.cell _ (by omega)) id
          have e2 : ∀ m, (w.drewN m).cell? ⟨b, off + (i + k), none⟩ = some (.int .u8 (z (i + k))) := fun m => (Touch.eq_drewN (S := fun _ => False) w m).cell (H.out.cell _ (by omega)) id
          have hb : (z (j + k) == z (i + k)) = false := by simpa using hne
          have hb' : (z (j + k) != z (i + k)) = true := by simpa using hne
          clear hne
          rcases hcase with ⟨h4, hr⟩ | ⟨h4, hm, hr⟩ | ⟨h4, hm, hr⟩
          · have Hr := Lib.hid hr
            clear hr
            go_wp2_with fail
            go_quiet (fail)
            go_wp2_with fail
            go_roundw
            case rel => exact ⟨j, at_, most, seen, m + nq, _, o, by omega, by omega, by omega, by omega, by omega, rfl, Ho.out, rfl, rfl, rfl, rfl, Hr.out, rfl⟩
            case measure => simp [intOf]
          · have hq : offOf i (j, k) = (i : Int) - j := by unfold offOf; rw [if_neg (by simp only; omega)]
            by_cases hs : seen + 1 = depth
            · have hs' : ((seen : Int) + 1 == depth) = true := by simp; omega
              have hR : R = (j, k) := by rw [← hr]; exact bestF_full _ _ _ _ _ _ _ _ (by omega)
              have HR2 := Lib.hid hR
              have Hq := Lib.hid hq
              clear hr hR hq
              go_wp2_with fail
              go_quiet (fail)
              go_wp2_with fail
              try rw [Exit.noGoto_ret]
              go_ret2
              exact ⟨by rw [HR2.out, Hq.out]; rfl, m + nq, rfl⟩
            · have hs' : ((seen : Int) + 1 == depth) = false := by simp; omega
              have Hr := Lib.hid hr
              have Hq := Lib.hid hq
              clear hr hq
              go_wp2_with fail
              go_quiet (fail)
              go_wp2_with fail
              go_roundw
              case rel => exact ⟨j, j, k, seen + 1, m + nq, _, _, by omega, by omega, by omega, by omega, by omega, rfl, Hq.out.symm, rfl, rfl, by go_num, rfl, Hr.out, rfl⟩
              case measure => simp [intOf]
          · by_cases hs : seen + 1 = depth
            · have hs' : ((seen : Int) + 1 == depth) = true := by simp; omega
              have hR : R = (at_, most) := by rw [← hr]; exact bestF_full _ _ _ _ _ _ _ _ (by omega)
              have HR2 := Lib.hid hR
              clear hr hR
              go_wp2_with fail
              go_quiet (fail)
              go_wp2_with fail
              try rw [Exit.noGoto_ret]
              go_ret2
              exact ⟨by rw [HR2.out, ← Ho.out]; rfl, m + nq, rfl⟩
            · have hs' : ((seen : Int) + 1 == depth) = false := by simp; omega
              have Hr := Lib.hid hr
              clear hr
              go_wp2_with fail
              go_quiet (fail)
              go_wp2_with fail
              go_roundw
              case rel => exact ⟨j, at_, most, seen + 1, m + nq, _, o, by omega, by omega, by omega, by omega, by omega, rfl, Ho.out, rfl, rfl, by go_num, rfl, Hr.out, rfl⟩
              case measure => simp [intOf]
        · have g1 : ¬ ((i : Int) + k < n) := by omega
          have g2 : decide ((i : Int) + (k : Int) < (n : Int)) = false := by simpa using g1
          rcases hcase with ⟨h4, hr⟩ | ⟨h4, hm, hr⟩ | ⟨h4, hm, hr⟩
          · have Hr := Lib.hid hr
            clear hr
            go_wp2_with fail
            go_roundw
            case rel => exact ⟨j, at_, most, seen, m, _, o, by omega, by omega, by omega, by omega, by omega, rfl, Ho.out, rfl, rfl, rfl, rfl, Hr.out, rfl⟩
            case measure => simp [intOf]
          · have hq : offOf i (j, k) = (i : Int) - j := by unfold offOf; rw [if_neg (by simp only; omega)]
            by_cases hs : seen + 1 = depth
            · have hs' : ((seen : Int) + 1 == depth) = true := by simp; omega
              have hR : R = (j, k) := by rw [← hr]; exact bestF_full _ _ _ _ _ _ _ _ (by omega)
              have HR2 := Lib.hid hR
              have Hq := Lib.hid hq
              clear hr hR hq
              go_wp2_with fail
              try rw [Exit.noGoto_ret]
              go_ret2
              exact ⟨by rw [HR2.out, Hq.out]; rfl, m, rfl⟩
            · have hs' : ((seen : Int) + 1 == depth) = false := by simp; omega
              have Hr := Lib.hid hr
              have Hq := Lib.hid hq
              clear hr hq
              go_wp2_with fail
              go_roundw
              case rel => exact ⟨j, j, k, seen + 1, m, _, _, by omega, by omega, by omega, by omega, by omega, rfl, Hq.out.symm, rfl, rfl, by go_num, rfl, Hr.out, rfl⟩
              case measure => simp [intOf]
          · by_cases hs : seen + 1 = depth
            · have hs' : ((seen : Int) + 1 == depth) = true := by simp; omega
              have hR : R = (at_, most) := by rw [← hr]; exact bestF_full _ _ _ _ _ _ _ _ (by omega)
              have HR2 := Lib.hid hR
              clear hr hR
              go_wp2_with fail
              try rw [Exit.noGoto_ret]
              go_ret2
              exact ⟨by rw [HR2.out, ← Ho.out]; rfl, m, rfl⟩
            · have hs' : ((seen : Int) + 1 == depth) = false := by simp; omega
              have Hr := Lib.hid hr
              clear hr
              go_wp2_with fail
              go_roundw
              case rel => exact ⟨j, at_, most, seen + 1, m, _, o, by omega, by omega, by omega, by omega, by omega, rfl, Ho.out, rfl, rfl, by go_num, rfl, Hr.out, rfl⟩
              case measure => simp [intOf]
end Go.Proofs.Ytmhmbepohcapnaa
