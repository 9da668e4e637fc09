/- What the document's Best tells. -/
import Derived.Test.YtcjklghjnbhcdaaWRefB
import Derived.Test.YtcjklghjnbhcdaaWTlbBest
namespace Go.Proofs.Ytcjklghjnbhcdaa
open Go.RowKit
attribute [local go_sem ↓] Go.wp_at_zero Go.wp_at_succ

open Classical in
/-- Best of any row: of one that may not be, none. -/
noncomputable def bestR (a q : Int) (l : List S) : S := if Chk mostS S.may S.same l then bestL a q l else ⟨0, 0, 0, 0⟩

/-- The document's world: b the best so far. -/
abbrev rbestW (w : World) (b : S) : World :=
  (w.alloc (.cells #[.int .i64 0, .int .i8 0, .int .u64 0, .int .i64 0] 54)).alloc (.cells #[b.c0, b.c1, b.c2, b.c3] 54)

set_option maxHeartbeats 2000000 in
theorem rbest_no (l : List S) (v : Value) (a q : Int) (w : World) (hv : Has S.enc w v l) (hmx : l.length ≤ 1000) (hn : ¬ Chk mostS S.may S.same l) :
    Calls Try.prog 36 #[v, .int .i64 a, .int .u64 q] w fun e w' => e = .returned (.tuple #[stp 0 0 0 0, .bool false]) ∧ ∃ x, w' = ext w x := by
  have HV := Lib.hid hv
  have he := chk_no hn
  have hl0 : l ≠ [] := fun h => by subst h; exact hn ⟨by simp, fun i x h => by simp at h⟩
  clear hn
  rcases hv with ⟨h, _⟩ | ⟨_, b, o, cap, rfl, hcap, hb, hR⟩
  · exact (hl0 h).elim
  · have hpos : (0 : Int) < (l.length : Int) := by have := List.length_pos_iff.2 hl0; omega
    have HM := Lib.hid hmx; clear hmx
    clear hR hb hl0
    go_enter Try.func36, Try.ntmps36
    go_wp2_with fail
    go_loopw [9, 10] (fun s k wr => s = .bool false ∧ k = .int .i64 0 ∧ ∃ y, wr = ext (rbestW w ⟨0, 0, 0, 0⟩) y) (fun _ _ _ => 0)
    case atStart => exact ⟨rfl, rfl, up_to⟩
    case round =>
      obtain ⟨rfl, rfl, y, rfl⟩ := hrel
      go_wp2_with (go_at_call 35; with_reducible refine (rcheck_any l _ _ (HV.out.below up_below) HM.out 2 he).mono ?_; rintro e w' ⟨rfl, z, rfl⟩)
      exact bodyPost_ret (v := .tuple #[stp 0 0 0 0, .bool false]) (by simp [results, Try.results36, go_sem]) rfl ⟨rfl, up_to⟩

set_option maxHeartbeats 4000000 in
theorem rbest_yes (l : List S) (v : Value) (a q : Int) (w : World) (hv : Has S.enc w v l) (hc : Chk mostS S.may S.same l) (r : S) (hr : bestL a q l = r) :
    Calls Try.prog 36 #[v, .int .i64 a, .int .u64 q] w fun e w' => e = .returned (.tuple #[r.v, .bool (decide (0 < r.l))]) ∧ ∃ x, w' = ext w x := by
  have he := chk_yes hc
  have HC := Lib.hid hc; clear hc
  have HR := Lib.hid hr; clear hr
  have HV := Lib.hid hv
  have hmx : l.length ≤ 1000 := by have := HC.out.1; simp only [mostS] at this; omega
  have HM := Lib.hid hmx; clear hmx
  rcases hv with ⟨rfl, hv⟩ | ⟨hl0, b, o, cap, rfl, hcap, hb, hR⟩
  · have h1 : r = ⟨0, 0, 0, 0⟩ := HR.out.symm
    subst h1
    clear HR HC
    rcases hv with rfl | ⟨ad, cap, rfl⟩
    all_goals
      go_enter Try.func36, Try.ntmps36
      go_wp2_with fail
      go_loopw [9, 10] (fun s k wr => s = .bool false ∧ k = .int .i64 0 ∧ ∃ y, wr = ext (rbestW w ⟨0, 0, 0, 0⟩) y) (fun _ _ _ => 0)
      case atStart => exact ⟨rfl, rfl, up_to⟩
      case round =>
        obtain ⟨rfl, rfl, y, rfl⟩ := hrel
        go_wp2_with fail
        exact bodyPost_ret (v := .tuple #[stp 0 0 0 0, .bool false]) (by simp [results, Try.results36, go_sem]) rfl ⟨rfl, up_to⟩
  · have HRA := Lib.hid hR; clear hR
    have hl4 : (l.length : Int) ≤ 4 := by have := HC.out.1; simp only [mostS] at this; omega
    haveI : LtW b w := ⟨hb⟩
    go_enter Try.func36, Try.ntmps36
    go_wp2_with fail
    go_loopw [9, 10] (fun s k wr => ∃ j : Nat, j ≤ l.length ∧ s = .bool (decide (0 < (bestL a q (l.take j)).l)) ∧ k = .int .i64 (j : Int) ∧ ∃ y, wr = ext (rbestW w (bestL a q (l.take j))) y) (fun _ k _ => (l.length - intOf k).toNat)
    case atStart => exact ⟨0, by omega, rfl, by simp, (show ∃ y, _ = ext (rbestW w ⟨0, 0, 0, 0⟩) y from up_to)⟩
    case round =>
      obtain ⟨j, hj, rfl, rfl, y, rfl⟩ := hrel
      by_cases hlt : j < l.length
      · obtain ⟨x, hx⟩ : ∃ x, l[j]? = some x := ⟨_, List.getElem?_eq_getElem hlt⟩
        have c0 : w.cell? ⟨b, o + j * 4, none⟩ = some x.c0 := HRA.out j x hx 0 _ rfl
        have c1 : w.cell? ⟨b, o + j * 4 + 1, none⟩ = some x.c1 := HRA.out j x hx 1 _ rfl
        have c2 : w.cell? ⟨b, o + j * 4 + 2, none⟩ = some x.c2 := HRA.out j x hx 2 _ rfl
        have c3 : w.cell? ⟨b, o + j * 4 + 3, none⟩ = some x.c3 := HRA.out j x hx 3 _ rfl
        have hsu := bestL_succ a q l j x hx
        have hlev := may_lev ((HC.out.2 j x hx).1)
        generalize bestL a q (l.take j) = B at hsu ⊢
        obtain ⟨fb, hfb⟩ : ∃ fb, decide (0 < B.l) = fb := ⟨_, rfl⟩
        rw [hfb]
        obtain ⟨bv, hbv⟩ : ∃ bv, begV q x.l = bv := ⟨_, rfl⟩
        have hm : ((x.a == a) = false ∧ better a q B x = false) ∨ ((x.a == a) = true ∧ (bv == x.p) = false ∧ better a q B x = false) ∨ ((x.a == a) = true ∧ (bv == x.p) = true ∧ fb = false ∧ better a q B x = true) ∨ ((x.a == a) = true ∧ (bv == x.p) = true ∧ fb = true ∧ decide (B.l < x.l) = better a q B x) := by
          rw [better, hbv]
          cases h1 : (x.a == a) <;> cases h2 : (bv == x.p) <;> simp
          cases fb
          · simp at hfb ⊢; omega
          · simp
        have hfx : decide (0 < x.l) = true := by simp; omega
        have HFX := Lib.hid hfx; clear hfx
        have HFB := Lib.hid hfb; clear hfb
        obtain ⟨xa, xl, xp, xf⟩ := x
        obtain ⟨Ba, Bl, Bp, Bf⟩ := B
        simp only at hlev hbv hm c0 c1 c2 c3
        rcases hm with ⟨h1, hb0⟩ | ⟨h1, h2, hb0⟩ | ⟨h1, h2, rfl, hb0⟩ | ⟨h1, h2, rfl, h4⟩
        · have hsu2 : bestL a q (l.take (j + 1)) = ⟨Ba, Bl, Bp, Bf⟩ := by rw [hsu, hb0]; rfl
          have HSU := Lib.hid hsu2; clear hsu hsu2
          clear hb0
          go_wp2_with (go_at_call 35; with_reducible refine (rcheck_any l _ _ (HV.out.below up_below) HM.out 0 he).mono ?_; rintro e w' ⟨rfl, z, rfl⟩)
          refine wp_region_ext_lit (by kernel_rfl) (by kernel_rfl) ?_
          repeat (go_big_quiet_step ((go_at_call 67; exact extq (rprefix_any _ _ hlev _ bv hbv))))
          refine wpQuiet_nil ?_
          rintro _ ⟨x, rfl⟩
          go_wp2
          go_roundw
          case rel => exact ⟨j + 1, by omega, by rw [HSU.out, HFB.out], by go_num, by rw [HSU.out]; exact up_to⟩
          case measure => simp [intOf]; omega
        · have hsu2 : bestL a q (l.take (j + 1)) = ⟨Ba, Bl, Bp, Bf⟩ := by rw [hsu, hb0]; rfl
          have HSU := Lib.hid hsu2; clear hsu hsu2
          clear hb0
          go_wp2_with (go_at_call 35; with_reducible refine (rcheck_any l _ _ (HV.out.below up_below) HM.out 0 he).mono ?_; rintro e w' ⟨rfl, z, rfl⟩)
          refine wp_region_ext_lit (by kernel_rfl) (by kernel_rfl) ?_
          repeat (go_big_quiet_step ((go_at_call 67; exact extq (rprefix_any _ _ hlev _ bv hbv))))
          refine wpQuiet_nil ?_
          rintro _ ⟨x, rfl⟩
          go_wp2
          go_roundw
          case rel => exact ⟨j + 1, by omega, by rw [HSU.out, HFB.out], by go_num, by rw [HSU.out]; exact up_to⟩
          case measure => simp [intOf]; omega
        · have hsu2 : bestL a q (l.take (j + 1)) = ⟨xa, xl, xp, xf⟩ := by rw [hsu, hb0]; rfl
          have HSU := Lib.hid hsu2; clear hsu hsu2
          clear hb0
          go_wp2_with (go_at_call 35; with_reducible refine (rcheck_any l _ _ (HV.out.below up_below) HM.out 0 he).mono ?_; rintro e w' ⟨rfl, z, rfl⟩)
          refine wp_region_ext_lit (by kernel_rfl) (by kernel_rfl) ?_
          repeat (go_big_quiet_step ((go_at_call 67; exact extq (rprefix_any _ _ hlev _ bv hbv))))
          refine wpQuiet_nil ?_
          rintro _ ⟨x, rfl⟩
          go_wp2
          go_roundw
          case rel => exact ⟨j + 1, by omega, by rw [HSU.out, HFX.out], by go_num, by rw [HSU.out]; exact up_to⟩
          case measure => simp [intOf]; omega
        · cases h5 : better a q ⟨Ba, Bl, Bp, Bf⟩ ⟨xa, xl, xp, xf⟩
          · rw [h5] at h4
            have hsu2 : bestL a q (l.take (j + 1)) = ⟨Ba, Bl, Bp, Bf⟩ := by rw [hsu, h5]; rfl
            have HSU := Lib.hid hsu2; clear hsu hsu2
            clear h5
            go_wp2_with (go_at_call 35; with_reducible refine (rcheck_any l _ _ (HV.out.below up_below) HM.out 0 he).mono ?_; rintro e w' ⟨rfl, z, rfl⟩)
            refine wp_region_ext_lit (by kernel_rfl) (by kernel_rfl) ?_
            repeat (go_big_quiet_step ((go_at_call 67; exact extq (rprefix_any _ _ hlev _ bv hbv))))
            refine wpQuiet_nil ?_
            rintro _ ⟨x, rfl⟩
            go_wp2
            go_roundw
            case rel => exact ⟨j + 1, by omega, by rw [HSU.out, HFB.out], by go_num, by rw [HSU.out]; exact up_to⟩
            case measure => simp [intOf]; omega
          · rw [h5] at h4
            have hsu2 : bestL a q (l.take (j + 1)) = ⟨xa, xl, xp, xf⟩ := by rw [hsu, h5]; rfl
            have HSU := Lib.hid hsu2; clear hsu hsu2
            clear h5
            go_wp2_with (go_at_call 35; with_reducible refine (rcheck_any l _ _ (HV.out.below up_below) HM.out 0 he).mono ?_; rintro e w' ⟨rfl, z, rfl⟩)
            refine wp_region_ext_lit (by kernel_rfl) (by kernel_rfl) ?_
            repeat (go_big_quiet_step ((go_at_call 67; exact extq (rprefix_any _ _ hlev _ bv hbv))))
            refine wpQuiet_nil ?_
            rintro _ ⟨x, rfl⟩
            go_wp2
            go_roundw
            case rel => exact ⟨j + 1, by omega, by rw [HSU.out, HFX.out], by go_num, by rw [HSU.out]; exact up_to⟩
            case measure => simp [intOf]; omega
      · obtain rfl : j = l.length := by omega
        rw [List.take_length, HR.out]
        go_wp2_with fail
        exact bodyPost_ret (v := .tuple #[r.v, .bool (decide (0 < r.l))]) (by simp [results, Try.results36, go_sem]) rfl ⟨rfl, up_to⟩

/-- Both answers in one. -/
theorem bestR_yes {a q : Int} {l : List S} (h : Chk mostS S.may S.same l) : bestR a q l = bestL a q l := by rw [bestR, if_pos h]
theorem bestR_no {a q : Int} {l : List S} (h : ¬ Chk mostS S.may S.same l) : bestR a q l = ⟨0, 0, 0, 0⟩ := by rw [bestR, if_neg h]
theorem rbest_any (l : List S) (v : Value) (a q : Int) (w : World) (hv : Has S.enc w v l) (hmx : l.length ≤ 1000) (r : S) (hr : bestR a q l = r) (k : Bool) (hk : decide (0 < r.l) = k) :
    Calls Try.prog 36 #[v, .int .i64 a, .int .u64 q] w fun e w' => e = .returned (.tuple #[r.v, .bool k]) ∧ ∃ x, w' = ext w x := by
  subst hk hr
  by_cases h : Chk mostS S.may S.same l
  · rw [bestR_yes h]; exact rbest_yes l v a q w hv h _ rfl
  · rw [bestR_no h]; exact rbest_no l v a q w hv hmx h
theorem best_any (l : List S) (v : Value) (a q : Int) (w : World) (hv : Has S.enc w v l) (r : S) (hr : bestR a q l = r) (k : Bool) (hk : decide (0 < r.l) = k) :
    Calls Try.prog 34 #[v, .int .i64 a, .int .u64 q] w fun e w' => e = .returned (.tuple #[r.v, .bool k]) ∧ ∃ x, w' = ext w x := by
  subst hk hr
  by_cases h : Chk mostS S.may S.same l
  · rw [bestR_yes h]; exact Best_yes l v a q w hv h _ rfl
  · rw [bestR_no h]; exact Best_no l v a q w hv h
end Go.Proofs.Ytcjklghjnbhcdaa
