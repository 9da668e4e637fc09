/- What the document's CheckSteps tells. -/
import Derived.Test.YtcjklghjnbhcdaaWRefA
namespace Go.Proofs.Ytcjklghjnbhcdaa
open Go.RowKit

theorem S.same_comm (x y : S) : x.same y = y.same x := by
  unfold S.same
  rw [Bool.eq_iff_iff, decide_eq_true_eq, decide_eq_true_eq]
  constructor <;> (rintro ⟨h1, h2, h3⟩; exact ⟨h1.symm, h2.symm, h3.symm⟩)

set_option maxHeartbeats 2000000 in
theorem rcheck_any (l : List S) (v : Value) (w : World) (hv : Has S.enc w v l) (hmx : l.length ≤ 1000) (r : Int) (hr : chkV mostS S.may S.same l = r) :
    Calls Try.prog 35 #[v] w fun e w' => e = .returned (.int .i64 r) ∧ ∃ x, w' = ext w x := by
  rcases hv with ⟨rfl, hv⟩ | ⟨hl0, b, o, cap, rfl, hcap, hb, hR⟩
  · have h1 : chkV mostS S.may S.same [] = 0 := chk_yes ⟨by simp, fun i x h => by simp at h⟩
    rw [h1] at hr
    subst hr
    clear h1
    rcases hv with rfl | ⟨ad, cap, rfl⟩
    all_goals
      go_enter Try.func35, Try.ntmps35
      go_wp2_with fail
      go_loopw [3, 4] (fun k _ wr => k = .int .i64 0 ∧ ∃ y, wr = ext w y) (fun _ _ _ => 0)
      case atStart => exact ⟨rfl, up_to⟩
      case round =>
        obtain ⟨rfl, y, rfl⟩ := hrel
        go_wp2_with fail
        go_ret
        exact ⟨rfl, up_to⟩
  · have Hr := Lib.hid hr; clear hr
    by_cases hlen : l.length ≤ mostS
    · haveI : LtW b w := ⟨hb⟩
      have HR := Lib.hid hR; clear hR
      have hmax : (l.length : Int) ≤ 4 := by simp only [mostS] at hlen; omega
      clear hmx
      go_enter Try.func35, Try.ntmps35
      go_wp2_with fail
      go_loopw [3, 4] (fun k _ wr => ∃ j : Nat, j ≤ l.length ∧ k = .int .i64 (j : Int) ∧ Hid (∀ (i : Nat) x, i < j → l[i]? = some x → S.may x = true ∧ (l.take i).any (S.same x) = false) ∧ ∃ y, wr = ext w y) (fun k _ _ => (l.length - intOf k).toNat)
      case atStart => exact ⟨0, by omega, by simp, by unfold Hid; intro i x h; omega, up_to⟩
      case round =>
        obtain ⟨j, hj, rfl, hA, y, rfl⟩ := hrel
        by_cases hlt : j < l.length
        · obtain ⟨x, hx⟩ : ∃ x, l[j]? = some x := ⟨_, List.getElem?_eq_getElem hlt⟩
          have c0 : w.cell? ⟨b, o + j * 4, none⟩ = some x.c0 := HR.out j x hx 0 _ rfl
          have c1 : w.cell? ⟨b, o + j * 4 + 1, none⟩ = some x.c1 := HR.out j x hx 1 _ rfl
          have c2 : w.cell? ⟨b, o + j * 4 + 2, none⟩ = some x.c2 := HR.out j x hx 2 _ rfl
          have c3 : w.cell? ⟨b, o + j * 4 + 3, none⟩ = some x.c3 := HR.out j x hx 3 _ rfl
          have hj0 : (0 : Int) ≤ (j : Int) := by omega
          have hj1 : (j : Int) < (l.length : Int) := by omega
          cases hm : x.may
          · have hno : ¬ Chk mostS S.may S.same l := fun h => by have := (h.2 j x hx).1; rw [hm] at this; cases this
            have e := Hr.out
            rw [chk_no hno] at e
            subst e
            clear Hr hno
            go_wp2_with ((go_at_call 65; refine (rmay_any x _).mono ?_; rintro e w' ⟨rfl, z, rfl⟩))
            go_ret
            exact ⟨rfl, up_to⟩
          · have HX := Lib.hid hx; clear hx
            go_wp2_with ((go_at_call 65; refine (rmay_any x _).mono ?_; rintro e w' ⟨rfl, z, rfl⟩))
            go_loopw [4] (fun k wr => ∃ m : Nat, m ≤ j ∧ k = .int .i64 (m : Int) ∧ Hid (∀ (i : Nat) z, i < m → l[i]? = some z → x.same z = false) ∧ ∃ y, wr = ext w y) (fun k _ => (j - intOf k).toNat)
            case atStart => exact ⟨0, by omega, by simp, by unfold Hid; intro i x h; omega, up_to⟩
            case round =>
              obtain ⟨m, hmj, rfl, hB, y', rfl⟩ := hrel
              by_cases hmt : m < j
              · obtain ⟨z, hz⟩ : ∃ z, l[m]? = some z := ⟨_, List.getElem?_eq_getElem (by omega)⟩
                have d0 : w.cell? ⟨b, o + m * 4, none⟩ = some z.c0 := HR.out m z hz 0 _ rfl
                have d1 : w.cell? ⟨b, o + m * 4 + 1, none⟩ = some z.c1 := HR.out m z hz 1 _ rfl
                have d2 : w.cell? ⟨b, o + m * 4 + 2, none⟩ = some z.c2 := HR.out m z hz 2 _ rfl
                have d3 : w.cell? ⟨b, o + m * 4 + 3, none⟩ = some z.c3 := HR.out m z hz 3 _ rfl
                have hm0 : (0 : Int) ≤ (m : Int) := by omega
                have hm1 : (m : Int) < (l.length : Int) := by omega
                have HZ := Lib.hid hz; clear hz
                cases hs : z.same x
                · go_wp2_with fail
                  refine wp_region_ext_lit (by kernel_rfl) (by kernel_rfl) ?_
                  repeat (go_big_quiet_step ((go_at_call 66; exact extq (rplace_any z x _ false hs))))
                  refine wpQuiet_nil ?_
                  rintro _ ⟨y2, rfl⟩
                  go_wp2
                  go_roundw
                  case rel =>
                    refine ⟨m + 1, by omega, by go_num, ?_, up_to⟩
                    unfold Hid; intro i u hi hu
                    by_cases e : i = m
                    · subst e; have := HZ.out; rw [this] at hu; cases hu; rw [S.same_comm]; exact hs
                    · exact hB.out i u (by omega) hu
                  case measure => simp [intOf]; omega
                · have hno : ¬ Chk mostS S.may S.same l := fun h => by
                    have := (h.2 j x HX.out).2
                    rw [List.any_eq_false] at this
                    have h2 := this z (List.mem_take_iff_getElem.2 ⟨m, by omega, (List.getElem?_eq_some_iff.1 HZ.out).2⟩)
                    rw [S.same_comm] at h2
                    exact h2 hs
                  have e := Hr.out
                  rw [chk_no hno] at e
                  subst e
                  clear Hr hno
                  go_wp2_with fail
                  refine wp_region_ext_lit (by kernel_rfl) (by kernel_rfl) ?_
                  repeat (go_big_quiet_step ((go_at_call 66; exact extq (rplace_any z x _ true hs))))
                  refine wpQuiet_nil ?_
                  rintro _ ⟨y2, rfl⟩
                  go_wp2
                  go_ret
                  exact ⟨rfl, up_to⟩
              · obtain rfl : m = j := by omega
                go_wp2_with fail
                go_roundw
                case rel =>
                  refine ⟨m + 1, by omega, by go_num, ?_, up_to⟩
                  unfold Hid; intro i u hi hu
                  by_cases e : i = m
                  · subst e
                    have := HX.out; rw [this] at hu; cases hu
                    refine ⟨hm, ?_⟩
                    rw [List.any_eq_false]
                    intro t ht
                    obtain ⟨i', hi', rfl⟩ := List.mem_take_iff_getElem.1 ht
                    have := hB.out i' _ (by omega) (List.getElem?_eq_getElem (by omega))
                    rw [this]; simp
                  · exact hA.out i u (by omega) hu
                case measure => simp [intOf]; omega
        · obtain rfl : j = l.length := by omega
          have hyes : Chk mostS S.may S.same l := ⟨hlen, fun i x h => hA.out i x (List.getElem?_eq_some_iff.1 h).1 h⟩
          have e := Hr.out
          rw [chk_yes hyes] at e
          subst e
          clear Hr hyes
          go_wp2_with fail
          go_ret
          exact ⟨rfl, up_to⟩
    · have h1 : ¬ Chk mostS S.may S.same l := fun h => hlen h.1
      have e := Hr.out
      rw [chk_no h1] at e
      subst e
      have hmax : ¬ (l.length : Int) ≤ 4 := by simp only [mostS] at hlen; omega
      clear Hr h1 hR
      go_enter Try.func35, Try.ntmps35
      go_wp2_with fail
      go_ret
      exact ⟨rfl, up_to⟩
end Go.Proofs.Ytcjklghjnbhcdaa
