/- What check of a Step-row tells. -/
import Derived.Test.YtcjklghjnbhcdaaWTlbB
namespace Go.Proofs.Ytcjklghjnbhcdaa
open Go.RowKit

set_option maxHeartbeats 2000000 in
theorem scheck_any (l : List S) (v : Value) (w : World) (hv : Has S.enc w v l) (r : Int) (hr : chkV mostS S.may S.same l = r) :
    Calls Try.prog 62 #[stepsV, v] w fun e w' => e = .returned (.int .i64 r) ∧ ∃ x, w' = ext w x := by
  rcases hv with ⟨rfl, hv⟩ | ⟨hl0, b, o, cap, rfl, hcap, hb, hR⟩
  · have h1 : chkV mostS S.may S.same [] = 0 := chk_yes ⟨by simp, fun i x h => by simp at h⟩
    rw [h1] at hr
    subst hr
    clear h1
    rcases hv with rfl | ⟨ad, cap, rfl⟩
    all_goals
      go_enter Try.func62, Try.ntmps62
      go_wp2_with fail
      go_loopw [14] (fun k wr => k = .int .i64 0 ∧ ∃ y, wr = ext w y) (fun _ _ => 0)
      case atStart => exact ⟨rfl, up_to⟩
      case round =>
        obtain ⟨rfl, y, rfl⟩ := hrel
        go_wp2_with fail
        go_ret
        exact ⟨rfl, up_to⟩
  · have Hr := Lib.hid hr; clear hr
    by_cases hlen : l.length ≤ mostS
    · haveI : LtW b w := ⟨hb⟩
      have HR := Lib.hid hR; clear hR
      have hmax : (l.length : Int) ≤ 4 := by simp only [mostS] at hlen; omega
      go_enter Try.func62, Try.ntmps62
      go_wp2_with fail
      go_loopw [5, 6, 14] (fun _ _ k wr => ∃ j : Nat, j ≤ l.length ∧ k = .int .i64 (j : Int) ∧ Hid (∀ (i : Nat) x, i < j → l[i]? = some x → S.may x = true ∧ (l.take i).any (S.same x) = false) ∧ ∃ y, wr = ext (w.alloc (.cells stepsC 154)) y) (fun _ _ k _ => (l.length - intOf k).toNat)
      case atStart => exact ⟨0, by omega, by simp, by unfold Hid; intro i x h; omega, up_to⟩
      case round =>
        obtain ⟨j, hj, rfl, hA, y, rfl⟩ := hrel
        by_cases hlt : j < l.length
        · obtain ⟨x, hx⟩ : ∃ x, l[j]? = some x := ⟨_, List.getElem?_eq_getElem hlt⟩
          have c0 : w.cell? ⟨b, o + j * 4, none⟩ = some x.c0 := HR.out j x hx 0 _ rfl
          have c1 : w.cell? ⟨b, o + j * 4 + 1, none⟩ = some x.c1 := HR.out j x hx 1 _ rfl
          have c2 : w.cell? ⟨b, o + j * 4 + 2, none⟩ = some x.c2 := HR.out j x hx 2 _ rfl
          have c3 : w.cell? ⟨b, o + j * 4 + 3, none⟩ = some x.c3 := HR.out j x hx 3 _ rfl
          have hjc : (j : Int) ≤ (cap : Int) := by omega
          cases hm : x.may
          · have hno : ¬ Chk mostS S.may S.same l := fun h => by have := (h.2 j x hx).1; rw [hm] at this; cases this
            have e := Hr.out
            rw [chk_no hno] at e
            subst e
            clear Hr hno
            go_wp2_with ((go_at_call 82; refine (smay_any x _).mono ?_; rintro e w' ⟨rfl, z, rfl⟩))
            go_ret
            exact ⟨rfl, up_to⟩
          · have hlj : (l.take j).length ≤ 9223372036854775807 := by rw [List.length_take]; simp only [mostS] at hlen; omega
            cases ha : (l.take j).any x.same
            · go_wp2_with (first
                | (go_at_call 82; refine (smay_any x _).mono ?_; rintro e w' ⟨rfl, z, rfl⟩)
                | (go_at_call 85; refine (sContainsFunc_any x.same 86 _ senters_check (l.take j) _ _ (has_take (HR.out.below hb up_below) (LtW.lt (n := b)) j cap hj hcap) hlj (sclos_check _ _ (by simp [go_sem, stepsC]) x ⟨by simp [go_sem], by simp [go_sem], by simp [go_sem], by simp [go_sem]⟩) _ ha).mono ?_; rintro e w' ⟨rfl, z, rfl⟩))
              go_roundw
              case rel =>
                refine ⟨j + 1, by omega, by go_num, ?_, up_to⟩
                unfold Hid; intro i z hi hz
                by_cases e : i = j
                · subst e; rw [hx] at hz; cases hz; exact ⟨hm, ha⟩
                · exact hA.out i z (by omega) hz
              case measure => simp [intOf]; omega
            · have hno : ¬ Chk mostS S.may S.same l := fun h => by have := (h.2 j x hx).2; rw [ha] at this; cases this
              have e := Hr.out
              rw [chk_no hno] at e
              subst e
              clear Hr hno
              go_wp2_with (first
                | (go_at_call 82; refine (smay_any x _).mono ?_; rintro e w' ⟨rfl, z, rfl⟩)
                | (go_at_call 85; refine (sContainsFunc_any x.same 86 _ senters_check (l.take j) _ _ (has_take (HR.out.below hb up_below) (LtW.lt (n := b)) j cap hj hcap) hlj (sclos_check _ _ (by simp [go_sem, stepsC]) x ⟨by simp [go_sem], by simp [go_sem], by simp [go_sem], by simp [go_sem]⟩) _ ha).mono ?_; rintro e w' ⟨rfl, z, rfl⟩))
              go_ret
              exact ⟨rfl, up_to⟩
        · obtain rfl : j = l.length := by omega
          have hyes : Chk mostS S.may S.same l := ⟨hlen, fun i x h => hA.out i x (List.getElem?_eq_some_iff.1 h).1 h⟩
          have e := Hr.out
          rw [chk_yes hyes] at e
          subst e
          clear Hr hyes
          go_wp2_with fail
          go_ret
          exact ⟨rfl, up_to⟩
    · have h1 : ¬ Chk mostS S.may S.same l := fun h => hlen h.1
      have e := Hr.out
      rw [chk_no h1] at e
      subst e
      have hmax : ¬ (l.length : Int) ≤ 4 := by simp only [mostS] at hlen; omega
      clear Hr h1 hR
      go_enter Try.func62, Try.ntmps62
      go_wp2_with fail
      go_ret
      exact ⟨rfl, up_to⟩
end Go.Proofs.Ytcjklghjnbhcdaa
