/- Decode and Touch of package desc. -/
import Derived.Test.YtcjklghjnbhcdaaWDesc
namespace Go.Proofs.Ytcjklghjnbhcdaa
open Go.RowKit

set_option maxRecDepth 20000 in
set_option maxHeartbeats 2000000 in
theorem decode_any (X : Nat) (hX : X < 18446744073709551616) (L : Int) (w : World) (d : D6) (hd : decD X L = d) (c : Int) (hc : decE X L = c) :
    Calls Try.prog 43 #[.int .u64 (X : Int), .int .i64 L] w fun e w' => e = .returned (.tuple #[d.v, .int .i64 c]) ∧ ∃ x, w' = ext w x := by
  subst hd hc
  by_cases hL : L < 0 ∨ 3 < L
  · have e1 : decD X L = d0 := by rw [decD, goodD, decide_eq_false (by omega)]; rfl
    have e2 : decE X L = 2 := by rw [decE, if_pos hL]
    rw [e1, e2]
    clear e1 e2
    have HX := Lib.hid hX; clear hX
    rcases hL with hL | hL
    all_goals
      go_enter Try.func43, Try.ntmps43
      go_wp2
      exact bodyPost_ret (v := .tuple #[d0.v, .int .i64 2]) (by simp [results, Try.results43, go_sem]) rfl ⟨rfl, up_to⟩
  · have hL0 : 0 ≤ L := by omega
    have hL3 : L ≤ 3 := by omega
    have ha := and_one_mod X hX
    have ht := and_three_mod X hX
    by_cases h2 : X % 2 = 0
    · have e1 : decD X L = d0 := by rw [decD, goodD, decide_eq_false (by omega)]; rfl
      have e2 : decE X L = 0 := by rw [decE, if_neg hL, if_pos h2]
      rw [e1, e2]
      rw [h2] at ha
      replace ha : bits .and .u64 (X : Int) 1 = 0 := ha
      clear e1 e2 ht h2 hL
      have HX := Lib.hid hX; clear hX
      go_enter Try.func43, Try.ntmps43
      go_wp2
      exact bodyPost_ret (v := .tuple #[d0.v, .int .i64 0]) (by simp [results, Try.results43, go_sem]) rfl ⟨rfl, up_to⟩
    · have h1 : X % 2 = 1 := by omega
      rw [h1] at ha
      replace ha : bits .and .u64 (X : Int) 1 = 1 := ha
      have hoff := andNot_u64 X (maskN (pgOf L)) hX (by cases pgOf L <;> decide)
      obtain ⟨k, hk⟩ : ∃ k : Int, (if pgOf L then (2 : Int) else 1) = k := ⟨_, rfl⟩
      obtain ⟨m, hm⟩ : ∃ m : Int, ((maskN (pgOf L) : Nat) : Int) = m := ⟨_, rfl⟩
      rw [hm] at hoff
      have HK := Lib.hid hk; have HM := Lib.hid hm
      have hkk : (L = 3 ∧ k = 2) ∨ (¬ L = 3 ∧ k = 1) := by
        by_cases e : L = 3
        · exact .inl ⟨e, by rw [← hk, pgOf, decide_eq_true e]; rfl⟩
        · exact .inr ⟨e, by rw [← hk, pgOf, decide_eq_false e]; rfl⟩
      clear hk hm
      cases hok : okD X (pgOf L)
      · have e1 : decD X L = d0 := by rw [decD, goodD, hok, Bool.and_false]; rfl
        have e2 : decE X L = 30 := by rw [decE, if_neg hL, if_neg h2, hok]; rfl
        rw [e1, e2]
        have hbad : (bits .and .u64 (X : Int) 3 != 3) = true ∨ ((bits .and .u64 (X : Int) 3 != 3) = false ∧ (bits .andNot .u64 (X : Int) m != 0) = true) := by
          by_cases h3 : X % 4 = 3
          · refine .inr ⟨by rw [ht, h3]; rfl, ?_⟩
            rw [hoff]
            have : X &&& (2 ^ 64 - 1 - maskN (pgOf L)) ≠ 0 := fun h => by rw [ok_yes hX h3 h] at hok; cases hok
            simp only [bne_iff_ne, ne_eq]
            omega
          · refine .inl ?_
            rw [ht]
            simp only [bne_iff_ne, ne_eq]
            omega
        clear e1 e2 ht hoff hok h1 h2 hL
        have HX := Lib.hid hX; clear hX
        rcases hkk with ⟨rfl, rfl⟩ | ⟨hL4, rfl⟩ <;> rcases hbad with hbad | ⟨hbad, hbad2⟩
        all_goals
          go_enter Try.func43, Try.ntmps43
          go_wp2
          refine wp_region_ext_lit (by kernel_rfl) (by kernel_rfl) ?_
          repeat (go_big_quiet_step ((go_at_call 73; exact extq (dmask_any (pgOf _) _ HK.out _ m HM.out))))
          refine wpQuiet_nil ?_
          rintro _ ⟨x, rfl⟩
          go_wp2
          exact bodyPost_ret (v := .tuple #[d0.v, .int .i64 30]) (by simp [results, Try.results43, go_sem]) rfl ⟨rfl, up_to⟩
      · have e1 : decD X L = ⟨k, ((X / 4096 % 64 : Nat) : Int), X.testBit 10, X.testBit 7, X.testBit 6, X.testBit 11⟩ := by
          rw [decD, goodD, hok, decide_eq_true (by omega)]
          rcases hkk with ⟨rfl, rfl⟩ | ⟨hL4, rfl⟩
          · rfl
          · have hb := bits_table (X := X) (by rw [pgOf, decide_eq_false hL4] at hok; exact hok)
            rw [hb.1, hb.2.1, hb.2.2.1, hb.2.2.2, if_neg hL4]; rfl
        have e2 : decE X L = 0 := by rw [decE, if_neg hL, if_neg h2, hok]; rfl
        rw [e1, e2]
        obtain ⟨h3, h4⟩ := ok_off hok
        have t1 : bits .and .u64 (X : Int) 3 = 3 := by rw [ht, h3]; rfl
        have t2 : bits .andNot .u64 (X : Int) m = 0 := by rw [hoff, h4]; rfl
        have hg : getOr (X : Int) 17 12 = ((X / 4096 % 64 : Nat) : Int) := by
          have hv : valid 17 12 := by decide
          rw [getOr, if_pos hv, getV]; simp
        have hx0 : (0 : Int) ≤ (X : Int) := by omega
        have hx1 : (X : Int) < 18446744073709551616 := by omega
        obtain ⟨f, hf⟩ : ∃ f, X / 4096 % 64 = f := ⟨_, rfl⟩
        have hf64 : (f : Int) < 64 := by omega
        rw [hf] at hg ⊢
        obtain ⟨q6, h6⟩ : ∃ q, X.testBit 6 = q := ⟨_, rfl⟩
        obtain ⟨q7, h7⟩ : ∃ q, X.testBit 7 = q := ⟨_, rfl⟩
        obtain ⟨q10, h10⟩ : ∃ q, X.testBit 10 = q := ⟨_, rfl⟩
        obtain ⟨q11, h11⟩ : ∃ q, X.testBit 11 = q := ⟨_, rfl⟩
        rw [h6, h7, h10, h11]
        have H6 := Lib.hid h6; have H7 := Lib.hid h7; have H10 := Lib.hid h10; have H11 := Lib.hid h11
        have HG := Lib.hid hg; have HX0 := Lib.hid hx0; have HX1 := Lib.hid hx1; have HX := Lib.hid hX
        clear e1 e2 ht hoff hok h1 h2 hL h3 h4 h6 h7 h10 h11 hg hx0 hx1 hX hf
        have hl4 : (L = 3 ∧ k = 2) ∨ (L = 0 ∧ k = 1) ∨ (L = 1 ∧ k = 1) ∨ (L = 2 ∧ k = 1) := by omega
        clear hkk hL0 hL3
        rcases hl4 with ⟨rfl, rfl⟩ | ⟨rfl, rfl⟩ | ⟨rfl, rfl⟩ | ⟨rfl, rfl⟩
        all_goals
          go_enter Try.func43, Try.ntmps43
          go_wp2
          refine wp_region_ext_lit (by kernel_rfl) (by kernel_rfl) ?_
          repeat (go_big_quiet_step ((go_at_call 73; exact extq (dmask_any (pgOf _) _ HK.out _ m HM.out))))
          refine wpQuiet_nil ?_
          rintro _ ⟨x, rfl⟩
          go_wp2_with (first
            | (go_at_call 69; with_reducible refine (Get_any _ _ _ HX0.out HX1.out _).mono ?_; rintro e w' ⟨rfl, x, rfl⟩; rw [HG.out])
            | (go_at_call 74; with_reducible refine (dbit_any X HX.out 6 (by decide) _ _ (by simp [go_sem]) q6 H6.out 6 rfl).mono ?_; rintro e w' ⟨rfl, x, rfl⟩)
            | (go_at_call 74; with_reducible refine (dbit_any X HX.out 7 (by decide) _ _ (by simp [go_sem]) q7 H7.out 7 rfl).mono ?_; rintro e w' ⟨rfl, x, rfl⟩)
            | (go_at_call 74; with_reducible refine (dbit_any X HX.out 10 (by decide) _ _ (by simp [go_sem]) q10 H10.out 10 rfl).mono ?_; rintro e w' ⟨rfl, x, rfl⟩)
            | (go_at_call 74; with_reducible refine (dbit_any X HX.out 11 (by decide) _ _ (by simp [go_sem]) q11 H11.out 11 rfl).mono ?_; rintro e w' ⟨rfl, x, rfl⟩))
          exact bodyPost_ret (v := .tuple #[(⟨_, (f : Int), q10, q7, q6, q11⟩ : D6).v, .int .i64 0]) (by simp [results, Try.results43, go_sem]) rfl ⟨rfl, up_to⟩
end Go.Proofs.Ytcjklghjnbhcdaa
