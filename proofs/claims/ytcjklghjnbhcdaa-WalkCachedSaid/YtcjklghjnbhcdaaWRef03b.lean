/- What the document's Decode and Touch tell. -/
import Derived.Test.YtcjklghjnbhcdaaWRef03
namespace Go.Proofs.Ytcjklghjnbhcdaa
open Go.RowKit

theorem refGet_to (x hi lo : Int) (x0 : 0 ≤ x) (x1 : x < 18446744073709551616) (w : World) (r : Int) (hr : getOr x hi lo = r) :
    Calls Try.prog 70 #[.int .u64 x, .int .i64 hi, .int .i64 lo] w fun e w' => e = .returned (.int .u64 r) ∧ ∃ y, w' = ext w y := by
  subst hr; exact refGet_any x hi lo x0 x1 w

theorem got_bit (X k : Nat) (hk : k ≤ 63) : getOr (X : Int) k k = ((X / 2 ^ k % 2 : Nat) : Int) := by
  have hv : valid (k : Int) k := ⟨by omega, by omega, by omega⟩
  rw [getOr, if_pos hv, getV]
  have : ((k : Int) - k + 1).toNat = 1 := by omega
  rw [this]; simp

theorem bit_is (X k : Nat) (r : Int) (h : ((X / 2 ^ k % 2 : Nat) : Int) = r) : (r == 1) = X.testBit k := by
  rw [bit_lit, ← h, Bool.eq_iff_iff]
  simp only [beq_iff_eq, decide_eq_true_eq]
  omega

theorem two_bits (Y : Nat) : fl (decide (Y % 2 = 1)) 64 + fl (decide (Y / 2 % 2 = 1)) 128 = ((Y % 4 * 64 : Nat) : Int) := by
  unfold fl
  by_cases h1 : Y % 2 = 1 <;> by_cases h2 : Y / 2 % 2 = 1 <;> simp only [h1, h2, decide_true, decide_false, if_true, if_false, Bool.false_eq_true] <;> omega
theorem two_bits' (Y : Nat) : fl (decide (Y % 2 = 1)) 1024 + fl (decide (Y / 2 % 2 = 1)) 2048 = ((Y % 4 * 1024 : Nat) : Int) := by
  unfold fl
  by_cases h1 : Y % 2 = 1 <;> by_cases h2 : Y / 2 % 2 = 1 <;> simp only [h1, h2, decide_true, decide_false, if_true, if_false, Bool.false_eq_true] <;> omega
theorem ne_of (A X : Nat) : ((A : Int) != (X : Int)) = !decide (X = A) := by
  rw [Bool.eq_iff_iff]
  simp only [bne_iff_ne, ne_eq, Bool.not_eq_true', decide_eq_false_iff_not]
  omega
/-- The document's test: encoded again it is the same word. -/
theorem enc_ok (X : Nat) (pg : Bool) (v : Int)
    (hv : encV ((X / 4096 % 64 : Nat) : Int) (pg && X.testBit 6) (pg && X.testBit 7) (pg && X.testBit 10) (pg && X.testBit 11) = v) : (v != (X : Int)) = !okD X pg := by
  subst hv
  cases pg
  · have : encV ((X / 4096 % 64 : Nat) : Int) (false && X.testBit 6) (false && X.testBit 7) (false && X.testBit 10) (false && X.testBit 11) = ((3 + X / 4096 % 64 * 4096 + 0 : Nat) : Int) := by
      simp [encV, fl]
    rw [this, ne_of]; rfl
  · have h1 := two_bits (X / 64)
    have h2 := two_bits' (X / 1024)
    rw [Nat.div_div_eq_div_mul] at h1 h2
    have : encV ((X / 4096 % 64 : Nat) : Int) (true && X.testBit 6) (true && X.testBit 7) (true && X.testBit 10) (true && X.testBit 11) = ((3 + X / 4096 % 64 * 4096 + (X / 64 % 4 * 64 + X / 1024 % 4 * 1024) : Nat) : Int) := by
      simp only [Bool.true_and, encV, bit_lit]
      simp only [Nat.reducePow]
      simp only [Nat.reduceMul] at h1 h2
      generalize fl (decide (X / 64 % 2 = 1)) 64 = a at h1 ⊢
      generalize fl (decide (X / 128 % 2 = 1)) 128 = b at h1 ⊢
      generalize fl (decide (X / 1024 % 2 = 1)) 1024 = c at h2 ⊢
      generalize fl (decide (X / 2048 % 2 = 1)) 2048 = d at h2 ⊢
      omega
    rw [this, ne_of]; rfl
theorem big_not_ok (X : Nat) (pg : Bool) (hF : 64 ≤ X / 4096 % 68719476736) : okD X pg = false := by
  simp only [okD, decide_eq_false_iff_not]
  cases pg <;> simp <;> omega

theorem renc_to (k : Int) (f : Nat) (fz : Int) (hfz : (f : Int) = fz) (hf : f < 64) (a r u g : Bool) (hk : k = 2 ∨ (k = 1 ∧ a = false ∧ r = false ∧ u = false ∧ g = false)) (w : World) (v : Int) (hv : encV f u r a g = v) :
    Calls Try.prog 60 #[.agg #[.int .i8 k, .int .i64 fz, .bool a, .bool r, .bool u, .bool g]] w fun e w' => e = .returned (.tuple #[.int .u64 v, .int .i64 0]) ∧ ∃ y, w' = ext w y := by
  subst hfz; exact renc_any k f hf a r u g hk w v hv

/-- The result's box, behind two calls. -/
structure Box6 (w W : World) : Prop where
  up : Up w.heap.size w W
  lt : w.heap.size < W.heap.size
  c0 : W.cell? ⟨w.heap.size, 0, none⟩ = some (.int .i8 0)
  c1 : W.cell? ⟨w.heap.size, 1, none⟩ = some (.int .i64 0)
  c2 : W.cell? ⟨w.heap.size, 2, none⟩ = some (.bool false)
  c3 : W.cell? ⟨w.heap.size, 3, none⟩ = some (.bool false)
  c4 : W.cell? ⟨w.heap.size, 4, none⟩ = some (.bool false)
  c5 : W.cell? ⟨w.heap.size, 5, none⟩ = some (.bool false)
  f : ∀ i, W.frozen? ⟨w.heap.size, i, none⟩ = false
theorem box6_of {w W x : World} {t : TypeId} (h : ∃ y, W = ext (ext (w.alloc (.cells #[.int .i8 0, .int .i64 0, .bool false, .bool false, .bool false, .bool false] t)) x) y) : Box6 w W := by
  obtain ⟨y, rfl⟩ := h
  exact ⟨(((Up.refl w).alloc _).ext x).ext y, LtW.lt, by simp [go_sem], by simp [go_sem], by simp [go_sem], by simp [go_sem], by simp [go_sem], by simp [go_sem], fun i => by simp [go_sem]⟩

set_option maxRecDepth 20000 in
set_option maxHeartbeats 4000000 in
theorem rdec_tab_no (X f : Nat) (fz v : Int) (HX0 : Hid (0 ≤ (X : Int))) (HX1 : Hid ((X : Int) < 18446744073709551616)) (G0 : Hid (getOr (X : Int) 0 0 = 1)) (GF2 : Hid (getOr (X : Int) 47 12 = fz)) (HFE : Hid ((f : Int) = fz)) (HF64 : Hid (f < 64)) (hf0 : 0 ≤ fz) (hfz : fz < 64) (hdec : decide (64 ≤ fz) = false) (L : Int) (hL4 : L = 0 ∨ L = 1 ∨ L = 2) (HV2 : Hid (encV f false false false false = v)) (hne1 : (v != (X : Int)) = true) (w : World) :
    Calls Try.prog 44 #[.int .u64 (X : Int), .int .i64 L] w fun e w' => e = .returned (.tuple #[d0.v, .int .i64 30]) ∧ ∃ x, w' = ext w x := by
  have hne2 : (v == (X : Int)) = false := by simpa using hne1
  rcases hL4 with rfl | rfl | rfl
  all_goals
    go_enter Try.func44, Try.ntmps44
    go_wp2_with (first
      | (go_at_call 70; with_reducible refine (refGet_to _ 0 0 HX0.out HX1.out _ 1 G0.out).mono ?_; rintro e w' ⟨rfl, x, rfl⟩)
      | (go_at_call 70; with_reducible refine (refGet_to _ 47 12 HX0.out HX1.out _ _ GF2.out).mono ?_; rintro e W1 ⟨rfl, hx⟩; obtain ⟨hU, hlt, a0, a1, a2, a3, a4, a5, fa⟩ := box6_of hx; have HU := Lib.hid hU; clear hU hx; haveI : LtW w.heap.size W1 := ⟨hlt⟩)
      | (go_at_call 60; with_reducible refine (renc_to 1 f fz HFE.out HF64.out false false false false (.inr ⟨rfl, rfl, rfl, rfl, rfl⟩) _ _ HV2.out).mono ?_; rintro e w' ⟨rfl, x, rfl⟩))
    exact bodyPost_ret (v := .tuple #[d0.v, .int .i64 30]) (by simp [results, Try.results44, go_sem, a0, a1, a2, a3, a4, a5]) rfl ⟨rfl, up_to (h := by (repeat (first | with_reducible exact HU.out | with_reducible apply Up.drew | with_reducible apply Up.alloc | with_reducible apply Up.ext | with_reducible refine Up.setCell _ _ _ (Nat.le_refl _) ?_)))⟩

set_option maxRecDepth 20000 in
set_option maxHeartbeats 4000000 in
theorem rdec_tab_yes (X f : Nat) (fz v : Int) (HX0 : Hid (0 ≤ (X : Int))) (HX1 : Hid ((X : Int) < 18446744073709551616)) (G0 : Hid (getOr (X : Int) 0 0 = 1)) (GF2 : Hid (getOr (X : Int) 47 12 = fz)) (HFE : Hid ((f : Int) = fz)) (HF64 : Hid (f < 64)) (hf0 : 0 ≤ fz) (hfz : fz < 64) (hdec : decide (64 ≤ fz) = false) (L : Int) (hL4 : L = 0 ∨ L = 1 ∨ L = 2) (HV2 : Hid (encV f false false false false = v)) (hvX : v = (X : Int)) (w : World) :
    Calls Try.prog 44 #[.int .u64 (X : Int), .int .i64 L] w fun e w' => e = .returned (.tuple #[((⟨1, fz, false, false, false, false⟩ : D6).v), .int .i64 0]) ∧ ∃ x, w' = ext w x := by
  subst hvX
  rcases hL4 with rfl | rfl | rfl
  all_goals
    go_enter Try.func44, Try.ntmps44
    go_wp2_with (first
      | (go_at_call 70; with_reducible refine (refGet_to _ 0 0 HX0.out HX1.out _ 1 G0.out).mono ?_; rintro e w' ⟨rfl, x, rfl⟩)
      | (go_at_call 70; with_reducible refine (refGet_to _ 47 12 HX0.out HX1.out _ _ GF2.out).mono ?_; rintro e W1 ⟨rfl, hx⟩; obtain ⟨hU, hlt, a0, a1, a2, a3, a4, a5, fa⟩ := box6_of hx; have HU := Lib.hid hU; clear hU hx; haveI : LtW w.heap.size W1 := ⟨hlt⟩)
      | (go_at_call 60; with_reducible refine (renc_to 1 f fz HFE.out HF64.out false false false false (.inr ⟨rfl, rfl, rfl, rfl, rfl⟩) _ _ HV2.out).mono ?_; rintro e w' ⟨rfl, x, rfl⟩))
    exact bodyPost_ret (v := .tuple #[((⟨1, fz, false, false, false, false⟩ : D6).v), .int .i64 0]) (by simp [results, Try.results44, go_sem, a0, a1, a2, a3, a4, a5]) rfl ⟨rfl, up_to (h := by (repeat (first | with_reducible exact HU.out | with_reducible apply Up.drew | with_reducible apply Up.alloc | with_reducible apply Up.ext | with_reducible refine Up.setCell _ _ _ (Nat.le_refl _) ?_)))⟩

set_option maxRecDepth 20000 in
set_option maxHeartbeats 4000000 in
theorem rdec_pg_no (X f : Nat) (fz v : Int) (HX0 : Hid (0 ≤ (X : Int))) (HX1 : Hid ((X : Int) < 18446744073709551616)) (G0 : Hid (getOr (X : Int) 0 0 = 1)) (GF2 : Hid (getOr (X : Int) 47 12 = fz)) (HFE : Hid ((f : Int) = fz)) (HF64 : Hid (f < 64)) (hf0 : 0 ≤ fz) (hfz : fz < 64) (hdec : decide (64 ≤ fz) = false) (r6 r7 r10 r11 : Int) (q6 q7 q10 q11 : Bool) (G6 : Hid (getOr (X : Int) 6 6 = r6)) (G7 : Hid (getOr (X : Int) 7 7 = r7)) (G10 : Hid (getOr (X : Int) 10 10 = r10)) (G11 : Hid (getOr (X : Int) 11 11 = r11)) (t6 : (r6 == 1) = q6) (t7 : (r7 == 1) = q7) (t10 : (r10 == 1) = q10) (t11 : (r11 == 1) = q11) (HV2 : Hid (encV f q6 q7 q10 q11 = v)) (hne1 : (v != (X : Int)) = true) (w : World) :
    Calls Try.prog 44 #[.int .u64 (X : Int), .int .i64 3] w fun e w' => e = .returned (.tuple #[d0.v, .int .i64 30]) ∧ ∃ x, w' = ext w x := by
  have hne2 : (v == (X : Int)) = false := by simpa using hne1
  go_enter Try.func44, Try.ntmps44
  go_wp2_with (first
    | (go_at_call 70; with_reducible refine (refGet_to _ 0 0 HX0.out HX1.out _ 1 G0.out).mono ?_; rintro e w' ⟨rfl, x, rfl⟩)
    | (go_at_call 70; with_reducible refine (refGet_to _ 47 12 HX0.out HX1.out _ _ GF2.out).mono ?_; rintro e W1 ⟨rfl, hx⟩; obtain ⟨hU, hlt, a0, a1, a2, a3, a4, a5, fa⟩ := box6_of hx; have HU := Lib.hid hU; clear hU hx; haveI : LtW w.heap.size W1 := ⟨hlt⟩)
    | (go_at_call 70; with_reducible refine (refGet_to _ 10 10 HX0.out HX1.out _ _ G10.out).mono ?_; rintro e w' ⟨rfl, x, rfl⟩)
    | (go_at_call 70; with_reducible refine (refGet_to _ 7 7 HX0.out HX1.out _ _ G7.out).mono ?_; rintro e w' ⟨rfl, x, rfl⟩)
    | (go_at_call 70; with_reducible refine (refGet_to _ 6 6 HX0.out HX1.out _ _ G6.out).mono ?_; rintro e w' ⟨rfl, x, rfl⟩)
    | (go_at_call 70; with_reducible refine (refGet_to _ 11 11 HX0.out HX1.out _ _ G11.out).mono ?_; rintro e w' ⟨rfl, x, rfl⟩)
    | (go_at_call 60; with_reducible refine (renc_to 2 f fz HFE.out HF64.out q10 q7 q6 q11 (.inl rfl) _ _ HV2.out).mono ?_; rintro e w' ⟨rfl, x, rfl⟩))
  exact bodyPost_ret (v := .tuple #[d0.v, .int .i64 30]) (by simp [results, Try.results44, go_sem, a0, a1, a2, a3, a4, a5]) rfl ⟨rfl, up_to (h := by (repeat (first | with_reducible exact HU.out | with_reducible apply Up.drew | with_reducible apply Up.alloc | with_reducible apply Up.ext | with_reducible refine Up.setCell _ _ _ (Nat.le_refl _) ?_)))⟩

set_option maxRecDepth 20000 in
set_option maxHeartbeats 4000000 in
theorem rdec_pg_yes (X f : Nat) (fz v : Int) (HX0 : Hid (0 ≤ (X : Int))) (HX1 : Hid ((X : Int) < 18446744073709551616)) (G0 : Hid (getOr (X : Int) 0 0 = 1)) (GF2 : Hid (getOr (X : Int) 47 12 = fz)) (HFE : Hid ((f : Int) = fz)) (HF64 : Hid (f < 64)) (hf0 : 0 ≤ fz) (hfz : fz < 64) (hdec : decide (64 ≤ fz) = false) (r6 r7 r10 r11 : Int) (q6 q7 q10 q11 : Bool) (G6 : Hid (getOr (X : Int) 6 6 = r6)) (G7 : Hid (getOr (X : Int) 7 7 = r7)) (G10 : Hid (getOr (X : Int) 10 10 = r10)) (G11 : Hid (getOr (X : Int) 11 11 = r11)) (t6 : (r6 == 1) = q6) (t7 : (r7 == 1) = q7) (t10 : (r10 == 1) = q10) (t11 : (r11 == 1) = q11) (HV2 : Hid (encV f q6 q7 q10 q11 = v)) (hvX : v = (X : Int)) (w : World) :
    Calls Try.prog 44 #[.int .u64 (X : Int), .int .i64 3] w fun e w' => e = .returned (.tuple #[((⟨2, fz, q10, q7, q6, q11⟩ : D6).v), .int .i64 0]) ∧ ∃ x, w' = ext w x := by
  subst hvX
  go_enter Try.func44, Try.ntmps44
  go_wp2_with (first
    | (go_at_call 70; with_reducible refine (refGet_to _ 0 0 HX0.out HX1.out _ 1 G0.out).mono ?_; rintro e w' ⟨rfl, x, rfl⟩)
    | (go_at_call 70; with_reducible refine (refGet_to _ 47 12 HX0.out HX1.out _ _ GF2.out).mono ?_; rintro e W1 ⟨rfl, hx⟩; obtain ⟨hU, hlt, a0, a1, a2, a3, a4, a5, fa⟩ := box6_of hx; have HU := Lib.hid hU; clear hU hx; haveI : LtW w.heap.size W1 := ⟨hlt⟩)
    | (go_at_call 70; with_reducible refine (refGet_to _ 10 10 HX0.out HX1.out _ _ G10.out).mono ?_; rintro e w' ⟨rfl, x, rfl⟩)
    | (go_at_call 70; with_reducible refine (refGet_to _ 7 7 HX0.out HX1.out _ _ G7.out).mono ?_; rintro e w' ⟨rfl, x, rfl⟩)
    | (go_at_call 70; with_reducible refine (refGet_to _ 6 6 HX0.out HX1.out _ _ G6.out).mono ?_; rintro e w' ⟨rfl, x, rfl⟩)
    | (go_at_call 70; with_reducible refine (refGet_to _ 11 11 HX0.out HX1.out _ _ G11.out).mono ?_; rintro e w' ⟨rfl, x, rfl⟩)
    | (go_at_call 60; with_reducible refine (renc_to 2 f fz HFE.out HF64.out q10 q7 q6 q11 (.inl rfl) _ _ HV2.out).mono ?_; rintro e w' ⟨rfl, x, rfl⟩))
  exact bodyPost_ret (v := .tuple #[((⟨2, fz, q10, q7, q6, q11⟩ : D6).v), .int .i64 0]) (by simp [results, Try.results44, go_sem, a0, a1, a2, a3, a4, a5]) rfl ⟨rfl, up_to (h := by (repeat (first | with_reducible exact HU.out | with_reducible apply Up.drew | with_reducible apply Up.alloc | with_reducible apply Up.ext | with_reducible refine Up.setCell _ _ _ (Nat.le_refl _) ?_)))⟩

set_option maxRecDepth 20000 in
set_option maxHeartbeats 2000000 in
theorem rdecode_any (X : Nat) (hX : X < 18446744073709551616) (L : Int) (w : World) (d : D6) (hd : decD X L = d) (c : Int) (hc : decE X L = c) :
    Calls Try.prog 44 #[.int .u64 (X : Int), .int .i64 L] w fun e w' => e = .returned (.tuple #[d.v, .int .i64 c]) ∧ ∃ x, w' = ext w x := by
  subst hd hc
  by_cases hL : L < 0 ∨ 3 < L
  · have e1 : decD X L = d0 := by rw [decD, goodD, decide_eq_false (by omega)]; rfl
    have e2 : decE X L = 2 := by rw [decE, if_pos hL]
    rw [e1, e2]
    clear e1 e2
    have HX := Lib.hid hX; clear hX
    rcases hL with hL | hL
    all_goals
      go_enter Try.func44, Try.ntmps44
      go_wp2
      exact bodyPost_ret (v := .tuple #[d0.v, .int .i64 2]) (by simp [results, Try.results44, go_sem]) rfl ⟨rfl, up_to⟩
  · have hx0 : (0 : Int) ≤ (X : Int) := by omega
    have hx1 : (X : Int) < 18446744073709551616 := by omega
    have HX0 := Lib.hid hx0; have HX1 := Lib.hid hx1
    have hL4 : L = 0 ∨ L = 1 ∨ L = 2 ∨ L = 3 := by omega
    have g0 := got_bit X 0 (by decide)
    simp at g0
    by_cases h2 : X % 2 = 0
    · have e1 : decD X L = d0 := by rw [decD, goodD, decide_eq_false (by omega)]; rfl
      have e2 : decE X L = 0 := by rw [decE, if_neg hL, if_pos h2]
      rw [e1, e2]
      have g0' : getOr (X : Int) 0 0 = 0 := by rw [g0]; omega
      have G0 := Lib.hid g0'
      clear e1 e2 h2 hL g0 g0' hX hx0 hx1
      rcases hL4 with rfl | rfl | rfl | rfl
      all_goals
        go_enter Try.func44, Try.ntmps44
        go_wp2_with (go_at_call 70; with_reducible refine (refGet_to _ 0 0 HX0.out HX1.out _ 0 G0.out).mono ?_; rintro e w' ⟨rfl, x, rfl⟩)
        exact bodyPost_ret (v := .tuple #[d0.v, .int .i64 0]) (by simp [results, Try.results44, go_sem]) rfl ⟨rfl, up_to⟩
    · have h1 : X % 2 = 1 := by omega
      have g0' : getOr (X : Int) 0 0 = 1 := by rw [g0]; omega
      have G0 := Lib.hid g0'
      have hgF : getOr (X : Int) 47 12 = ((X / 4096 % 68719476736 : Nat) : Int) := by
        have hv : valid 47 12 := by decide
        rw [getOr, if_pos hv, getV]; simp
      by_cases hF : 64 ≤ X / 4096 % 68719476736
      · have hok := big_not_ok X (pgOf L) hF
        have e1 : decD X L = d0 := by rw [decD, goodD, hok, Bool.and_false]; rfl
        have e2 : decE X L = 30 := by rw [decE, if_neg hL, if_neg h2, hok]; rfl
        rw [e1, e2]
        generalize X / 4096 % 68719476736 = F at hgF hF
        have hFz : (64 : Int) ≤ (F : Int) := by omega
        have GF := Lib.hid hgF
        clear e1 e2 h1 h2 hL g0 g0' hX hx0 hx1 hok hgF hF
        rcases hL4 with rfl | rfl | rfl | rfl
        all_goals
          go_enter Try.func44, Try.ntmps44
          go_wp2_with (first
            | (go_at_call 70; with_reducible refine (refGet_to _ 0 0 HX0.out HX1.out _ 1 G0.out).mono ?_; rintro e w' ⟨rfl, x, rfl⟩)
            | (go_at_call 70; with_reducible refine (refGet_to _ 47 12 HX0.out HX1.out _ _ GF.out).mono ?_; rintro e w' ⟨rfl, x, rfl⟩))
          exact bodyPost_ret (v := .tuple #[d0.v, .int .i64 30]) (by simp [results, Try.results44, go_sem]) rfl ⟨rfl, up_to⟩
      · have hFe : X / 4096 % 68719476736 = X / 4096 % 64 := by omega
        rw [hFe] at hgF
        obtain ⟨v, hv⟩ : ∃ v, encV ((X / 4096 % 64 : Nat) : Int) (pgOf L && X.testBit 6) (pgOf L && X.testBit 7) (pgOf L && X.testBit 10) (pgOf L && X.testBit 11) = v := ⟨_, rfl⟩
        have hne := enc_ok X (pgOf L) v hv
        obtain ⟨r6, h6⟩ : ∃ r : Int, ((X / 2 ^ 6 % 2 : Nat) : Int) = r := ⟨_, rfl⟩
        obtain ⟨r7, h7⟩ : ∃ r : Int, ((X / 2 ^ 7 % 2 : Nat) : Int) = r := ⟨_, rfl⟩
        obtain ⟨r10, h10⟩ : ∃ r : Int, ((X / 2 ^ 10 % 2 : Nat) : Int) = r := ⟨_, rfl⟩
        obtain ⟨r11, h11⟩ : ∃ r : Int, ((X / 2 ^ 11 % 2 : Nat) : Int) = r := ⟨_, rfl⟩
        have G6 : Hid (getOr (X : Int) 6 6 = r6) := (got_bit X 6 (by decide)).trans h6; have G7 : Hid (getOr (X : Int) 7 7 = r7) := (got_bit X 7 (by decide)).trans h7
        have G10 : Hid (getOr (X : Int) 10 10 = r10) := (got_bit X 10 (by decide)).trans h10; have G11 : Hid (getOr (X : Int) 11 11 = r11) := (got_bit X 11 (by decide)).trans h11
        have t6 := bit_is X 6 r6 h6; have t7 := bit_is X 7 r7 h7; have t10 := bit_is X 10 r10 h10; have t11 := bit_is X 11 r11 h11
        have HDD : Hid (decD X L = if okD X (pgOf L) then (if L = 3 then ⟨2, ((X / 4096 % 64 : Nat) : Int), X.testBit 10, X.testBit 7, X.testBit 6, X.testBit 11⟩ else ⟨1, ((X / 4096 % 64 : Nat) : Int), false, false, false, false⟩) else d0) := by
          unfold Hid; rw [decD, goodD, decide_eq_true (by omega), Bool.true_and]
        have HDE : Hid (decE X L = if okD X (pgOf L) then 0 else 30) := by unfold Hid; rw [decE, if_neg hL, if_neg h2]
        have hf64 : X / 4096 % 64 < 64 := by omega
        obtain ⟨f, hf⟩ : ∃ f, X / 4096 % 64 = f := ⟨_, rfl⟩
        obtain ⟨q6, k6⟩ : ∃ q, X.testBit 6 = q := ⟨_, rfl⟩
        obtain ⟨q7, k7⟩ : ∃ q, X.testBit 7 = q := ⟨_, rfl⟩
        obtain ⟨q10, k10⟩ : ∃ q, X.testBit 10 = q := ⟨_, rfl⟩
        obtain ⟨q11, k11⟩ : ∃ q, X.testBit 11 = q := ⟨_, rfl⟩
        rw [k6] at t6; rw [k7] at t7; rw [k10] at t10; rw [k11] at t11
        rw [hf, k6, k7, k10, k11] at hv HDD
        rw [hf] at hgF hf64
        have hfz : (f : Int) < 64 := by omega
        have GF := Lib.hid hgF; have HF64 := Lib.hid hf64
        have HV := Lib.hid hv
        obtain ⟨ok, hok⟩ : ∃ ok, okD X (pgOf L) = ok := ⟨_, rfl⟩
        rw [hok] at HDD HDE hne
        clear g0 g0' hX hx0 hx1 h1 h2 hL hF hFe hgF hf64 hf h6 h7 h10 h11 k6 k7 k10 k11 hv hok
        rw [HDD.out, HDE.out]
        obtain ⟨fz, hfe⟩ : ∃ fz : Int, (f : Int) = fz := ⟨_, rfl⟩
        have hf0 : 0 ≤ fz := by omega
        rw [hfe] at hfz ⊢
        have GF2 : Hid (getOr (X : Int) 47 12 = fz) := GF.out.trans hfe
        have HFE := Lib.hid hfe
        have hdec : decide (64 ≤ fz) = false := by simp; omega
        clear hfe
        rcases (by omega : (L = 0 ∨ L = 1 ∨ L = 2) ∨ L = 3) with hL3 | rfl
        · have hpg : pgOf L = false := by rw [pgOf, decide_eq_false (by omega)]
          have HV2 : Hid (encV f false false false false = v) := by have := HV.out; rw [hpg] at this; exact this
          cases ok
          · exact rdec_tab_no X f fz v HX0 HX1 G0 GF2 HFE HF64 hf0 hfz hdec L hL3 HV2 hne w
          · rw [if_pos rfl, if_pos rfl, if_neg (by omega)]
            exact rdec_tab_yes X f fz v HX0 HX1 G0 GF2 HFE HF64 hf0 hfz hdec L hL3 HV2 (by simpa using hne) w
        · have HV2 : Hid (encV f q6 q7 q10 q11 = v) := HV.out
          cases ok
          · exact rdec_pg_no X f fz v HX0 HX1 G0 GF2 HFE HF64 hf0 hfz hdec r6 r7 r10 r11 q6 q7 q10 q11 G6 G7 G10 G11 t6 t7 t10 t11 HV2 hne w
          · exact rdec_pg_yes X f fz v HX0 HX1 G0 GF2 HFE HF64 hf0 hfz hdec r6 r7 r10 r11 q6 q7 q10 q11 G6 G7 G10 G11 t6 t7 t10 t11 HV2 (by simpa using hne) w
end Go.Proofs.Ytcjklghjnbhcdaa
