/- What the document says of the memory that is made: the walk laws' wakes. -/
import Derived.Test.YtcjklghjnbhcdaaWMade
namespace Go.Proofs.Ytcjklghjnbhcdaa
open Go.RowKit

theorem go1 : walkGo made4 16 5 0 4 0 1 = some (found20 5 0 9 false true 40003, 4) := by kernel_rfl
theorem go5 : walkGo made4 16 5 0 4 0 5 = some (miss20 0 0, 1) := by kernel_rfl
theorem chk_step : Chk mostS S.may S.same [⟨5, 3, 0, 4⟩] := by
  refine ⟨by decide, fun i x h => ?_⟩
  match i with
  | 0 =>
    simp at h; subst h
    exact ⟨by decide, rfl⟩
  | j + 1 => simp at h
theorem begin_ok1 (l : List S) (h : Chk mostS S.may S.same l) (r : Int) (h1 : 1 ≤ r) (h2 : r < 64) : beginOk r 5 0 l := ⟨h1, by unfold chkW; rw [if_pos ⟨rfl, by omega, by omega, by omega, by omega, by omega, by omega, by omega⟩], h⟩
theorem best_step : bestR 5 0 [⟨5, 3, 0, 4⟩] = ⟨5, 3, 0, 4⟩ := by rw [bestR_yes chk_step]; decide
theorem begC : beginC 1 5 0 [⟨5, 3, 0, 4⟩] = #[.bool true, .int .i64 5, .int .u64 0, .int .i8 3, .int .i64 4] := by
  rw [beginC, if_pos (begin_ok1 _ chk_step 1 (by decide) (by decide)), best_step, if_pos (by decide)]
theorem begE : beginE 1 5 0 [⟨5, 3, 0, 4⟩] = 0 := by rw [beginE, if_pos (begin_ok1 _ chk_step 1 (by decide) (by decide))]
theorem chk_nil : Chk mostS S.may S.same [] := ⟨by simp, fun i x h => by simp at h⟩
theorem all_of {w W : World} {b : Nat} {f : Nat → Nat} {c : Nat} (h : MemOf w W b 16 f c) (root a p : Int) (p0 : 0 ≤ p) (hb : beginOk root a p []) (R : Option (Array Value × Int)) (hR : walkGo f 16 a p 4 0 root = R) (V : Value) (hV : allV R = V) :
    Calls Try.prog 24 #[.pointer (some ⟨b, 0, none⟩), .int .i64 root, .int .i64 a, .int .u64 p] W fun e w' => e = .returned V ∧ ∃ x, w' = ext W x := by
  obtain ⟨F, D, m, fr, h1, _, _⟩ := h
  subst hV
  exact all_any h1 root a p p0 hb R hR

theorem has_one (W : World) (x : S) (t : TypeId) (n : Nat) [h : EqW n W] : Has S.enc (W.alloc (.cells #[x.c0, x.c1, x.c2, x.c3] t)) (.slice (some ⟨n, 0, none⟩) 1 1) [x] := by
  have e := h.eq
  subst e
  refine .inr ⟨by simp, W.heap.size, 0, 1, rfl, Nat.le_refl _, by simp, fun j y hj i v hv => ?_⟩
  match j with
  | 0 =>
    simp at hj; subst hj
    match i with
    | 0 | 1 | 2 | 3 => simp [S.enc] at hv; subst hv; simp [go_sem]
    | i + 4 => simp [S.enc] at hv
  | j + 1 => simp at hj

set_option maxRecDepth 100000 in
set_option maxHeartbeats 2000000 in
theorem wakes12 (w : World) : Calls Try.prog 13 #[] w fun e w' => e = .returned (.bool true) ∧ ∃ x, w' = ext w x := by
  go_enter Try.func13, Try.ntmps13
  go_wp2_with fail
  refine (made_any _).mono ?_
  rintro e w1 ⟨b, c, rfl, h1⟩
  have H1 := Lib.hid h1
  clear h1
  obtain ⟨A, hA⟩ : ∃ A, found20 5 0 9 false true 40003 = A := ⟨_, rfl⟩
  obtain ⟨B, hB⟩ : ∃ B, miss20 0 0 = B := ⟨_, rfl⟩
  have As : A.size = 20 := by rw [← hA]; rfl
  have Ao : A.all (·.oneCell') = true := by rw [← hA]; simp [found20, Value.oneCell']
  have Bs : B.size = 20 := by rw [← hB]; rfl
  have Bo : B.all (·.oneCell') = true := by rw [← hB]; simp [miss20, Value.oneCell']
  have A10 : A[10]? = some (.bool true) := by rw [← hA]; rfl
  have A11 : A[11]? = some (.int .i64 5) := by rw [← hA]; rfl
  have A12 : A[12]? = some (.int .u64 0) := by rw [← hA]; rfl
  have A13 : A[13]? = some (.int .i64 9) := by rw [← hA]; rfl
  have A14 : A[14]? = some (.bool false) := by rw [← hA]; rfl
  have A18 : A[18]? = some (.bool true) := by rw [← hA]; rfl
  have B15 : B[15]? = some (.bool true) := by rw [← hB]; rfl
  have B17 : B[17]? = some (.int .i8 0) := by rw [← hB]; rfl
  have a10 := get_of A10; have a11 := get_of A11; have a12 := get_of A12; have a13 := get_of A13; have a14 := get_of A14; have a18 := get_of A18; have b15 := get_of B15; have b17 := get_of B17
  have G1 : Hid (walkGo made4 16 5 0 4 0 1 = some (A, 4)) := Lib.hid (by rw [← hA]; exact go1)
  have G5 : Hid (walkGo made4 16 5 0 4 0 5 = some (B, 1)) := Lib.hid (by rw [← hB]; exact go5)
  clear hA hB
  simp only []
  repeat (first
    | (go_at_call 24; with_reducible refine (all_of (H1.out.below up_below) 1 5 0 (by decide) (begin_ok1 _ chk_nil 1 (by decide) (by decide)) _ G1.out _ rfl).mono ?_
       rintro e w2 ⟨rfl, z, e2⟩
       have H2 : Hid (MemOf w w2 b 16 made4 c) := Lib.hid (H1.out.below (by rw [e2]; exact ext_below _ _))
       clear e2; simp only [allV])
    | (go_at_call 24; with_reducible refine (all_of (H2.out.below up_below) 5 5 0 (by decide) (begin_ok1 _ chk_nil 5 (by decide) (by decide)) _ G5.out _ rfl).mono ?_
       rintro e w3 ⟨rfl, z3, e3⟩
       have U3 : Up w.heap.size w w3 := (by rw [e3]; exact (H2.out.up.alloc _).ext _)
       have L3 : LtW w2.heap.size w3 := (by subst e3; infer_instance)
       have R3 : RowW w2.heap.size w3 A 58 := (by subst e3; infer_instance)
       clear e3; simp only [allV])
    | (with_reducible refine at_op (.store 58 (.tmp 3) (.tmp 20)) rfl ?_; intro _; refine step_store20 58 (.tmp 3) (.tmp 20) rfl _ _ rfl rfl _ _ inferInstance (by kernel_rfl) rfl As Ao _ rfl ?_; simp only [setRow_new_tc, setRow_alloc_tc, setRow_drew_tc, setRow_ext])
    | (with_reducible refine at_op (.store 58 (.tmp 6) (.tmp 26)) rfl ?_; intro _; refine step_store20 58 (.tmp 6) (.tmp 26) rfl _ _ rfl rfl _ _ inferInstance (by kernel_rfl) rfl Bs Bo _ rfl ?_; simp only [setRow_new_tc, setRow_alloc_tc, setRow_drew_tc, setRow_ext])
    | (go_at_call 14; with_reducible refine (begin_any 1 5 0 [⟨5, 3, 0, 4⟩] _ _ (has_one _ ⟨5, 3, 0, 4⟩ _ _)).mono ?_
       rintro e w4 ⟨e1, z4, e4⟩
       rw [begC, begE] at e1
       have U4 : Up w.heap.size w w4 := (by rw [e4]; exact ((U3.alloc _).alloc _).ext _)
       have L4 : LtW w2.heap.size w4 := (by subst e4; infer_instance)
       have L5 : LtW w3.heap.size w4 := (by subst e4; infer_instance)
       have R4 : RowW w2.heap.size w4 A 58 := (by subst e4; infer_instance)
       have R5 : RowW w3.heap.size w4 B 58 := (by subst e4; infer_instance)
       subst e1; clear e4; simp only [])
    | (go_at_call 14; fail)
    | go_values | go_skip | go_guarded | go_step | go_upon)
  go_ret
  exact ⟨rfl, (U4.alloc _).to⟩
end Go.Proofs.Ytcjklghjnbhcdaa
