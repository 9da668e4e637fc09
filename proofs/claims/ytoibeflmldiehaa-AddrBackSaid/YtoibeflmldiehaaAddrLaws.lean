/- AddrIndices, AddrPages, AddrWords walk to true. -/
import Derived.Test.YtoibeflmldiehaaAddrC
namespace Go.Proofs.Ytoibeflmldiehaa
open Go.RowKit

theorem AddrIndices_walk (p level a b c d : Int) (a1 : (Lit.int .u64 p).wf = true) (_ : (Lit.int .i64 level).wf = true) (_ : (Lit.int .i64 a).wf = true) (_ : (Lit.int .i64 b).wf = true) (_ : (Lit.int .i64 c).wf = true) (_ : (Lit.int .i64 d).wf = true) (w : World) :
    Calls Try.prog 5 #[.int .u64 p, .int .i64 level, .agg #[.int .i64 a, .int .i64 b, .int .i64 c, .int .i64 d]] w fun e w' => e = .returned (.bool true) ∧ ∃ x, w' = ext w x := by
  obtain ⟨p0, p2⟩ := bd_u64 a1
  obtain ⟨i, ie, hi⟩ : ∃ i ie : Int, indexR p level = .tuple #[.int .i64 i, .int .i64 ie] := by unfold indexR; split <;> exact ⟨_, _, rfl⟩
  obtain ⟨q, qe, hq⟩ : ∃ q qe : Int, prefixR p level = .tuple #[.int .u64 q, .int .i64 qe] := by unfold prefixR; split <;> exact ⟨_, _, rfl⟩
  obtain ⟨f, fe, hf⟩ : ∃ f fe : Int, fromR a b c d = .tuple #[.int .u64 f, .int .i64 fe] := by unfold fromR; split <;> exact ⟨_, _, rfl⟩
  go_enter Try.func5, Try.ntmps5
  go_wp2_with (first
    | (go_at_call 20; refine (Index_to _ _ p0 p2 _ hi _).mono ?_; rintro e w' ⟨rfl, x, rfl⟩)
    | (go_at_call 21; refine (refIndex_to _ _ p0 p2 _ hi _).mono ?_; rintro e w' ⟨rfl, x, rfl⟩)
    | (go_at_call 22; refine (Prefix_to _ _ p0 p2 _ hq _).mono ?_; rintro e w' ⟨rfl, x, rfl⟩)
    | (go_at_call 23; refine (refPrefix_to _ _ p0 p2 _ hq _).mono ?_; rintro e w' ⟨rfl, x, rfl⟩)
    | (go_at_call 24; refine (From_to _ _ _ _ _ hf _).mono ?_; rintro e w' ⟨rfl, x, rfl⟩)
    | (go_at_call 25; refine (refFrom_to _ _ _ _ _ hf _).mono ?_; rintro e w' ⟨rfl, x, rfl⟩)
    | (go_at_call 26; refine (wakes2 _).mono ?_; rintro e w' ⟨rfl, x, rfl⟩))
  go_ret; exact ⟨rfl, up_to⟩

theorem AddrPages_walk (v p k : Int) (a1 : (Lit.int .u64 v).wf = true) (a2 : (Lit.int .u64 p).wf = true) (_ : (Lit.int .i64 k).wf = true) (w : World) :
    Calls Try.prog 12 #[.int .u64 v, .int .u64 p, .int .i64 k] w fun e w' => e = .returned (.bool true) ∧ ∃ x, w' = ext w x := by
  obtain ⟨v0, v1⟩ := bd_u64 a1
  obtain ⟨p0, p2⟩ := bd_u64 a2
  obtain ⟨i, ie, hi⟩ : ∃ i ie : Int, vaR p k = .tuple #[.int .u64 i, .int .i64 ie] := by unfold vaR; split <;> exact ⟨_, _, rfl⟩
  go_enter Try.func12, Try.ntmps12
  go_wp2_with (first
    | (go_at_call 40; refine (Va_to _ _ p0 _ hi _).mono ?_; rintro e w' ⟨rfl, x, rfl⟩)
    | (go_at_call 41; refine (refVa_to _ _ p0 _ hi _).mono ?_; rintro e w' ⟨rfl, x, rfl⟩)
    | (go_at_call 42; refine (User_any _ v0 v1 _).mono ?_; rintro e w' ⟨rfl, x, rfl⟩)
    | (go_at_call 43; refine (refUser_any _ v0 v1 _).mono ?_; rintro e w' ⟨rfl, x, rfl⟩)
    | (go_at_call 44; refine (Aligned_any _ v0 v1 _).mono ?_; rintro e w' ⟨rfl, x, rfl⟩)
    | (go_at_call 45; refine (refAligned_any _ v0 v1 _).mono ?_; rintro e w' ⟨rfl, x, rfl⟩)
    | (go_at_call 46; refine (Page_any _ v0 v1 _).mono ?_; rintro e w' ⟨rfl, x, rfl⟩)
    | (go_at_call 47; refine (refPage_any _ v0 v1 _).mono ?_; rintro e w' ⟨rfl, x, rfl⟩)
    | (go_at_call 48; refine (Place_any _ v0 v1 _).mono ?_; rintro e w' ⟨rfl, x, rfl⟩)
    | (go_at_call 49; refine (refPlace_any _ v0 v1 _).mono ?_; rintro e w' ⟨rfl, x, rfl⟩)
    | (go_at_call 26; refine (wakes2 _).mono ?_; rintro e w' ⟨rfl, x, rfl⟩))
  go_ret; exact ⟨rfl, up_to⟩

theorem AddrWords_walk (f k v : Int) (_ : (Lit.int .i64 f).wf = true) (_ : (Lit.int .i64 k).wf = true) (a3 : (Lit.int .u64 v).wf = true) (w : World) :
    Calls Try.prog 13 #[.int .i64 f, .int .i64 k, .int .u64 v] w fun e w' => e = .returned (.bool true) ∧ ∃ x, w' = ext w x := by
  obtain ⟨v0, v1⟩ := bd_u64 a3
  obtain ⟨i, ie, hi⟩ : ∃ i ie : Int, wordR f k = .tuple #[.int .u64 i, .int .i64 ie] := by unfold wordR; split <;> exact ⟨_, _, rfl⟩
  obtain ⟨s, t, hs⟩ : ∃ s t : Int, splitR v = .tuple #[.int .i64 s, .int .i64 t] := by unfold splitR; split <;> exact ⟨_, _, rfl⟩
  go_enter Try.func13, Try.ntmps13
  go_wp2_with (first
    | (go_at_call 50; refine (Word_to _ _ _ hi _).mono ?_; rintro e w' ⟨rfl, x, rfl⟩)
    | (go_at_call 51; refine (refWord_to _ _ _ hi _).mono ?_; rintro e w' ⟨rfl, x, rfl⟩)
    | (go_at_call 52; refine (Split_to _ v0 v1 _ hs _).mono ?_; rintro e w' ⟨rfl, x, rfl⟩)
    | (go_at_call 53; refine (refSplit_to _ v0 v1 _ hs _).mono ?_; rintro e w' ⟨rfl, x, rfl⟩)
    | (go_at_call 26; refine (wakes2 _).mono ?_; rintro e w' ⟨rfl, x, rfl⟩))
  go_ret; exact ⟨rfl, up_to⟩

theorem vaR_yes {p k : Int} (h1 : p < 34359738368) (h2 : 0 ≤ k) (h3 : k < 512) : vaR p k = .tuple #[.int .u64 (p * 4096 + k * 8), .int .i64 0] := by rw [vaR, if_pos ⟨h1, h2, h3⟩]

theorem order_core (a b x y A B X Y p q : Int) (hA : a % 34359738368 = A) (hB : b % 34359738368 = B) (hX : (wrap64 (x.tmod 512 + 512)).tmod 512 = X) (hY : (wrap64 (y.tmod 512 + 512)).tmod 512 = Y)
    (A0 : 0 ≤ A) (B0 : 0 ≤ B) (a0 : 0 ≤ a) (a5 : a < 18446744073709551616) (b0 : 0 ≤ b) (b5 : b < 18446744073709551616)
    (hp : vaR A X = .tuple #[.int .u64 p, .int .i64 0]) (hq : vaR B Y = .tuple #[.int .u64 q, .int .i64 0])
    (h : (A < B ∧ p < q ∧ (A == B) = false ∧ (p == q) = false) ∨ (B < A ∧ q < p ∧ (A == B) = false ∧ (p == q) = false ∧ decide (A < B) = false ∧ decide (p < q) = false) ∨
      (B = A ∧ X < Y ∧ p < q ∧ (p == q) = false ∧ (X == Y) = false) ∨ (B = A ∧ Y < X ∧ q < p ∧ (p == q) = false ∧ (X == Y) = false ∧ decide (X < Y) = false ∧ decide (p < q) = false) ∨ (B = A ∧ Y = X ∧ q = p)) (w : World) :
    Calls Try.prog 11 #[.int .u64 a, .int .u64 b, .int .i64 x, .int .i64 y] w fun e w' => e = .returned (.bool true) ∧ ∃ x, w' = ext w x := by
  rcases h with ⟨h1, h2, h3, h4⟩ | ⟨h1, h2, h3, h4, h5, h6⟩ | ⟨rfl, h1, h2, h3, h4⟩ | ⟨rfl, h1, h2, h3, h4, h5, h6⟩ | ⟨rfl, rfl, rfl⟩
  all_goals
    go_enter Try.func11, Try.ntmps11
    go_wp2_with (first
      | (go_at_call 40; ((with_reducible refine (Va_to _ _ A0 _ hp _).mono ?_); rintro e w' ⟨rfl, x, rfl⟩))
      | (go_at_call 40; ((with_reducible refine (Va_to _ _ B0 _ hq _).mono ?_); rintro e w' ⟨rfl, x, rfl⟩))
      | (go_at_call 26; refine (wakes2 _).mono ?_; rintro e w' ⟨rfl, x, rfl⟩))
    go_ret; exact ⟨rfl, up_to⟩

theorem mod512 (x : Int) : ∃ X, (wrap64 (x.tmod 512 + 512)).tmod 512 = X ∧ 0 ≤ X ∧ X < 512 := by
  have h1 := Int.tmod_lt_of_pos x (b := 512) (by decide)
  have h2 : -512 < x.tmod 512 := by
    have := Int.lt_tmod_of_pos x (b := 512) (by decide)
    omega
  have e : wrap64 (x.tmod 512 + 512) = x.tmod 512 + 512 := by unfold wrap64; omega
  rw [e, Int.tmod_eq_emod_of_nonneg (by omega)]
  exact ⟨_, rfl, by omega, by omega⟩

theorem AddrOrder_walk (a b x y : Int) (a1 : (Lit.int .u64 a).wf = true) (a2 : (Lit.int .u64 b).wf = true) (_ : (Lit.int .i64 x).wf = true) (_ : (Lit.int .i64 y).wf = true) (w : World) :
    Calls Try.prog 11 #[.int .u64 a, .int .u64 b, .int .i64 x, .int .i64 y] w fun e w' => e = .returned (.bool true) ∧ ∃ x, w' = ext w x := by
  obtain ⟨a0, a5⟩ := bd_u64 a1
  obtain ⟨b0, b5⟩ := bd_u64 a2
  obtain ⟨X, hX, X0, X1⟩ := mod512 x
  obtain ⟨Y, hY, Y0, Y1⟩ := mod512 y
  have hA0 : 0 ≤ a % 34359738368 := by omega
  have hB0 : 0 ≤ b % 34359738368 := by omega
  have hA1 : a % 34359738368 < 34359738368 := by omega
  have hB1 : b % 34359738368 < 34359738368 := by omega
  refine order_core a b x y _ _ X Y _ _ rfl rfl hX hY hA0 hB0 a0 a5 b0 b5 (vaR_yes hA1 X0 X1) (vaR_yes hB1 Y0 Y1) ?_ w
  generalize a % 34359738368 = A at *
  generalize b % 34359738368 = B at *
  simp only [beq_eq_false_iff_ne, decide_eq_false_iff_not, ne_eq]
  omega
end Go.Proofs.Ytoibeflmldiehaa
