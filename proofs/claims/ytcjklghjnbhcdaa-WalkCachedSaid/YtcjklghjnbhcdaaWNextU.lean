/- Next, of package walk and of the document, in one sentence each. -/
import Derived.Test.YtcjklghjnbhcdaaWNextA
import Derived.Test.YtcjklghjnbhcdaaWRNextA
import Derived.Test.YtcjklghjnbhcdaaWRNextB
namespace Go.Proofs.Ytcjklghjnbhcdaa
open Go.RowKit

def zero20 : Array Value := #[.bool false, .int .i64 0, .int .u64 0, .int .i8 0, .int .i64 0, .bool false, .int .i64 0, .int .i8 0, .int .u64 0, .int .i64 0, .bool false, .int .i64 0, .int .u64 0, .int .i64 0, .bool false, .bool false, .int .u64 0, .int .i8 0, .bool false, .int .u64 0]
def miss20 (p l : Int) : Array Value := #[.bool false, .int .i64 0, .int .u64 0, .int .i8 0, .int .i64 0, .bool false, .int .i64 0, .int .i8 0, .int .u64 0, .int .i64 0, .bool false, .int .i64 0, .int .u64 0, .int .i64 0, .bool false, .bool true, .int .u64 p, .int .i8 l, .bool false, .int .u64 0]
def on20 (o : Bool) (a p l fr q : Int) : Array Value := #[.bool o, .int .i64 a, .int .u64 p, .int .i8 l, .int .i64 fr, .bool true, .int .i64 a, .int .i8 l, .int .u64 q, .int .i64 fr, .bool false, .int .i64 0, .int .u64 0, .int .i64 0, .bool false, .bool false, .int .u64 0, .int .i8 0, .bool false, .int .u64 0]
def found20 (a p fr : Int) (ro b : Bool) (v : Int) : Array Value := #[.bool false, .int .i64 0, .int .u64 0, .int .i8 0, .int .i64 0, .bool false, .int .i64 0, .int .i8 0, .int .u64 0, .int .i64 0, .bool true, .int .i64 a, .int .u64 p, .int .i64 fr, .bool ro, .bool false, .int .u64 0, .int .i8 0, .bool b, .int .u64 v]
/-- What a walk's step comes to. -/
def nextC (o : Bool) (a p l f : Int) (X : Nat) : Array Value :=
  if chkW o a p l f = 2 then zero20
  else if (decD X l).kind = 1 then on20 o a p (l + 1) (decD X l).frame (prefixV p (l + 1))
  else if (decD X l).kind = 2 ∧ (decD X l).user = true then found20 a p (decD X l).frame (decD X l).ro (touchB X) (if touchB X then (X : Int) + 1024 else 0)
  else miss20 p l

theorem dec_cases (X : Nat) (l : Int) (l0 : 0 ≤ l) (l3 : l ≤ 3) : (decD X l = d0 ∧ decE X l = 0) ∨ (decD X l = d0 ∧ decE X l = 30) ∨
    (l ≤ 2 ∧ decE X l = 0 ∧ decD X l = ⟨1, ((X / 4096 % 64 : Nat) : Int), false, false, false, false⟩) ∨
    (l = 3 ∧ decE X l = 0 ∧ decD X l = ⟨2, ((X / 4096 % 64 : Nat) : Int), X.testBit 10, X.testBit 7, X.testBit 6, X.testBit 11⟩) := by
  have h0 : ¬ (l < 0 ∨ 3 < l) := by omega
  by_cases h1 : X % 2 = 0
  · have hg : goodD X l = false := by unfold goodD; rw [decide_eq_false (by omega)]; rfl
    refine .inl ⟨by unfold decD; rw [hg]; rfl, ?_⟩
    unfold decE; rw [if_neg h0, if_pos h1]
  · cases hk : okD X (pgOf l)
    · have hg : goodD X l = false := by unfold goodD; rw [hk]; simp
      refine .inr (.inl ⟨by unfold decD; rw [hg]; rfl, ?_⟩)
      unfold decE; rw [if_neg h0, if_neg h1, hk]; rfl
    · have hg : goodD X l = true := by unfold goodD; rw [hk, decide_eq_true (by omega)]; rfl
      have he : decE X l = 0 := by unfold decE; rw [if_neg h0, if_neg h1, hk]; rfl
      by_cases h3 : l = 3
      · refine .inr (.inr (.inr ⟨h3, he, ?_⟩))
        unfold decD; rw [hg, if_pos rfl, if_pos h3]
      · refine .inr (.inr (.inl ⟨by omega, he, ?_⟩))
        unfold decD; rw [hg, if_pos rfl, if_neg h3]

theorem chkW_two (o : Bool) (a p l f : Int) : chkW o a p l f = 2 ∨ (chkW o a p l f = 0 ∧ o = true ∧ 0 ≤ l ∧ l ≤ 3 ∧ 0 ≤ f ∧ f < 64 ∧ 1 ≤ a ∧ a ≤ 255 ∧ p < 34359738368) := by
  unfold chkW; split
  · rename_i h; exact .inr ⟨rfl, h⟩
  · exact .inl rfl

theorem nextC_bad {o : Bool} {a p l f : Int} {X : Nat} (h : chkW o a p l f = 2) : nextC o a p l f X = zero20 := by unfold nextC; rw [if_pos h]
theorem nextC_miss {o : Bool} {a p l f : Int} {X : Nat} (h : chkW o a p l f = 0) (hd : decD X l = d0) : nextC o a p l f X = miss20 p l := by
  unfold nextC; rw [if_neg (by omega), hd, if_neg (by simp [d0]), if_neg (by simp [d0])]
theorem nextC_on {o : Bool} {a p l f fr : Int} {X : Nat} (h : chkW o a p l f = 0) (hd : decD X l = ⟨1, fr, false, false, false, false⟩) : nextC o a p l f X = on20 o a p (l + 1) fr (prefixV p (l + 1)) := by
  unfold nextC; rw [if_neg (by omega), hd, if_pos rfl]
theorem nextC_no {o : Bool} {a p l f fr : Int} {b1 b2 b4 : Bool} {X : Nat} (h : chkW o a p l f = 0) (hd : decD X l = ⟨2, fr, b1, b2, false, b4⟩) : nextC o a p l f X = miss20 p l := by
  unfold nextC; rw [if_neg (by omega), hd, if_neg (by simp), if_neg (by simp)]
theorem nextC_yes {o : Bool} {a p l f fr : Int} {b1 b2 b4 : Bool} {X : Nat} (h : chkW o a p l f = 0) (hd : decD X l = ⟨2, fr, b1, b2, true, b4⟩) : nextC o a p l f X = found20 a p fr b2 (touchB X) (if touchB X then (X : Int) + 1024 else 0) := by
  unfold nextC; rw [if_neg (by omega), hd, if_neg (by simp), if_pos ⟨rfl, rfl⟩]

theorem next_any (o : Bool) (a p l f : Int) (p0 : 0 ≤ p) (X : Nat) (hX : X < 18446744073709551616) (w : World) :
    Calls Try.prog 20 #[.agg #[.bool o, .int .i64 a, .int .u64 p, .int .i8 l, .int .i64 f], .int .u64 (X : Int)] w fun e w' => e = .returned (.tuple #[.agg (nextC o a p l f X), .int .i64 (chkW o a p l f)]) ∧ ∃ x, w' = ext w x := by
  rcases chkW_two o a p l f with hc | ⟨hc, _, l0, l3, _, _, _, _, p1⟩
  · rw [nextC_bad hc, hc]; exact next_bad o a p l f X hc w
  · rcases dec_cases X l l0 l3 with ⟨hd, he⟩ | ⟨hd, he⟩ | ⟨h2, he, hd⟩ | ⟨rfl, he, hd⟩
    · rw [nextC_miss hc hd, hc]; exact next_miss0 o a p l f l0 l3 X hX hc hd he w
    · rw [nextC_miss hc hd, hc]; exact next_miss30 o a p l f l0 l3 X hX hc hd he w
    · rw [nextC_on hc hd, hc]; exact next_on o a p l f X hX hc p0 p1 (by omega) _ hd _ rfl _ rfl he w
    · cases hu : X.testBit 6
      · rw [hu] at hd
        rw [nextC_no hc hd, hc]; exact next_found_no o a p f X hX hc _ _ _ _ hd _ rfl _ rfl he w
      · rw [hu] at hd
        rw [nextC_yes hc hd, hc]; exact next_found_yes o a p f X hX hc _ _ _ _ hd _ rfl _ rfl he w

theorem rnext_any (o : Bool) (a p l f : Int) (p0 : 0 ≤ p) (X : Nat) (hX : X < 18446744073709551616) (w : World) :
    Calls Try.prog 21 #[.agg #[.bool o, .int .i64 a, .int .u64 p, .int .i8 l, .int .i64 f], .int .u64 (X : Int)] w fun e w' => e = .returned (.tuple #[.agg (nextC o a p l f X), .int .i64 (chkW o a p l f)]) ∧ ∃ x, w' = ext w x := by
  rcases chkW_two o a p l f with hc | ⟨hc, _, l0, l3, _, _, _, _, p1⟩
  · rw [nextC_bad hc, hc]; exact rnext_bad o a p l f X hc w
  · rcases dec_cases X l l0 l3 with ⟨hd, he⟩ | ⟨hd, he⟩ | ⟨h2, he, hd⟩ | ⟨rfl, he, hd⟩
    · rw [nextC_miss hc hd, hc]; exact rnext_miss0 o a p l f l0 l3 X hX hc hd he w
    · rw [nextC_miss hc hd, hc]; exact rnext_miss30 o a p l f l0 l3 X hX hc hd he w
    · rw [nextC_on hc hd, hc]
      have hq : prefixR p (l + 1) = .tuple #[.int .u64 (prefixV p (l + 1)), .int .i64 0] := by unfold prefixR okPL; rw [decide_eq_true (by omega)]; rfl
      rcases (by omega : l = 0 ∨ l = 1 ∨ l = 2) with rfl | rfl | rfl
      · exact rnext_on0 o a p f X hX hc p0 p1 _ hd he _ hq w
      · exact rnext_on1 o a p f X hX hc p0 p1 _ hd he _ hq w
      · exact rnext_on2 o a p f X hX hc p0 p1 _ hd he _ hq w
    · cases hu : X.testBit 6
      · rw [hu] at hd
        rw [nextC_no hc hd, hc]; exact rnext_found_no o a p f X hX hc _ _ _ _ hd he w
      · rw [hu] at hd
        rw [nextC_yes hc hd, hc]
        cases hb : touchB X
        · exact rnext_found_y0 o a p f X hX hc _ _ _ _ hd he hb w
        · exact rnext_found_y1 o a p f X hX hc _ _ _ _ hd he hb _ (by unfold touchV; rw [hb]; rfl) w
theorem nextC_size (o : Bool) (a p l f : Int) (X : Nat) : (nextC o a p l f X).size = 20 := by
  unfold nextC; repeat' split
  all_goals rfl
theorem nextC_one (o : Bool) (a p l f : Int) (X : Nat) : (nextC o a p l f X).all (·.oneCell') = true := by
  unfold nextC; repeat' split
  all_goals simp [zero20, miss20, on20, found20, Value.oneCell']
end Go.Proofs.Ytcjklghjnbhcdaa
