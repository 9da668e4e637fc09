/- The entries of the TLB and of the walk cache, as plain data. -/
import Derived.Test.YtcjklghjnbhcdaaRow4
import Derived.Test.YtcjklghjnbhcdaaWInv
namespace Go.Proofs.Ytcjklghjnbhcdaa
open Go.RowKit

structure E where
  a : Int
  p : Int
  f : Int
  ro : Bool
deriving DecidableEq
abbrev E.c0 (x : E) : Value := .int .i64 x.a
abbrev E.c1 (x : E) : Value := .int .u64 x.p
abbrev E.c2 (x : E) : Value := .int .i64 x.f
abbrev E.c3 (x : E) : Value := .bool x.ro
def E.enc (x : E) : List Value := [x.c0, x.c1, x.c2, x.c3]
abbrev E.v (x : E) : Value := tlb x.a x.p x.f x.ro
theorem E.enc4 (x : E) : x.enc.length = 4 := rfl
theorem E.enc1 (x : E) : ∀ u ∈ x.enc, u.oneCell' = true := by intro u hu; simp [E.enc, Value.oneCell'] at hu ⊢; rcases hu with rfl | rfl | rfl | rfl <;> rfl

structure S where
  a : Int
  l : Int
  p : Int
  f : Int
deriving DecidableEq
abbrev S.c0 (x : S) : Value := .int .i64 x.a
abbrev S.c1 (x : S) : Value := .int .i8 x.l
abbrev S.c2 (x : S) : Value := .int .u64 x.p
abbrev S.c3 (x : S) : Value := .int .i64 x.f
def S.enc (x : S) : List Value := [x.c0, x.c1, x.c2, x.c3]
abbrev S.v (x : S) : Value := stp x.a x.l x.p x.f
theorem S.enc4 (x : S) : x.enc.length = 4 := rfl
theorem S.enc1 (x : S) : ∀ u ∈ x.enc, u.oneCell' = true := by intro u hu; simp [S.enc, Value.oneCell'] at hu ⊢; rcases hu with rfl | rfl | rfl | rfl <;> rfl

def E.may (x : E) : Bool := decide (0 ≤ x.a ∧ x.a ≤ 255 ∧ x.p < 34359738368 ∧ 0 ≤ x.f ∧ x.f < 64)
def E.same (x y : E) : Bool := decide (x.a = y.a ∧ x.p = y.p)
/-- How many beginnings there are at a level. -/
def topOf (l : Int) : Int := if l = 1 then 131072 else if l = 2 then 67108864 else 34359738368
def S.may (x : S) : Bool := decide (0 ≤ x.a ∧ x.a ≤ 255 ∧ 1 ≤ x.l ∧ x.l ≤ 3 ∧ x.p < topOf x.l ∧ 0 ≤ x.f ∧ x.f < 64)
def S.same (x y : S) : Bool := decide (x.a = y.a ∧ x.l = y.l ∧ x.p = y.p)

/-- A row may be. -/
def Chk {α : Type} (most : Nat) (may : α → Bool) (same : α → α → Bool) (l : List α) : Prop :=
  l.length ≤ most ∧ ∀ (i : Nat) x, l[i]? = some x → may x = true ∧ (l.take i).any (same x) = false
open Classical in
noncomputable def chkV {α : Type} (most : Nat) (may : α → Bool) (same : α → α → Bool) (l : List α) : Int := if Chk most may same l then 0 else 2
theorem chk_yes {α : Type} {most : Nat} {may : α → Bool} {same : α → α → Bool} {l : List α} (h : Chk most may same l) : chkV most may same l = 0 := by rw [chkV, if_pos h]
theorem chk_no {α : Type} {most : Nat} {may : α → Bool} {same : α → α → Bool} {l : List α} (h : ¬ Chk most may same l) : chkV most may same l = 2 := by rw [chkV, if_neg h]

/-- A row behind an entry is put in. -/
def fillL {α : Type} (most : Nat) (same : α → α → Bool) (l : List α) (x : α) : List α :=
  if l.findIdx (same x) < l.length then l.set (l.findIdx (same x)) x else l.drop (l.length + 1 - most) ++ [x]
theorem has_take {α : Type} {enc : α → List Value} {W : World} {b o : Nat} {l : List α} (hR : RowAt enc W b o l) (hb : b < W.heap.size) (j cap : Nat) (hj : j ≤ l.length) (hc : l.length ≤ cap) :
    Has enc W (.slice (some ⟨b, o, none⟩) j cap) (l.take j) := by
  by_cases h0 : l.take j = []
  · refine .inl ⟨h0, .inr ⟨⟨b, o, none⟩, cap, ?_⟩⟩
    have : (l.take j).length = 0 := by rw [h0]; rfl
    rw [List.length_take] at this
    have hj0 : j = 0 := by omega
    subst hj0; rfl
  · refine .inr ⟨h0, b, o, cap, ?_, ?_, hb, ?_⟩
    · rw [List.length_take, Nat.min_eq_left hj]
    · rw [List.length_take]; omega
    · intro i x hi
      rw [List.getElem?_take] at hi
      split at hi
      · exact hR i x hi
      · cases hi
end Go.Proofs.Ytcjklghjnbhcdaa
