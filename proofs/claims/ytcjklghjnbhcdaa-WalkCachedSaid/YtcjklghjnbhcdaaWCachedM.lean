/- The plain law of a walk that begins at a kept step: it comes to the same. -/
import Derived.Test.YtcjklghjnbhcdaaWTouchM
import Derived.Test.YtcjklghjnbhcdaaWAll
import Derived.Test.YtcjklghjnbhcdaaWRefE
namespace Go.Proofs.Ytcjklghjnbhcdaa
open Go.RowKit

/-- The frame of a page's walk at a level, if it comes so far. -/
def pathF (m : Nat → Nat) (n : Nat) (q root : Int) : Nat → Option Int
  | 0 => some root
  | k + 1 => match pathF m n q root k with
    | some f => if wordN q k f / 512 < n ∧ (decD (m (wordN q k f)) k).kind = 1 then some (decD (m (wordN q k f)) k).frame else none
    | none => none
theorem pathF_succ {m : Nat → Nat} {n : Nat} {q root f : Int} {k : Nat} (h : pathF m n q root k = some f) (h1 : wordN q k f / 512 < n) (h2 : (decD (m (wordN q k f)) k).kind = 1) : pathF m n q root (k + 1) = some (decD (m (wordN q k f)) k).frame := by
  show (match pathF m n q root k with | some f => if wordN q k f / 512 < n ∧ (decD (m (wordN q k f)) k).kind = 1 then some (decD (m (wordN q k f)) k).frame else none | none => none) = _
  rw [h]; simp only [if_pos (And.intro h1 h2)]
theorem pathF_inv {m : Nat → Nat} {n : Nat} {q root g : Int} {k : Nat} (h : pathF m n q root (k + 1) = some g) : ∃ f, pathF m n q root k = some f ∧ wordN q k f / 512 < n ∧ (decD (m (wordN q k f)) k).kind = 1 ∧ g = (decD (m (wordN q k f)) k).frame := by
  have h' : (match pathF m n q root k with | some f => if wordN q k f / 512 < n ∧ (decD (m (wordN q k f)) k).kind = 1 then some (decD (m (wordN q k f)) k).frame else none | none => none) = some g := h
  cases hk : pathF m n q root k with
  | none => rw [hk] at h'; simp at h'
  | some f =>
    rw [hk] at h'
    simp only at h'
    split at h'
    · rename_i hc
      exact ⟨f, rfl, hc.1, hc.2, (Option.some.inj h').symm⟩
    · cases h'

/-- Walked on from where it came. -/
theorem walk_from {m : Nat → Nat} {n : Nat} {a p root : Int} : ∀ (k : Nat), k ≤ 3 → ∀ f, pathF m n p root k = some f → walkGo m n a p 4 0 root = walkGo m n a p (4 - k) k f
  | 0, _, f, h => by
    have : root = f := by simpa [pathF] using h
    rw [this]; rfl
  | k + 1, hk, f, h => by
    obtain ⟨g, h1, h2, h3, h4⟩ := pathF_inv h
    rw [walk_from k (by omega) g h1]
    rw [show 4 - k = (4 - (k + 1)) + 1 by omega]
    rw [walkGo, if_pos h2, if_pos h3, h4]
    congr 1
    

theorem index_of_prefix {p q : Int} {L : Int} (hL : L = 1 ∨ L = 2 ∨ L = 3) (h : prefixV p L = prefixV q L) (k : Int) (k0 : 0 ≤ k) (kL : k < L) : indexV p k = indexV q k := by
  rcases hL with rfl | rfl | rfl
  · have : k = 0 := by omega
    subst this
    simp only [prefixV, indexV] at h ⊢
    simp at h ⊢
    omega
  · rcases (by omega : k = 0 ∨ k = 1) with rfl | rfl
    · simp only [prefixV, indexV] at h ⊢
      simp at h ⊢
      omega
    · simp only [prefixV, indexV] at h ⊢
      simp at h ⊢
      omega
  · simp [prefixV] at h
    rw [h]

theorem path_of_prefix {m : Nat → Nat} {n : Nat} {p q root : Int} {L : Int} (hL : L = 1 ∨ L = 2 ∨ L = 3) (h : prefixV p L = prefixV q L) : ∀ k : Nat, (k : Int) ≤ L → pathF m n p root k = pathF m n q root k
  | 0, _ => rfl
  | k + 1, hk => by
    have ih := path_of_prefix (m := m) (n := n) (root := root) hL h k (by omega)
    have hi := index_of_prefix hL h k (by omega) (by omega)
    have hw : ∀ f, wordN p k f = wordN q k f := fun f => by unfold wordN; rw [hi]
    show (match pathF m n p root k with | some f => if wordN p k f / 512 < n ∧ (decD (m (wordN p k f)) k).kind = 1 then some (decD (m (wordN p k f)) k).frame else none | none => none) = (match pathF m n q root k with | some f => if wordN q k f / 512 < n ∧ (decD (m (wordN q k f)) k).kind = 1 then some (decD (m (wordN q k f)) k).frame else none | none => none)
    rw [ih]
    cases pathF m n q root k with
    | none => rfl
    | some f => simp only [hw]

/-- Steps that a page's walk kept. -/
structure Steps (m : Nat → Nat) (n : Nat) (a q root : Int) (L : Nat) (l : List S) : Prop where
  len : l.length ≤ L
  each : ∀ (j : Nat) x, l[j]? = some x → x.a = a ∧ 1 ≤ x.l ∧ x.l ≤ (L : Int) ∧ x.p = prefixV q x.l ∧ pathF m n q root x.l.toNat = some x.f
  rise : ∀ (i j : Nat) x y, i < j → l[i]? = some x → l[j]? = some y → x.l < y.l

theorem path_frame {m : Nat → Nat} {n : Nat} {q root : Int} (r0 : 0 ≤ root) (r1 : root < 64) : ∀ (k : Nat), k ≤ 3 → ∀ f, pathF m n q root k = some f → 0 ≤ f ∧ f < 64
  | 0, _, f, h => by have : root = f := by simpa [pathF] using h
                     omega
  | k + 1, hk, f, h => by
    obtain ⟨g, _, _, h3, h4⟩ := pathF_inv h
    obtain ⟨_, f0, f1⟩ := kind_on (X := m (wordN q k g)) (l := k) (by omega) (by omega) h3
    rw [h4]; exact ⟨f0, f1⟩

theorem prefix_top {q l : Int} (q0 : 0 ≤ q) (q1 : q < 34359738368) (h1 : l = 1 ∨ l = 2 ∨ l = 3) : prefixV q l < topOf l := by
  rcases h1 with rfl | rfl | rfl <;> simp only [prefixV, topOf] <;> simp <;> omega

theorem Steps.chk {m : Nat → Nat} {n : Nat} {a q root : Int} {L : Nat} {l : List S} (h : Steps m n a q root L l) (hL : L ≤ 3) (a0 : 1 ≤ a) (a1 : a ≤ 255) (q0 : 0 ≤ q) (q1 : q < 34359738368) (r0 : 0 ≤ root) (r1 : root < 64) : Chk mostS S.may S.same l := by
  refine ⟨by have := h.len; show l.length ≤ 4; omega, fun i x hx => ?_⟩
  obtain ⟨h1, h2, h3, h4, h5⟩ := h.each i x hx
  obtain ⟨f0, f1⟩ := path_frame r0 r1 x.l.toNat (by omega) _ h5
  constructor
  · simp only [S.may, decide_eq_true_eq]
    refine ⟨by omega, by omega, by omega, by omega, ?_, f0, f1⟩
    rw [h4]; exact prefix_top q0 q1 (by omega)
  · rw [List.any_eq_false]
    intro y hy
    obtain ⟨j, hj, hyj⟩ := List.mem_iff_getElem.1 hy
    have hji : j < i := by rw [List.length_take] at hj; omega
    have hyl : l[j]? = some y := by
      rw [← hyj, List.getElem_take]
      exact List.getElem?_eq_getElem _
    have := h.rise j i y x hji hyl hx
    simp only [S.same, decide_eq_true_eq]
    omega

theorem Steps.snoc {m : Nat → Nat} {n : Nat} {a q root : Int} {L : Nat} {l : List S} (h : Steps m n a q root L l) (x : S) (ha : x.a = a) (hl : x.l = (L : Int) + 1) (hp : x.p = prefixV q x.l) (hf : pathF m n q root (L + 1) = some x.f) : Steps m n a q root (L + 1) (l ++ [x]) := by
  refine ⟨by simp; exact h.len, fun j y hy => ?_, fun i j y z hij hy hz => ?_⟩
  · by_cases hj : j < l.length
    · rw [List.getElem?_append_left hj] at hy
      obtain ⟨h1, h2, h3, h4, h5⟩ := h.each j y hy
      exact ⟨h1, h2, by omega, h4, h5⟩
    · rw [List.getElem?_append_right (by omega)] at hy
      have hj0 : j - l.length = 0 := by
        have := (List.getElem?_eq_some_iff.1 hy).1
        simp at this; omega
      rw [hj0] at hy
      simp at hy
      subst hy
      refine ⟨ha, by omega, by omega, hp, ?_⟩
      rw [show x.l.toNat = L + 1 by omega]; exact hf
  · by_cases hj : j < l.length
    · rw [List.getElem?_append_left hj] at hz
      rw [List.getElem?_append_left (by omega)] at hy
      exact h.rise i j y z hij hy hz
    · rw [List.getElem?_append_right (by omega)] at hz
      have hj0 : j - l.length = 0 := by
        have := (List.getElem?_eq_some_iff.1 hz).1
        simp at this; omega
      rw [hj0] at hz
      simp at hz
      subst hz
      rw [List.getElem?_append_left (by omega)] at hy
      obtain ⟨_, _, h3, _⟩ := h.each i y hy
      omega
theorem Steps.mono {m : Nat → Nat} {n : Nat} {a q root : Int} {L : Nat} {l : List S} (h : Steps m n a q root L l) : Steps m n a q root (L + 1) l :=
  ⟨by have := h.len; omega, fun j x hx => by obtain ⟨h1, h2, h3, h4, h5⟩ := h.each j x hx; exact ⟨h1, h2, by omega, h4, h5⟩, h.rise⟩
theorem Steps.nil (m : Nat → Nat) (n : Nat) (a q root : Int) : Steps m n a q root 0 [] := ⟨by simp, fun j x h => by simp at h, fun i j x y _ h => by simp at h⟩
theorem Steps.fill {m : Nat → Nat} {n : Nat} {a q root : Int} {L : Nat} {l : List S} (h : Steps m n a q root L l) (hL : L ≤ 2) (x : S) (hl : x.l = (L : Int) + 1) : fillL mostS S.same l x = l ++ [x] := by
  rw [fill_miss]
  · have := h.len
    rw [show l.length + 1 - 4 = 0 by omega]; rfl
  · intro i y hy
    obtain ⟨_, _, h3, _⟩ := h.each i y hy
    simp only [S.same, decide_eq_false_iff_not]
    omega

/-- The best step is none, or one of them. -/
theorem bestL_mem (a p : Int) : ∀ (l : List S) (z : S), (l.foldl (fun b x => if better a p b x then x else b) z = z) ∨ ∃ x ∈ l, l.foldl (fun b x => if better a p b x then x else b) z = x ∧ x.a = a ∧ begV p x.l = x.p
  | [], z => .inl rfl
  | y :: r, z => by
    simp only [List.foldl_cons]
    rcases bestL_mem a p r (if better a p z y then y else z) with h | ⟨x, hx, h1, h2, h3⟩
    · rw [h]
      by_cases hb : better a p z y = true
      · rw [if_pos hb]
        refine .inr ⟨y, by simp, rfl, ?_, ?_⟩
        · simp only [better, Bool.and_eq_true, beq_iff_eq] at hb; exact hb.1
        · simp only [better, Bool.and_eq_true, beq_iff_eq] at hb; exact hb.2.1
      · rw [if_neg hb]; exact .inl rfl
    · exact .inr ⟨x, by simp [hx], h1, h2, h3⟩

/-- THE PLAIN LAW. -/
theorem cached_same {m : Nat → Nat} {n : Nat} {a p q root : Int} {L : Nat} {l : List S} (h : Steps m n a q root L l) (hL : L ≤ 3) (hb : 0 < (bestR a p l).l) (hc : Chk mostS S.may S.same l) (r0 : 0 ≤ root) (r1 : root < 64) :
    1 ≤ (bestR a p l).l ∧ (bestR a p l).l ≤ 3 ∧ 0 ≤ (bestR a p l).f ∧ (bestR a p l).f < 64 ∧ walkGo m n a p 4 0 root = walkGo m n a p (4 - (bestR a p l).l).toNat (bestR a p l).l (bestR a p l).f := by
  rw [bestR_yes hc] at hb ⊢
  unfold bestL at hb ⊢
  rcases bestL_mem a p l ⟨0, 0, 0, 0⟩ with h0 | ⟨x, hx, h1, h2, h3⟩
  · rw [h0] at hb; simp at hb
  · rw [h1]
    obtain ⟨j, hj, hxj⟩ := List.mem_iff_getElem.1 hx
    have hxl : l[j]? = some x := by rw [← hxj]; exact List.getElem?_eq_getElem _
    obtain ⟨g1, g2, g3, g4, g5⟩ := h.each j x hxl
    have hl : x.l = 1 ∨ x.l = 2 ∨ x.l = 3 := by omega
    obtain ⟨f0, f1⟩ := path_frame r0 r1 x.l.toNat (by omega) _ g5
    have hpre : prefixV p x.l = prefixV q x.l := by
      rw [← g4, ← h3]
      rcases hl with e | e | e <;> rw [e] <;> simp [prefixV, begV]
    have hpath := (path_of_prefix (m := m) (n := n) (root := root) hl hpre x.l.toNat (by omega)).trans g5
    have := walk_from (a := a) x.l.toNat (by omega) _ hpath
    refine ⟨g2, by omega, f0, f1, ?_⟩
    rw [this]
    congr 1 <;> omega

/-- A walk ends behind at most four steps. -/
theorem walk_four {m : Nat → Nat} {n : Nat} {a p : Int} : ∀ (k : Nat) (l f : Int) (C : Array Value) (c : Int), walkGo m n a p k l f = some (C, c) → c ≤ l + k ∧ l < c
  | 0, _, _, _, _, h => by simp [walkGo] at h
  | k + 1, l, f, C, c, h => by
    rw [walkGo] at h
    split at h
    · split at h
      · have := walk_four k _ _ _ _ h; omega
      · simp at h; omega
    · cases h
end Go.Proofs.Ytcjklghjnbhcdaa
