/- Rows as plain data: what filling and dropping leave, with no program in sight. -/
import Derived.Test.YtpolilljglfkoaaEntry
namespace Go.Proofs.Ytpolilljglfkoaa

section
variable {α κ : Type} [DecidableEq κ] {key : α → κ} {most : Nat} {may : α → Bool} {same : α → α → Bool}

theorem chk_iff (hs : ∀ x y, same x y = decide (key x = key y)) (l : List α) : Chk most may same l ↔ l.length ≤ most ∧ (∀ x ∈ l, may x = true) ∧ (l.map key).Nodup := by
  have hnd : (l.map key).Nodup ↔ ∀ (i j : Nat) x y, i < j → l[i]? = some x → l[j]? = some y → key x ≠ key y := by
    rw [List.Nodup, List.pairwise_iff_getElem]
    constructor
    · intro h i j x y hij hi hj
      obtain ⟨hi1, rfl⟩ := List.getElem?_eq_some_iff.1 hi
      obtain ⟨hj1, rfl⟩ := List.getElem?_eq_some_iff.1 hj
      have := h i j (by simpa using hi1) (by simpa using hj1) hij
      simpa using this
    · intro h i j hi hj hij
      have hi1 : i < l.length := by simpa using hi
      have hj1 : j < l.length := by simpa using hj
      have := h i j _ _ hij (List.getElem?_eq_getElem hi1) (List.getElem?_eq_getElem hj1)
      simpa using this
  rw [hnd]
  constructor
  · rintro ⟨h1, h2⟩
    refine ⟨h1, ?_, ?_⟩
    · intro x hx
      obtain ⟨i, hi, rfl⟩ := List.mem_iff_getElem.1 hx
      exact (h2 i _ (List.getElem?_eq_getElem hi)).1
    · intro i j x y hij hi hj he
      have h3 := (h2 j y hj).2
      rw [List.any_eq_false] at h3
      have hj1 := (List.getElem?_eq_some_iff.1 hj).1
      refine h3 x ?_ ?_
      · rw [List.mem_take_iff_getElem]
        obtain ⟨hi1, rfl⟩ := List.getElem?_eq_some_iff.1 hi
        exact ⟨i, by omega, rfl⟩
      · rw [hs]; simp [he]
  · rintro ⟨h1, h2, h3⟩
    refine ⟨h1, fun i x hi => ?_⟩
    obtain ⟨hi1, rfl⟩ := List.getElem?_eq_some_iff.1 hi
    refine ⟨h2 _ (List.getElem_mem hi1), ?_⟩
    rw [List.any_eq_false]
    intro y hy
    rw [List.mem_take_iff_getElem] at hy
    obtain ⟨j, hj, rfl⟩ := hy
    rw [hs]
    have := h3 j i _ _ (by omega) (List.getElem?_eq_getElem (by omega)) hi
    simp only [decide_eq_true_eq]
    exact fun e => this e.symm

theorem chk_filter (hs : ∀ x y, same x y = decide (key x = key y)) (p : α → Bool) {l : List α} (h : Chk most may same l) : Chk most may same (l.filter p) := by
  rw [chk_iff hs] at h ⊢
  obtain ⟨h1, h2, h3⟩ := h
  refine ⟨Nat.le_trans (List.length_filter_le _ _) h1, fun x hx => h2 x (List.mem_filter.1 hx).1, ?_⟩
  exact List.Nodup.sublist ((List.filter_sublist).map key) h3

theorem findIdx_key (hs : ∀ x y, same x y = decide (key x = key y)) {l : List α} {e : α} (hk : l.findIdx (same e) < l.length) : key e = key l[l.findIdx (same e)] := by
  have := List.findIdx_getElem (w := hk)
  rw [hs] at this
  simpa using this

theorem fill_keys (hs : ∀ x y, same x y = decide (key x = key y)) {l : List α} {e : α} (hk : l.findIdx (same e) < l.length) : (l.set (l.findIdx (same e)) e).map key = l.map key := by
  have h := findIdx_key hs hk
  apply List.ext_getElem
  · simp
  · intro i h1 h2
    simp only [List.getElem_map, List.getElem_set]
    split
    · rename_i hi; subst hi; exact h
    · rfl

theorem chk_fill (hs : ∀ x y, same x y = decide (key x = key y)) (hm : 0 < most) {l : List α} {e : α} (h : Chk most may same l) (he : may e = true) : Chk most may same (fillL most same l e) := by
  rw [chk_iff hs] at h ⊢
  obtain ⟨h1, h2, h3⟩ := h
  unfold fillL
  split
  · rename_i hk
    refine ⟨by rw [List.length_set]; exact h1, ?_, by rw [fill_keys hs hk]; exact h3⟩
    intro x hx
    rcases List.mem_or_eq_of_mem_set hx with hx | rfl
    · exact h2 x hx
    · exact he
  · rename_i hk
    refine ⟨by simp; omega, ?_, ?_⟩
    · intro x hx
      rcases List.mem_append.1 hx with hx | hx
      · exact h2 x (List.mem_of_mem_drop hx)
      · rw [List.mem_singleton.1 hx]; exact he
    · rw [List.map_append, List.nodup_append]
      refine ⟨List.Nodup.sublist ((List.drop_sublist _ l).map key) h3, by simp, ?_⟩
      intro a ha b hb hab
      simp only [List.map_cons, List.map_nil, List.mem_singleton] at hb
      subst hb
      obtain ⟨y, hy, rfl⟩ := List.mem_map.1 ha
      refine hk (List.findIdx_lt_length.2 ⟨y, List.mem_of_mem_drop hy, ?_⟩)
      rw [hs]; simp [hab]

/-- Where e itself lies in a row without doubles, filling again changes nothing. -/
theorem fill_mem (hs : ∀ x y, same x y = decide (key x = key y)) {l : List α} {e : α} (hn : (l.map key).Nodup) (he : e ∈ l) : fillL most same l e = l := by
  have hk : l.findIdx (same e) < l.length := List.findIdx_lt_length.2 ⟨e, he, by rw [hs]; simp⟩
  have h := findIdx_key hs hk
  rw [fillL, if_pos hk]
  obtain ⟨m, hm, rfl⟩ := List.mem_iff_getElem.1 he
  have : m = l.findIdx (same l[m]) := by
    rw [List.Nodup, List.pairwise_iff_getElem] at hn
    have hm' : m < (l.map key).length := by simpa using hm
    have hk' : l.findIdx (same l[m]) < (l.map key).length := by simpa using hk
    rcases Nat.lt_trichotomy m (l.findIdx (same l[m])) with h1 | h1 | h1
    · exact (hn _ _ hm' hk' h1 (by simpa using h)).elim
    · exact h1
    · exact (hn _ _ hk' hm' h1 (by simpa using h.symm)).elim
  generalize hq : l.findIdx (same l[m]) = q at *
  subst this
  exact List.set_getElem_self _

theorem fill_again (hs : ∀ x y, same x y = decide (key x = key y)) (hm : 0 < most) {l : List α} {e : α} (h : Chk most may same l) (he : may e = true) : fillL most same (fillL most same l e) e = fillL most same l e := by
  refine fill_mem hs ((chk_iff hs _).1 (chk_fill hs hm h he)).2.2 ?_
  unfold fillL
  split
  · rename_i hk
    exact List.mem_set hk _
  · simp
end

theorem E.same_key (x y : E) : E.same x y = decide ((x.a, x.p) = (y.a, y.p)) := by simp [E.same]
theorem S.same_key (x y : S) : S.same x y = decide ((x.a, x.l, x.p) = (y.a, y.l, y.p)) := by simp [S.same]
theorem filter_swap {α : Type} (p q : α → Bool) (l : List α) : (l.filter p).filter q = (l.filter q).filter p := by
  rw [List.filter_filter, List.filter_filter]
  congr 1; funext x; exact Bool.and_comm _ _
theorem filter_twice {α : Type} (p : α → Bool) (l : List α) : (l.filter p).filter p = l.filter p := by
  rw [List.filter_filter]; simp
end Go.Proofs.Ytpolilljglfkoaa
