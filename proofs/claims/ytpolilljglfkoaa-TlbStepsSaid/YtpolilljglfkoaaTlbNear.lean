/- Best as plain data: it is nearest, and behind an invalidation of the page there is none. -/
import Derived.Test.YtpolilljglfkoaaTlbBest
import Derived.Test.YtpolilljglfkoaaTlbPlain
namespace Go.Proofs.Ytpolilljglfkoaa

/-- Does an entry speak of the page? -/
def hitS (a q : Int) (x : S) : Bool := (x.a == a) && (begV q x.l == x.p)
theorem better_hit (a q : Int) (b x : S) : better a q b x = (hitS a q x && decide (b.l < x.l)) := by
  unfold better hitS; rw [Bool.and_assoc]

theorem fold_best (a q : Int) (l : List S) : ∀ b : S, b.l ≤ (l.foldl (fun b x => if better a q b x then x else b) b).l ∧ (∀ x ∈ l, hitS a q x = true → x.l ≤ (l.foldl (fun b x => if better a q b x then x else b) b).l) ∧
    ((l.foldl (fun b x => if better a q b x then x else b) b) = b ∨ ((l.foldl (fun b x => if better a q b x then x else b) b) ∈ l ∧ hitS a q (l.foldl (fun b x => if better a q b x then x else b) b) = true)) := by
  induction l with
  | nil => intro b; simp
  | cons y l ih =>
    intro b
    simp only [List.foldl_cons]
    cases hb : better a q b y
    · obtain ⟨h1, h2, h3⟩ := ih b
      simp only [Bool.false_eq_true, if_false]
      refine ⟨h1, fun x hx hh => ?_, ?_⟩
      · rcases List.mem_cons.1 hx with rfl | hx
        · rw [better_hit, hh] at hb
          simp at hb
          omega
        · exact h2 x hx hh
      · rcases h3 with h3 | ⟨h3, h4⟩
        · exact .inl h3
        · exact .inr ⟨List.mem_cons_of_mem _ h3, h4⟩
    · obtain ⟨h1, h2, h3⟩ := ih y
      simp only [if_true]
      rw [better_hit] at hb
      simp only [Bool.and_eq_true, decide_eq_true_eq] at hb
      refine ⟨by omega, fun x hx hh => ?_, ?_⟩
      · rcases List.mem_cons.1 hx with rfl | hx
        · exact h1
        · exact h2 x hx hh
      · rcases h3 with h3 | ⟨h3, h4⟩
        · rw [h3]; exact .inr ⟨List.mem_cons_self, hb.1⟩
        · exact .inr ⟨List.mem_cons_of_mem _ h3, h4⟩

theorem best_near (a q : Int) (l : List S) : ∀ x ∈ l, hitS a q x = true → x.l ≤ (bestL a q l).l := (fold_best a q l ⟨0, 0, 0, 0⟩).2.1
theorem best_is (a q : Int) (l : List S) : bestL a q l = ⟨0, 0, 0, 0⟩ ∨ (bestL a q l ∈ l ∧ hitS a q (bestL a q l) = true) := (fold_best a q l ⟨0, 0, 0, 0⟩).2.2

/-- There is a best one just if some entry speaks of the page. -/
theorem best_some (a q : Int) (l : List S) (hm : ∀ x ∈ l, x.may = true) : decide (0 < (bestL a q l).l) = l.any (hitS a q) := by
  rw [Bool.eq_iff_iff, decide_eq_true_eq, List.any_eq_true]
  constructor
  · intro h
    rcases best_is a q l with e | ⟨h1, h2⟩
    · rw [e] at h; simp at h
    · exact ⟨_, h1, h2⟩
  · rintro ⟨x, hx, hh⟩
    have h1 := best_near a q l x hx hh
    have h2 := may_lev (hm x hx)
    omega

theorem hit_drops (a q : Int) (x : S) (ha0 : 0 ≤ a) (ha1 : a ≤ 255) (hq : q < 34359738368) (hL : x.l = 1 ∨ x.l = 2 ∨ x.l = 3) (h : hitS a q x = true) : S.hits 2 a q x = true := by
  have hm : mayB 2 a q = true := by simp [mayB]; omega
  simp only [hitS, Bool.and_eq_true, beq_iff_eq] at h
  obtain ⟨h1, h2⟩ := h
  unfold S.hits hitsStepB hitsB begB
  unfold begV at h2
  rcases hL with hl | hl | hl <;> rw [hl] at h2 ⊢ <;> simp at h2 ⊢ <;> simp_all

/-- Behind an invalidation of the page nothing speaks of it. -/
theorem best_gone (a q : Int) (l : List S) (ha0 : 0 ≤ a) (ha1 : a ≤ 255) (hq : q < 34359738368) (hm : ∀ x ∈ l, x.may = true) : bestL a q (l.filter fun x => !S.hits 2 a q x) = ⟨0, 0, 0, 0⟩ := by
  rcases best_is a q (l.filter fun x => !S.hits 2 a q x) with h | ⟨h1, h2⟩
  · exact h
  · obtain ⟨h3, h4⟩ := List.mem_filter.1 h1
    rw [hit_drops a q _ ha0 ha1 hq (may_lev (hm _ h3)) h2] at h4
    cases h4
end Go.Proofs.Ytpolilljglfkoaa
