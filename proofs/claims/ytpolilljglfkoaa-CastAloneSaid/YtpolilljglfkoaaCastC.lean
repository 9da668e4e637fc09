/- Ack of the cast. -/
import Derived.Test.YtpolilljglfkoaaCastB
namespace Go.Proofs.Ytpolilljglfkoaa
open Go.RowKit

theorem CastAt.set {F : Nat → Prop} {W : World} {c n : Nat} {rows : Nat → List P4} {vs : Nat → Value} (h : CastAt F W c n rows vs) (k : Nat) (hk : k < 9) (v : Value) (l : List P4) (ho : Own P4.enc W 0 v l) (hl : l.length ≤ 16)
    (hv : ∀ g, v.ownBlock = some g → F g ∧ g ≠ c ∧ ∀ j, j < 9 → j ≠ k → (vs j).ownBlock ≠ some g) : CastAt F (W.setCell ⟨c, 1 + k, none⟩ v) c n (upd rows k l) (upd vs k v) := by
  have hC : Chg (fun b => b = c) W (W.setCell ⟨c, 1 + k, none⟩ v) := (Chg.refl _ _).set c _ v (.inl rfl)
  refine ⟨?_, ?_, h.fc, ?_, ?_, h.n8, ?_, fun b hb => by simpa using h.fl b hb⟩
  · have hb := h.blk
    match k, hk with
    | 0, _ | 1, _ | 2, _ | 3, _ | 4, _ | 5, _ | 6, _ | 7, _ | 8, _ => simp [World.setCell, Array.getElem?_modify, hb, upd]
  · intro j hj
    by_cases e : j = k
    · subst e; rw [upd_same, upd_same]; exact ho.chg hC (fun g hg => (hv g hg).2.1)
    · rw [upd_other _ _ _ _ e, upd_other _ _ _ _ e]; exact (h.row j hj).chg hC (fun g hg => (h.fr j g hj hg).2)
  · intro j g hj hg
    by_cases e : j = k
    · subst e; rw [upd_same] at hg; exact ⟨(hv g hg).1, (hv g hg).2.1⟩
    · rw [upd_other _ _ _ _ e] at hg; exact h.fr j g hj hg
  · intro i j g hi hj hij hg
    by_cases e : i = k
    · subst e
      rw [upd_same] at hg
      rw [upd_other _ _ _ _ (Ne.symm hij)]
      exact (hv g hg).2.2 j hj (Ne.symm hij)
    · rw [upd_other _ _ _ _ e] at hg
      by_cases e2 : j = k
      · subst e2; rw [upd_same]; intro hg2; exact (hv g hg2).2.2 i hi e hg
      · rw [upd_other _ _ _ _ e2]; exact h.sep i j g hi hj hij hg
  · intro j hj
    by_cases e : j = k
    · subst e; rw [upd_same]; exact hl
    · rw [upd_other _ _ _ _ e]; exact h.few j hj

set_option maxHeartbeats 1000000 in
theorem ack_bad {W : World} {c n : Nat} (k : Int) [LtW c W] (h0 : W.cell? ⟨c, 0, none⟩ = some (.int .i64 (n : Int))) (hk : (decide (1 ≤ k) && decide (k ≤ (n : Int))) = false) :
    Calls Try.prog 14 #[.pointer (some ⟨c, 0, none⟩), .int .i64 k] W fun e w' => e = .returned (.tuple #[tlbi 0 0 0, .int .i64 2]) ∧ ∃ x, w' = ext W x := by
  go_enter Try.func14, Try.ntmps14
  go_wp2_with (go_at_call 13; with_reducible refine (first_bad (n := n) k (by simp [go_sem, h0]) hk).mono ?_; rintro e w' ⟨rfl, z, rfl⟩)
  exact bodyPost_ret (v := .tuple #[tlbi 0 0 0, .int .i64 2]) (by simp [results, Try.results14, go_sem]) rfl ⟨rfl, up_to⟩

set_option maxHeartbeats 1000000 in
theorem ack_none {F : Nat → Prop} {W : World} {c n : Nat} {rows : Nat → List P4} {vs : Nat → Value} (h : CastAt F W c n rows vs) (k : Nat) (hk1 : 1 ≤ k) (hk2 : k ≤ n) (hr : rows k = []) :
    Calls Try.prog 14 #[.pointer (some ⟨c, 0, none⟩), .int .i64 (k : Int)] W fun e w' => e = .returned (.tuple #[tlbi 0 0 0, .int .i64 4]) ∧ ∃ x, w' = ext W x := by
  have HH : Hid (CastAt F W c n rows vs) := h
  have HR := Lib.hid hr
  clear h hr
  go_enter Try.func14, Try.ntmps14
  go_wp2_with (go_at_call 13; with_reducible refine (first_none (HH.out.below up_below) k hk1 hk2 HR.out).mono ?_; rintro e w' ⟨rfl, z, rfl⟩)
  exact bodyPost_ret (v := .tuple #[tlbi 0 0 0, .int .i64 4]) (by simp [results, Try.results14, go_sem]) rfl ⟨rfl, up_to⟩

/-- The row behind its first pair went. -/
theorem own_tail {W : World} {g o cap : Nat} {x : P4} {l : List P4} (h : OwnS P4.enc W 0 g o cap (x :: l)) : Own P4.enc W 0 (if cap = 1 then .slice (some ⟨g, o, none⟩) 0 0 else .slice (some ⟨g, o + 4, none⟩) l.length (cap - 1)) l := by
  have hd := (h.drop 1 (by simp)).own
  have hl := h.len
  simp only [List.drop_succ_cons, List.drop_zero, Nat.one_mul] at hd
  split
  · rename_i hc
    subst hc
    have h0 : l = [] := by cases l with
      | nil => rfl
      | cons y l => simp at hl
    subst h0
    obtain ⟨cur, t, h1, h2⟩ := h.blk
    exact .inr ⟨g, o, 0, cur, t, rfl, Nat.zero_le _, Nat.le_refl _, h1, by omega, fun j x hj => by simp at hj⟩
  · exact hd

theorem chg_ext {F : Nat → Prop} {W W' : World} (h : Chg F W W') (x : World) : Chg F W (ext W' x) := h.ext x

set_option maxHeartbeats 2000000 in
theorem ack_some {F : Nat → Prop} {W : World} {c n : Nat} {rows : Nat → List P4} {vs : Nat → Value} (h : CastAt F W c n rows vs) (k : Nat) (hk1 : 1 ≤ k) (hk2 : k ≤ n) (x : P4) (l : List P4) (hr : rows k = x :: l) :
    Calls Try.prog 14 #[.pointer (some ⟨c, 0, none⟩), .int .i64 (k : Int)] W fun e w' => e = .returned (.tuple #[tlbi x.k x.a x.p, .int .i64 0]) ∧ Chg (fun b => b = c) W w' ∧ ∃ v, CastAt F w' c n (upd rows k l) (upd vs k v) := by
  have HH : Hid (CastAt F W c n rows vs) := h
  have hn := h.n8
  have hrc := h.cr k (by omega)
  have ho := h.row k (by omega)
  have hf := h.few k (by omega)
  haveI : LtW c W := ⟨h.lt⟩
  have hfc : W.frozen? ⟨c, 1 + k, none⟩ = false := by simp [World.frozen?, h.blk]
  have hk9 : (k : Int) < 9 := by omega
  rw [hr] at ho hf
  rcases ho.shape with ⟨_, h⟩ | ⟨g, o, cap, hv, hs⟩
  · cases h
  · have hset := fun v' (hv' : v' = (if cap = 1 then .slice (some ⟨g, o, none⟩) 0 0 else .slice (some ⟨g, o + 4, none⟩) l.length (cap - 1))) => h.set k (by omega) v' l (by rw [hv']; exact own_tail hs) (by simp at hf; omega) (fun g' hg' => by
      have e : (vs k).ownBlock = some g' := by rw [hv]; rw [hv'] at hg'; split at hg' <;> (simp only [Value.ownBlock] at hg' ⊢; exact hg')
      exact ⟨(h.fr k g' (by omega) e).1, (h.fr k g' (by omega) e).2, fun j hj hjk hjg => h.sep j k g' hj (by omega) hjk hjg e⟩)
    have hset2 : ∀ (v' : Value) (W2 W3 : World) (q : Nat), Below W.heap.size W W2 → W.heap.size ≤ q → v' = (if cap = 1 then .slice (some ⟨g, o, none⟩) 0 0 else .slice (some ⟨g, o + 4, none⟩) l.length (cap - 1)) → Chg (fun b => b = q) (W2.setCell ⟨c, 1 + k, none⟩ v') W3 → Chg (fun b => b = c) W W3 ∧ ∃ v, CastAt F W3 c n (upd rows k l) (upd vs k v) := by
      intro v' W2 W3 q hB hq hv' hC
      have h2 : CastAt F W2 c n rows vs := h.below hB
      have hb2 : OwnS P4.enc W2 0 g o cap (x :: l) := hs.below hB
      have h3 := h2.set k (by omega) v' l (by rw [hv']; exact own_tail hb2) (by simp at hf; omega) (fun g' hg' => by
        have e : (vs k).ownBlock = some g' := by rw [hv]; rw [hv'] at hg'; split at hg' <;> (simp only [Value.ownBlock] at hg' ⊢; exact hg')
        exact ⟨(h.fr k g' (by omega) e).1, (h.fr k g' (by omega) e).2, fun j hj hjk hjg => h.sep j k g' hj (by omega) hjk hjg e⟩)
      refine ⟨?_, v', h3.chg hC fun b hb hF => by have := h.fl b hF; omega⟩
      have h4 : Chg (fun b => b = c) W (W2.setCell ⟨c, 1 + k, none⟩ v') := (Chg.of_below hB).set c _ _ (.inl rfl)
      exact (h4.mono (F' := fun b => b = c) (fun _ _ h => h)).trans hC (fun b hb e => by subst e; omega)
    have hcap := hs.len
    rw [hv] at hrc
    obtain ⟨m, hm⟩ : ∃ m, l.length = m := ⟨_, rfl⟩
    rw [show (x :: l).length = m + 1 by rw [← hm]; rfl] at hrc hf hcap
    rw [hm] at hset2
    have HS := Lib.hid hset2
    have HR := Lib.hid hr
    have hm0 : (1 : Int) ≤ (m : Int) + 1 := by omega
    have hm1 : (1 : Int) ≤ (cap : Int) := by omega
    have hm2 : (m : Int) + 1 ≤ (cap : Int) := by omega
    have hm3 : (m : Int) + 1 ≤ 16 := by omega
    clear hset2 hs hv hr hm h ho
    by_cases hc : cap = 1
    · have HV : Hid (Value.slice (some ⟨g, o, none⟩) 0 0 = (if cap = 1 then .slice (some ⟨g, o, none⟩) 0 0 else .slice (some ⟨g, o + 4, none⟩) m (cap - 1))) := by unfold Hid; rw [if_pos hc]
      subst hc
      obtain rfl : m = 0 := by omega
      go_enter Try.func14, Try.ntmps14
      go_wp2_with (go_at_call 13; with_reducible refine (first_some (HH.out.below up_below) k hk1 hk2 x l HR.out).mono ?_; rintro e w' ⟨rfl, z, rfl⟩)
      have hB1 : Below W.heap.size W (ext (W.alloc (.cells #[.int .i8 0, .int .i64 0, .int .u64 0] 35)) z) := up_below
      have a0 : (ext (W.alloc (.cells #[.int .i8 0, .int .i64 0, .int .u64 0] 35)) z).cell? ⟨W.heap.size, 0, none⟩ = some (.int .i8 0) := by simp [go_sem]
      have a1 : (ext (W.alloc (.cells #[.int .i8 0, .int .i64 0, .int .u64 0] 35)) z).cell? ⟨W.heap.size, 1, none⟩ = some (.int .i64 0) := by simp [go_sem]
      have a2 : (ext (W.alloc (.cells #[.int .i8 0, .int .i64 0, .int .u64 0] 35)) z).cell? ⟨W.heap.size, 2, none⟩ = some (.int .u64 0) := by simp [go_sem]
      have fa : ∀ i, (ext (W.alloc (.cells #[.int .i8 0, .int .i64 0, .int .u64 0] 35)) z).frozen? ⟨W.heap.size, i, none⟩ = false := fun i => by simp [go_sem]
      haveI q1 : LtW W.heap.size (ext (W.alloc (.cells #[.int .i8 0, .int .i64 0, .int .u64 0] 35)) z) := inferInstance
      generalize ext (W.alloc (.cells #[.int .i8 0, .int .i64 0, .int .u64 0] 35)) z = W1 at hB1 a0 a1 a2 fa q1 ⊢
      have hB2 : Below W.heap.size W (W1.alloc (.cells #[.int .i8 x.k, .int .i64 x.a, .int .u64 x.p] 35)) := hB1.alloc hB1.size _
      replace a0 : (W1.alloc (.cells #[.int .i8 x.k, .int .i64 x.a, .int .u64 x.p] 35)).cell? ⟨W.heap.size, 0, none⟩ = some (.int .i8 0) := by simp [go_sem, a0]
      replace a1 : (W1.alloc (.cells #[.int .i8 x.k, .int .i64 x.a, .int .u64 x.p] 35)).cell? ⟨W.heap.size, 1, none⟩ = some (.int .i64 0) := by simp [go_sem, a1]
      replace a2 : (W1.alloc (.cells #[.int .i8 x.k, .int .i64 x.a, .int .u64 x.p] 35)).cell? ⟨W.heap.size, 2, none⟩ = some (.int .u64 0) := by simp [go_sem, a2]
      replace fa : ∀ i, (W1.alloc (.cells #[.int .i8 x.k, .int .i64 x.a, .int .u64 x.p] 35)).frozen? ⟨W.heap.size, i, none⟩ = false := fun i => by simp [go_sem, fa]
      have b0 : (W1.alloc (.cells #[.int .i8 x.k, .int .i64 x.a, .int .u64 x.p] 35)).cell? ⟨W1.heap.size, 0, none⟩ = some x.c1 := by simp [go_sem]
      have b1 : (W1.alloc (.cells #[.int .i8 x.k, .int .i64 x.a, .int .u64 x.p] 35)).cell? ⟨W1.heap.size, 1, none⟩ = some x.c2 := by simp [go_sem]
      have b2 : (W1.alloc (.cells #[.int .i8 x.k, .int .i64 x.a, .int .u64 x.p] 35)).cell? ⟨W1.heap.size, 2, none⟩ = some x.c3 := by simp [go_sem]
      have hpq : ¬ W1.heap.size = W.heap.size := by have := LtW.lt (n := W.heap.size) (w := W1); omega
      have hpq' : ¬ W.heap.size = W1.heap.size := fun e => hpq e.symm
      have hpc : ¬ c = W1.heap.size := by have := hB1.size; have := LtW.lt (n := c) (w := W); omega
      have hpc' : ¬ W1.heap.size = c := fun e => hpc e.symm
      have hqc : ¬ c = W.heap.size := by have := LtW.lt (n := c) (w := W); omega
      have hqc' : ¬ W.heap.size = c := fun e => hqc e.symm
      have hrc2 := below_cell hB2 c (1 + k) hrc
      have hfc2 : (W1.alloc (.cells #[.int .i8 x.k, .int .i64 x.a, .int .u64 x.p] 35)).frozen? ⟨c, 1 + k, none⟩ = false := (hB2.frozen (p := ⟨c, 1 + k, none⟩) (LtW.lt (n := c) (w := W))).trans hfc
      haveI jc : LtW c (W1.alloc (.cells #[.int .i8 x.k, .int .i64 x.a, .int .u64 x.p] 35)) := below_lt hB2 c
      generalize W1.alloc (.cells #[.int .i8 x.k, .int .i64 x.a, .int .u64 x.p] 35) = W2 at hB2 a0 a1 a2 fa b0 b1 b2 hrc2 hfc2 jc ⊢
      generalize W1.heap.size = p at b0 b1 b2 hpq hpq' hpc hpc' ⊢
      have HB2 := Lib.hid hB2
      clear hB1 hB2 q1
      obtain ⟨q, hq⟩ : ∃ q, W.heap.size = q := ⟨_, rfl⟩
      rw [hq] at a0 a1 a2 hpq hpq' hqc hqc' ⊢
      simp only [hq] at fa
      have HQ := Lib.hid hq; clear hq
      go_region
      all_goals
        go_wp2
        refine bodyPost_ret (v := .tuple #[tlbi x.k x.a x.p, .int .i64 0]) (by simp [results, Try.results14, go_sem, a0, a1, a2, hqc, hqc']) rfl ⟨rfl, ?_⟩
        refine HS.out _ W2 _ q HB2.out (by rw [HQ.out]; exact Nat.le_refl _) HV.out ?_
        repeat (first | exact Chg.refl _ _ | refine Chg.set ?_ _ _ _ (.inl rfl) | refine Chg.drew ?_)
    · have HV : Hid (Value.slice (some ⟨g, o + 4, none⟩) m (cap - 1) = (if cap = 1 then .slice (some ⟨g, o, none⟩) 0 0 else .slice (some ⟨g, o + 4, none⟩) m (cap - 1))) := by unfold Hid; rw [if_neg hc]
      go_enter Try.func14, Try.ntmps14
      go_wp2_with (go_at_call 13; with_reducible refine (first_some (HH.out.below up_below) k hk1 hk2 x l HR.out).mono ?_; rintro e w' ⟨rfl, z, rfl⟩)
      have hB1 : Below W.heap.size W (ext (W.alloc (.cells #[.int .i8 0, .int .i64 0, .int .u64 0] 35)) z) := up_below
      have a0 : (ext (W.alloc (.cells #[.int .i8 0, .int .i64 0, .int .u64 0] 35)) z).cell? ⟨W.heap.size, 0, none⟩ = some (.int .i8 0) := by simp [go_sem]
      have a1 : (ext (W.alloc (.cells #[.int .i8 0, .int .i64 0, .int .u64 0] 35)) z).cell? ⟨W.heap.size, 1, none⟩ = some (.int .i64 0) := by simp [go_sem]
      have a2 : (ext (W.alloc (.cells #[.int .i8 0, .int .i64 0, .int .u64 0] 35)) z).cell? ⟨W.heap.size, 2, none⟩ = some (.int .u64 0) := by simp [go_sem]
      have fa : ∀ i, (ext (W.alloc (.cells #[.int .i8 0, .int .i64 0, .int .u64 0] 35)) z).frozen? ⟨W.heap.size, i, none⟩ = false := fun i => by simp [go_sem]
      haveI q1 : LtW W.heap.size (ext (W.alloc (.cells #[.int .i8 0, .int .i64 0, .int .u64 0] 35)) z) := inferInstance
      generalize ext (W.alloc (.cells #[.int .i8 0, .int .i64 0, .int .u64 0] 35)) z = W1 at hB1 a0 a1 a2 fa q1 ⊢
      have hB2 : Below W.heap.size W (W1.alloc (.cells #[.int .i8 x.k, .int .i64 x.a, .int .u64 x.p] 35)) := hB1.alloc hB1.size _
      replace a0 : (W1.alloc (.cells #[.int .i8 x.k, .int .i64 x.a, .int .u64 x.p] 35)).cell? ⟨W.heap.size, 0, none⟩ = some (.int .i8 0) := by simp [go_sem, a0]
      replace a1 : (W1.alloc (.cells #[.int .i8 x.k, .int .i64 x.a, .int .u64 x.p] 35)).cell? ⟨W.heap.size, 1, none⟩ = some (.int .i64 0) := by simp [go_sem, a1]
      replace a2 : (W1.alloc (.cells #[.int .i8 x.k, .int .i64 x.a, .int .u64 x.p] 35)).cell? ⟨W.heap.size, 2, none⟩ = some (.int .u64 0) := by simp [go_sem, a2]
      replace fa : ∀ i, (W1.alloc (.cells #[.int .i8 x.k, .int .i64 x.a, .int .u64 x.p] 35)).frozen? ⟨W.heap.size, i, none⟩ = false := fun i => by simp [go_sem, fa]
      have b0 : (W1.alloc (.cells #[.int .i8 x.k, .int .i64 x.a, .int .u64 x.p] 35)).cell? ⟨W1.heap.size, 0, none⟩ = some x.c1 := by simp [go_sem]
      have b1 : (W1.alloc (.cells #[.int .i8 x.k, .int .i64 x.a, .int .u64 x.p] 35)).cell? ⟨W1.heap.size, 1, none⟩ = some x.c2 := by simp [go_sem]
      have b2 : (W1.alloc (.cells #[.int .i8 x.k, .int .i64 x.a, .int .u64 x.p] 35)).cell? ⟨W1.heap.size, 2, none⟩ = some x.c3 := by simp [go_sem]
      have hpq : ¬ W1.heap.size = W.heap.size := by have := LtW.lt (n := W.heap.size) (w := W1); omega
      have hpq' : ¬ W.heap.size = W1.heap.size := fun e => hpq e.symm
      have hpc : ¬ c = W1.heap.size := by have := hB1.size; have := LtW.lt (n := c) (w := W); omega
      have hpc' : ¬ W1.heap.size = c := fun e => hpc e.symm
      have hqc : ¬ c = W.heap.size := by have := LtW.lt (n := c) (w := W); omega
      have hqc' : ¬ W.heap.size = c := fun e => hqc e.symm
      have hrc2 := below_cell hB2 c (1 + k) hrc
      have hfc2 : (W1.alloc (.cells #[.int .i8 x.k, .int .i64 x.a, .int .u64 x.p] 35)).frozen? ⟨c, 1 + k, none⟩ = false := (hB2.frozen (p := ⟨c, 1 + k, none⟩) (LtW.lt (n := c) (w := W))).trans hfc
      haveI jc : LtW c (W1.alloc (.cells #[.int .i8 x.k, .int .i64 x.a, .int .u64 x.p] 35)) := below_lt hB2 c
      generalize W1.alloc (.cells #[.int .i8 x.k, .int .i64 x.a, .int .u64 x.p] 35) = W2 at hB2 a0 a1 a2 fa b0 b1 b2 hrc2 hfc2 jc ⊢
      generalize W1.heap.size = p at b0 b1 b2 hpq hpq' hpc hpc' ⊢
      have HB2 := Lib.hid hB2
      clear hB1 hB2 q1
      obtain ⟨q, hq⟩ : ∃ q, W.heap.size = q := ⟨_, rfl⟩
      rw [hq] at a0 a1 a2 hpq hpq' hqc hqc' ⊢
      simp only [hq] at fa
      have HQ := Lib.hid hq; clear hq
      go_region
      all_goals
        go_wp2
        refine bodyPost_ret (v := .tuple #[tlbi x.k x.a x.p, .int .i64 0]) (by simp [results, Try.results14, go_sem, a0, a1, a2, hqc, hqc']) rfl ⟨rfl, ?_⟩
        refine HS.out _ W2 _ q HB2.out (by rw [HQ.out]; exact Nat.le_refl _) HV.out ?_
        repeat (first | exact Chg.refl _ _ | refine Chg.set ?_ _ _ _ (.inl rfl) | refine Chg.drew ?_)
end Go.Proofs.Ytpolilljglfkoaa
