/- Send of the cast. -/
import Derived.Test.YtpolilljglfkoaaCastC
import Derived.Deep.RegionLaw
import Derived.WalkMore
namespace Go.Proofs.Ytpolilljglfkoaa
open Go.RowKit

theorem step_append_run' {P : Program} {w : World} {ops : Array Oper} {o : Oper} {a : Act} {Kk : Act → World → Prop} {Q : Exit → Act → World → Prop} {F : Prop}
    (hgd : o.guard = none) (s x : Operand) (t : TypeId) (hop : o.op = Op.call { callee := Callee.builtin Builtin.append, args := #[s, x], argTypes := #[t, t] })
    (v1 v2 : Value) (h1 : a.eval s = v1) (h2 : a.eval x = v2) {v' : Value} {W' : World} (hr : (Builtin.append_ #[t, t] o.type #[v1, v2]).run P w = .ok v' W') (K : Kk (a.put o.dst v') W') :
    if Region.wanted o (yielded ops a.tmps) = true then Oper.wp P o a w Kk Q else F := by
  have hw : Region.wanted o (yielded ops a.tmps) = true := by simp [Region.wanted, hgd]
  rw [if_pos hw]
  unfold Oper.wp execOp
  simp only [hop, resolve, invoke, builtin, Sem.run_bind, Sem.run_pure, Result.andThen_ok, List.map_toArray, List.map_cons, List.map_nil, h1, h2, hr]
  exact K

theorem own_slice {α : Type} {enc : α → List Value} {W : World} {base : Nat} {v : Value} {l : List α} (h : Own enc W base v l) : ∃ ad cap, v = .slice ad l.length cap := by
  rcases h with ⟨rfl, rfl⟩ | ⟨g, o, cap, cur, t, rfl, _⟩
  · exact ⟨none, 0, rfl⟩
  · exact ⟨_, cap, rfl⟩

theorem infoP4 : (Try.prog.info? 88).map (fun i => (i.zero, i.size, i.bytes)) = some (some (.agg #[.int .i64 0, .int .i8 0, .int .i64 0, .int .u64 0]), 4, 32) := by kernel_rfl

theorem encode_err (k a p : Int) (w : World) (r : Int) (hr : (if mayB k a p = true then 0 else 2) = r) :
    Calls Try.prog 40 #[tlbi k a p] w fun e w' => ∃ u, e = .returned (.tuple #[.int .u64 u, .int .i64 r]) ∧ ∃ x, w' = ext w x := by
  subst hr
  by_cases h : mayB k a p = true
  · rw [if_pos h]
    have hm := h
    simp only [mayB, decide_eq_true_eq] at hm
    obtain ⟨a1, a2, a3, _⟩ := hm
    go_enter Try.func40, Try.ntmps40
    go_wp2_with (go_at_call 64; refine (may_any _ _ _ _).mono ?_; rintro e w' ⟨rfl, x, rfl⟩)
    go_ret2
    exact ⟨_, rfl, up_to⟩
  · rw [if_neg h]
    have h : mayB k a p = false := by simpa using h
    go_enter Try.func40, Try.ntmps40
    go_wp2_with (go_at_call 64; refine (may_any _ _ _ _).mono ?_; rintro e w' ⟨rfl, x, rfl⟩)
    go_ret2
    exact ⟨_, rfl, up_to⟩

/-- One row more of a cast: behind an append the row is stored. -/
theorem CastAt.put {F : Nat → Prop} {W W' : World} {c n : Nat} {rows : Nat → List P4} {vs : Nat → Value} (h : CastAt F W c n rows vs) (k : Nat) (hk : k < 9) (v : Value) (l : List P4) (ho : Own P4.enc W' 0 v l) (hl : l.length ≤ 16)
    (hC : Chg (fun b => (vs k).ownBlock = some b) W W') (hv : ∀ g, v.ownBlock = some g → (vs k).ownBlock = some g ∨ W.heap.size ≤ g) :
    CastAt (fun b => F b ∨ (W.heap.size ≤ b ∧ b < W'.heap.size)) (W'.setCell ⟨c, 1 + k, none⟩ v) c n (upd rows k l) (upd vs k v) := by
  have hcn : (vs k).ownBlock ≠ some c := fun e => (h.fr k c hk e).2 rfl
  have hvb : ∀ g, v.ownBlock = some g → (F g ∨ (W.heap.size ≤ g ∧ g < W'.heap.size)) ∧ g ≠ c ∧ ∀ j, j < 9 → j ≠ k → (vs j).ownBlock ≠ some g := fun g hg => by
    refine ⟨?_, ?_, ?_⟩
    · rcases hv g hg with h2 | h2
      · exact .inl (h.fr k g hk h2).1
      · exact .inr ⟨h2, ho.lt g hg⟩
    · rcases hv g hg with h2 | h2
      · exact (h.fr k g hk h2).2
      · have := h.lt; omega
    · intro j hj hjk hjg
      rcases hv g hg with h2 | h2
      · exact h.sep j k g hj hk hjk hjg h2
      · have := (h.row j hj).lt g hjg; omega
  have hC2 : Chg (fun b => b = c) W' (W'.setCell ⟨c, 1 + k, none⟩ v) := (Chg.refl _ _).set c _ v (.inl rfl)
  refine ⟨?_, ?_, .inl h.fc, ?_, ?_, h.n8, ?_, ?_⟩
  · have hb : W'.heap[c]? = _ := (hC.block c h.lt hcn).trans h.blk
    match k, hk with
    | 0, _ | 1, _ | 2, _ | 3, _ | 4, _ | 5, _ | 6, _ | 7, _ | 8, _ => simp [World.setCell, Array.getElem?_modify, hb, upd]
  · intro j hj
    by_cases e : j = k
    · subst e; rw [upd_same, upd_same]; exact ho.chg hC2 (fun g hg => (hvb g hg).2.1)
    · rw [upd_other _ _ _ _ e, upd_other _ _ _ _ e]
      exact ((h.row j hj).chg hC (fun g hg hg2 => h.sep j k g hj hk e hg hg2)).chg hC2 (fun g hg => (h.fr j g hj hg).2)
  · intro j g hj hg
    by_cases e : j = k
    · subst e; rw [upd_same] at hg; exact ⟨(hvb g hg).1, (hvb g hg).2.1⟩
    · rw [upd_other _ _ _ _ e] at hg; exact ⟨.inl (h.fr j g hj hg).1, (h.fr j g hj hg).2⟩
  · intro i j g hi hj hij hg
    by_cases e : i = k
    · subst e
      rw [upd_same] at hg
      rw [upd_other _ _ _ _ (Ne.symm hij)]
      exact (hvb g hg).2.2 j hj (Ne.symm hij)
    · rw [upd_other _ _ _ _ e] at hg
      by_cases e2 : j = k
      · subst e2; rw [upd_same]; intro hg2; exact (hvb g hg2).2.2 i hi e hg
      · rw [upd_other _ _ _ _ e2]; exact h.sep i j g hi hj hij hg
  · intro j hj
    by_cases e : j = k
    · subst e; rw [upd_same]; exact hl
    · rw [upd_other _ _ _ _ e]; exact h.few j hj
  · intro b hb
    have hs := hC.size
    simp only [World.size_setCell]
    rcases hb with hb | hb
    · have := h.fl b hb; omega
    · exact hb.2

/-- The rows behind 'Send', as far as core k. -/
def sent (rows : Nat → List P4) (core : Nat) (x : P4) (k : Nat) : Nat → List P4 := fun j => if 1 ≤ j ∧ j < k ∧ j ≠ core then rows j ++ [x] else rows j
theorem sent_one (rows : Nat → List P4) (core : Nat) (x : P4) : sent rows core x 1 = rows := by
  funext j; unfold sent; rw [if_neg (by omega)]
theorem sent_same (rows : Nat → List P4) (core : Nat) (x : P4) : sent rows core x (core + 1) = sent rows core x core := by
  funext j; unfold sent; by_cases h : 1 ≤ j ∧ j < core ∧ j ≠ core
  · rw [if_pos h, if_pos (by omega)]
  · rw [if_neg h, if_neg (by omega)]
theorem sent_next (rows : Nat → List P4) (core : Nat) (x : P4) (k : Nat) (hk : 1 ≤ k) (h : k ≠ core) : sent rows core x (k + 1) = upd (sent rows core x k) k (rows k ++ [x]) := by
  funext j; unfold upd; simp only [sent]; by_cases e : j = k
  · subst e; rw [if_pos (by omega), if_pos rfl]
  · rw [if_neg e]; by_cases h : 1 ≤ j ∧ j < k ∧ j ≠ core
    · rw [if_pos h, if_pos (by omega)]
    · rw [if_neg h, if_neg (by omega)]
theorem sent_at (rows : Nat → List P4) (core : Nat) (x : P4) (k : Nat) : sent rows core x k k = rows k := by
  unfold sent; rw [if_neg (by omega)]

set_option maxRecDepth 100000 in
set_option maxHeartbeats 1000000 in
theorem send_bad {W : World} {c n : Nat} (core : Int) (tk ta tp : Int) [LtW c W] (h0 : W.cell? ⟨c, 0, none⟩ = some (.int .i64 (n : Int))) (hk : ¬ (mayB tk ta tp = true ∧ 1 ≤ core ∧ core ≤ (n : Int))) :
    Calls Try.prog 11 #[.pointer (some ⟨c, 0, none⟩), .int .i64 core, tlbi tk ta tp] W fun e w' => e = .returned (.int .i64 2) ∧ ∃ x, w' = ext W x := by
  by_cases hm : mayB tk ta tp = true
  · have hk2 : (decide (1 ≤ core) && decide (core ≤ (n : Int))) = false := by
      rw [Bool.and_eq_false_iff]
      by_cases h1 : 1 ≤ core
      · exact .inr (by simp; exact Int.not_le.1 fun h2 => hk ⟨hm, h1, h2⟩)
      · exact .inl (by simpa using h1)
    have hr : (if mayB tk ta tp = true then (0 : Int) else 2) = 0 := by rw [if_pos hm]
    have HR := Lib.hid hr
    clear hk hr hm
    go_enter Try.func11, Try.ntmps11
    go_wp2_with fail
    go_step3
    go_wp2_with (first
      | (go_at_call 40; with_reducible refine (encode_err tk ta tp _ 0 HR.out).mono ?_; rintro e w' ⟨u, rfl, z, rfl⟩)
      | (go_at_call 41; with_reducible refine (there_any _ c n _ (by simp [go_sem, h0]) false hk2).mono ?_; rintro e w' ⟨rfl, z, rfl⟩))
    (try rw [Exit.noGoto_ret])
    go_ret
    exact ⟨rfl, up_to⟩
  · have hr : (if mayB tk ta tp = true then (0 : Int) else 2) = 2 := by rw [if_neg hm]
    have HR := Lib.hid hr
    clear hk hr hm
    go_enter Try.func11, Try.ntmps11
    go_wp2_with fail
    go_step3
    go_wp2_with (go_at_call 40; with_reducible refine (encode_err tk ta tp _ 2 HR.out).mono ?_; rintro e w' ⟨u, rfl, z, rfl⟩)
    (try rw [Exit.noGoto_ret])
    go_ret
    exact ⟨rfl, up_to⟩

set_option maxRecDepth 100000 in
set_option maxHeartbeats 2000000 in
theorem send_full {F : Nat → Prop} {W : World} {c n : Nat} {rows : Nat → List P4} {vs : Nat → Value} (h : CastAt F W c n rows vs) (core : Nat) (hc1 : 1 ≤ core) (hc2 : core ≤ n) (tk ta tp : Int) (hm : mayB tk ta tp = true)
    (hfull : ∃ k, 1 ≤ k ∧ k ≤ n ∧ k ≠ core ∧ 16 ≤ (rows k).length) :
    Calls Try.prog 11 #[.pointer (some ⟨c, 0, none⟩), .int .i64 (core : Int), tlbi tk ta tp] W fun e w' => e = .returned (.int .i64 20) ∧ ∃ x, w' = ext W x := by
  have hn := h.n8
  have h0 := h.cn
  haveI : LtW c W := ⟨h.lt⟩
  have hkn : (decide ((1 : Int) ≤ (core : Int)) && decide ((core : Int) ≤ (n : Int))) = true := by simp; omega
  have hr : (if mayB tk ta tp = true then (0 : Int) else 2) = 0 := by rw [if_pos hm]
  have HR := Lib.hid hr
  have HH := Lib.hid h
  have HFU := Lib.hid hfull
  clear hr hm h hfull
  go_enter Try.func11, Try.ntmps11
  go_wp2_with fail
  go_step3
  go_wp2_with (first
    | (go_at_call 40; with_reducible refine (encode_err tk ta tp _ 0 HR.out).mono ?_; rintro e w' ⟨u, rfl, z, rfl⟩)
    | (go_at_call 41; with_reducible refine (there_any _ c n _ (by simp [go_sem, h0]) true hkn).mono ?_; rintro e w' ⟨rfl, z, rfl⟩))
  go_step3
  go_wp2_with fail
  go_loopw [9] (fun i wr => ∃ k : Nat, 1 ≤ k ∧ k ≤ n + 1 ∧ i = .int .i64 (k : Int) ∧ Hid (∀ j, 1 ≤ j → j < k → j ≠ core → (rows j).length < 16) ∧ ∃ y, wr = ext W y) (fun i _ => (n + 1 - intOf i).toNat)
  case atStart => exact ⟨1, by omega, by omega, by simp, by unfold Hid; intro j h1 h2; omega, up_to⟩
  case round =>
    obtain ⟨k, hk1, hk2, rfl, hA, y, rfl⟩ := hrel
    by_cases hle : k ≤ n
    · have hrc := HH.out.cr k (by omega)
      obtain ⟨ad, cap, hv⟩ := own_slice (HH.out.row k (by omega))
      rw [hv] at hrc
      clear hv
      have hk9 : (k : Int) < 9 := by omega
      have hkz : (k : Int) ≤ (n : Int) := by omega
      by_cases hkc : k = core
      · have hkc2 : ((k : Int) == (core : Int)) = true := by simp [hkc]
        have HKC := Lib.hid hkc; clear hkc
        go_wp2_with fail
        go_roundw
        case rel => exact ⟨k + 1, by omega, by omega, by go_num, by unfold Hid; intro j h1 h2 h3; exact hA.out j h1 (by have := HKC.out; omega) h3, up_to⟩
        case measure => simp [intOf]; omega
      · have hkc2 : ((k : Int) == (core : Int)) = false := by simp; omega
        by_cases hl : 16 ≤ (rows k).length
        · have hl1 : (16 : Int) ≤ ((rows k).length : Int) := by omega
          clear hl
          go_wp2_with fail
          (try rw [Exit.noGoto_ret])
          go_ret
          exact ⟨rfl, up_to⟩
        · have hl1 : ((rows k).length : Int) < 16 := by omega
          have HL := Lib.hid hl; clear hl
          go_wp2_with fail
          go_roundw
          case rel => exact ⟨k + 1, by omega, by omega, by go_num, by unfold Hid; intro j h1 h2 h3; by_cases e : j = k; (subst e; have := HL.out; omega); exact hA.out j h1 (by omega) h3, up_to⟩
          case measure => simp [intOf]; omega
    · exfalso
      obtain ⟨j, h1, h2, h3, h4⟩ := HFU.out
      have := hA.out j h1 (by omega) h3
      omega
end Go.Proofs.Ytpolilljglfkoaa
