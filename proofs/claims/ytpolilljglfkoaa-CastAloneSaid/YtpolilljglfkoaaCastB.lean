/- First and Ack of the cast. -/
import Derived.Test.YtpolilljglfkoaaCastA
import Derived.RegionTactic
import Derived.BigRegion
import Derived.ChangeAlike
namespace Go.Proofs.Ytpolilljglfkoaa
open Go.RowKit

def upd {α : Type} (f : Nat → α) (k : Nat) (v : α) : Nat → α := fun j => if j = k then v else f j
theorem upd_same {α : Type} (f : Nat → α) (k : Nat) (v : α) : upd f k v k = v := by simp [upd]
theorem upd_other {α : Type} (f : Nat → α) (k j : Nat) (v : α) (h : j ≠ k) : upd f k v j = f j := by simp [upd, h]

set_option maxHeartbeats 1000000 in
theorem first_bad {W : World} {c n : Nat} (k : Int) [LtW c W] (h0 : W.cell? ⟨c, 0, none⟩ = some (.int .i64 (n : Int))) (hk : (decide (1 ≤ k) && decide (k ≤ (n : Int))) = false) :
    Calls Try.prog 13 #[.pointer (some ⟨c, 0, none⟩), .int .i64 k] W fun e w' => e = .returned (.tuple #[.int .i64 0, tlbi 0 0 0, .int .i64 2]) ∧ ∃ x, w' = ext W x := by
  go_enter Try.func13, Try.ntmps13
  go_wp2_with (go_at_call 41; with_reducible refine (there_any _ c n _ (by simp [go_sem, h0]) false hk).mono ?_; rintro e w' ⟨rfl, z, rfl⟩)
  go_region
  all_goals
    go_wp2
    exact bodyPost_ret (v := .tuple #[.int .i64 0, tlbi 0 0 0, .int .i64 2]) (by simp [results, Try.results13, go_sem]) rfl ⟨rfl, up_to⟩

set_option maxHeartbeats 1000000 in
theorem first_none {F : Nat → Prop} {W : World} {c n : Nat} {rows : Nat → List P4} {vs : Nat → Value} (h : CastAt F W c n rows vs) (k : Nat) (hk1 : 1 ≤ k) (hk2 : k ≤ n) (hr : rows k = []) :
    Calls Try.prog 13 #[.pointer (some ⟨c, 0, none⟩), .int .i64 (k : Int)] W fun e w' => e = .returned (.tuple #[.int .i64 0, tlbi 0 0 0, .int .i64 4]) ∧ ∃ x, w' = ext W x := by
  have hn := h.n8
  have hh := h.has k (by omega)
  have hrc := h.cr k (by omega)
  have h0 := h.cn
  haveI : LtW c W := ⟨h.lt⟩
  have hkn : (decide ((1 : Int) ≤ (k : Int)) && decide ((k : Int) ≤ (n : Int))) = true := by simp; omega
  have hk9 : (k : Int) < 9 := by omega
  rw [hr] at hh
  clear h hr
  rcases hh with ⟨_, hv | ⟨ad, cap, hv⟩⟩ | ⟨h, _⟩
  · rw [hv] at hrc
    clear hv
    go_enter Try.func13, Try.ntmps13
    go_wp2_with (go_at_call 41; with_reducible refine (there_any _ c n _ (by simp [go_sem, h0]) true hkn).mono ?_; rintro e w' ⟨rfl, z, rfl⟩)
    go_region
    all_goals
      go_wp2
      exact bodyPost_ret (v := .tuple #[.int .i64 0, tlbi 0 0 0, .int .i64 4]) (by simp [results, Try.results13, go_sem]) rfl ⟨rfl, up_to⟩
  · rw [hv] at hrc
    clear hv
    go_enter Try.func13, Try.ntmps13
    go_wp2_with (go_at_call 41; with_reducible refine (there_any _ c n _ (by simp [go_sem, h0]) true hkn).mono ?_; rintro e w' ⟨rfl, z, rfl⟩)
    go_region
    all_goals
      go_wp2
      exact bodyPost_ret (v := .tuple #[.int .i64 0, tlbi 0 0 0, .int .i64 4]) (by simp [results, Try.results13, go_sem]) rfl ⟨rfl, up_to⟩
  · exact (h rfl).elim

set_option maxHeartbeats 1000000 in
theorem first_some {F : Nat → Prop} {W : World} {c n : Nat} {rows : Nat → List P4} {vs : Nat → Value} (h : CastAt F W c n rows vs) (k : Nat) (hk1 : 1 ≤ k) (hk2 : k ≤ n) (x : P4) (l : List P4) (hr : rows k = x :: l) :
    Calls Try.prog 13 #[.pointer (some ⟨c, 0, none⟩), .int .i64 (k : Int)] W fun e w' => e = .returned (.tuple #[.int .i64 x.s, tlbi x.k x.a x.p, .int .i64 0]) ∧ ∃ x, w' = ext W x := by
  have hn := h.n8
  have hh := h.has k (by omega)
  have hrc := h.cr k (by omega)
  have hf := h.few k (by omega)
  have h0 := h.cn
  haveI : LtW c W := ⟨h.lt⟩
  have hkn : (decide ((1 : Int) ≤ (k : Int)) && decide ((k : Int) ≤ (n : Int))) = true := by simp; omega
  have hk9 : (k : Int) < 9 := by omega
  rw [hr] at hh hf
  clear h hr
  rcases hh with ⟨h, _⟩ | ⟨_, b, o, cap, hv, hcap, hb, hR⟩
  · cases h
  · have c0 : W.cell? ⟨b, o, none⟩ = some x.c0 := by simpa using hR 0 x rfl 0 _ rfl
    have c1 : W.cell? ⟨b, o + 1, none⟩ = some x.c1 := by simpa using hR 0 x rfl 1 _ rfl
    have c2 : W.cell? ⟨b, o + 2, none⟩ = some x.c2 := by simpa using hR 0 x rfl 2 _ rfl
    have c3 : W.cell? ⟨b, o + 3, none⟩ = some x.c3 := by simpa using hR 0 x rfl 3 _ rfl
    haveI : LtW b W := ⟨hb⟩
    rw [hv] at hrc
    obtain ⟨m, hm⟩ : ∃ m, (x :: l).length = m + 1 := ⟨l.length, rfl⟩
    rw [hm] at hrc hf hcap
    have hm0 : (0 : Int) ≤ (m : Int) := by omega
    have hm1 : ((m : Int) + 1 == 0) = false := by simp; omega
    have hm2 : (0 : Int) < (m : Int) + 1 := by omega
    clear hv hR hm
    go_enter Try.func13, Try.ntmps13
    go_wp2_with (go_at_call 41; with_reducible refine (there_any _ c n _ (by simp [go_sem, h0]) true hkn).mono ?_; rintro e w' ⟨rfl, z, rfl⟩)
    go_region
    all_goals
      go_wp2
      exact bodyPost_ret (v := .tuple #[.int .i64 x.s, tlbi x.k x.a x.p, .int .i64 0]) (by simp [results, Try.results13, go_sem]) rfl ⟨rfl, up_to⟩
end Go.Proofs.Ytpolilljglfkoaa
