/- The cast in memory, and what it tells. -/
import Derived.Test.YtpolilljglfkoaaChg
import Derived.Test.YtpolilljglfkoaaInvC
namespace Go.Proofs.Ytpolilljglfkoaa
open Go.RowKit

/-- A pair that waits: who sent it, and what. -/
structure P4 where
  s : Int
  k : Int
  a : Int
  p : Int
deriving DecidableEq
abbrev P4.c0 (x : P4) : Value := .int .i64 x.s
abbrev P4.c1 (x : P4) : Value := .int .i8 x.k
abbrev P4.c2 (x : P4) : Value := .int .i64 x.a
abbrev P4.c3 (x : P4) : Value := .int .u64 x.p
def P4.enc (x : P4) : List Value := [x.c0, x.c1, x.c2, x.c3]
abbrev P4.v (x : P4) : Value := .agg #[.int .i64 x.s, .int .i8 x.k, .int .i64 x.a, .int .u64 x.p]
theorem P4.enc4 (x : P4) : x.enc.length = 4 := rfl
theorem P4.enc1 (x : P4) : ∀ u ∈ x.enc, u.oneCell' = true := by intro u hu; simp [P4.enc, Value.oneCell'] at hu ⊢; rcases hu with rfl | rfl | rfl | rfl <;> rfl

/-- A cast lies at block c: its blocks are among F; core k has to acknowledge rows k. -/
structure CastAt (F : Nat → Prop) (W : World) (c n : Nat) (rows : Nat → List P4) (vs : Nat → Value) : Prop where
  blk : W.heap[c]? = some (.cells #[.int .i64 (n : Int), vs 0, vs 1, vs 2, vs 3, vs 4, vs 5, vs 6, vs 7, vs 8] 84 (0, 0))
  row : ∀ k, k < 9 → Own P4.enc W 0 (vs k) (rows k)
  fc : F c
  fr : ∀ k g, k < 9 → (vs k).ownBlock = some g → F g ∧ g ≠ c
  sep : ∀ j k g, j < 9 → k < 9 → j ≠ k → (vs j).ownBlock = some g → (vs k).ownBlock ≠ some g
  n8 : n ≤ 8
  few : ∀ k, k < 9 → (rows k).length ≤ 16
  fl : ∀ b, F b → b < W.heap.size

section
variable {F : Nat → Prop} {W : World} {c n : Nat} {rows : Nat → List P4} {vs : Nat → Value}
theorem CastAt.cn (h : CastAt F W c n rows vs) : W.cell? ⟨c, 0, none⟩ = some (.int .i64 (n : Int)) := by simp [World.cell?, h.blk]
theorem CastAt.cr (h : CastAt F W c n rows vs) (k : Nat) (hk : k < 9) : W.cell? ⟨c, 1 + k, none⟩ = some (vs k) := by
  have e : ∀ i, W.cell? ⟨c, i, none⟩ = (#[.int .i64 (n : Int), vs 0, vs 1, vs 2, vs 3, vs 4, vs 5, vs 6, vs 7, vs 8] : Array Value)[i]? := fun i => by simp [World.cell?, h.blk]
  rw [e]
  match k, hk with
  | 0, _ | 1, _ | 2, _ | 3, _ | 4, _ | 5, _ | 6, _ | 7, _ | 8, _ => rfl
theorem CastAt.lt (h : CastAt F W c n rows vs) : c < W.heap.size := (Array.getElem?_eq_some_iff.1 h.blk).1
theorem CastAt.below {W' : World} (h : CastAt F W c n rows vs) (hB : Below W.heap.size W W') : CastAt F W' c n rows vs :=
  ⟨(hB.block c h.lt).trans h.blk, fun k hk => (h.row k hk).below hB, h.fc, h.fr, h.sep, h.n8, h.few, fun b hb => Nat.lt_of_lt_of_le (h.fl b hb) hB.size⟩
theorem CastAt.chg {G : Nat → Prop} {W' : World} (h : CastAt F W c n rows vs) (hC : Chg G W W') (hG : ∀ b, G b → ¬ F b) : CastAt F W' c n rows vs :=
  ⟨(hC.block c h.lt (fun hg => hG c hg h.fc)).trans h.blk, fun k hk => (h.row k hk).chg hC (fun g hg hgg => hG g hgg (h.fr k g hk hg).1), h.fc, h.fr, h.sep, h.n8, h.few, fun b hb => Nat.lt_of_lt_of_le (h.fl b hb) hC.size⟩
theorem CastAt.mono {F' : Nat → Prop} (h : CastAt F W c n rows vs) (hF : ∀ b, F b → F' b) (hl : ∀ b, F' b → b < W.heap.size) : CastAt F' W c n rows vs :=
  ⟨h.blk, h.row, hF _ h.fc, fun k g hk hg => ⟨hF _ (h.fr k g hk hg).1, (h.fr k g hk hg).2⟩, h.sep, h.n8, h.few, hl⟩
theorem CastAt.has (h : CastAt F W c n rows vs) (k : Nat) (hk : k < 9) : Has P4.enc W (vs k) (rows k) := (h.row k hk).has
end

theorem there_any (W : World) (c n : Nat) (k : Int) [LtW c W] (h0 : W.cell? ⟨c, 0, none⟩ = some (.int .i64 (n : Int))) (r : Bool) (hr : (decide (1 ≤ k) && decide (k ≤ (n : Int))) = r) :
    Calls Try.prog 41 #[.pointer (some ⟨c, 0, none⟩), .int .i64 k] W fun e w' => e = .returned (.bool r) ∧ ∃ x, w' = ext W x := by
  subst hr
  cases h1 : decide (1 ≤ k)
  · go_enter Try.func41, Try.ntmps41
    go_wp2
    go_ret
    exact ⟨rfl, up_to⟩
  · go_enter Try.func41, Try.ntmps41
    go_wp2
    go_ret
    exact ⟨rfl, up_to⟩

theorem waits1_any (x : P4) (W : World) : Calls Try.prog 43 #[x.v] W fun e w' => e = .returned (.bool true) ∧ ∃ x, w' = ext W x := by
  obtain ⟨a, b, c, d⟩ := x
  go_enter Try.func43, Try.ntmps43
  go_wp2
  go_ret
  exact ⟨rfl, up_to⟩

set_option maxHeartbeats 1000000 in
theorem count_any (l : List P4) (v : Value) (w : World) (hv : Has P4.enc w v l) (hl : l.length ≤ 1000) :
    Calls Try.prog 42 #[v, .func (.func 43) #[] #[]] w fun e w' => e = .returned (.int .i64 (l.length : Int)) ∧ ∃ x, w' = ext w x := by
  rcases hv with ⟨rfl, hv⟩ | ⟨hl0, b, o, cap, rfl, hcap, hb, hR⟩
  · rcases hv with rfl | ⟨ad, cap, rfl⟩
    all_goals
      go_enter Try.func42, Try.ntmps42
      go_wp2_with fail
      go_loopw [5, 10] (fun s k wr => s = .int .i64 0 ∧ k = .int .i64 0 ∧ ∃ y, wr = ext w y) (fun _ _ _ => 0)
      case atStart => exact ⟨rfl, rfl, up_to⟩
      case round =>
        obtain ⟨rfl, rfl, y, rfl⟩ := hrel
        go_wp2_with fail
        go_ret
        exact ⟨rfl, up_to⟩
  · haveI : LtW b w := ⟨hb⟩
    have HR := Lib.hid hR; clear hR
    have hlz : (l.length : Int) ≤ 1000 := by omega
    go_enter Try.func42, Try.ntmps42
    go_wp2_with fail
    go_loopw [5, 10] (fun s k wr => ∃ j : Nat, j ≤ l.length ∧ s = .int .i64 (j : Int) ∧ k = .int .i64 (j : Int) ∧ ∃ y, wr = ext w y) (fun _ k _ => (l.length - intOf k).toNat)
    case atStart => exact ⟨0, by omega, by simp, by simp, up_to⟩
    case round =>
      obtain ⟨j, hj, rfl, rfl, y, rfl⟩ := hrel
      by_cases hlt : j < l.length
      · obtain ⟨x, hx⟩ : ∃ x, l[j]? = some x := ⟨_, List.getElem?_eq_getElem hlt⟩
        have c0 : w.cell? ⟨b, o + j * 4, none⟩ = some x.c0 := HR.out j x hx 0 _ rfl
        have c1 : w.cell? ⟨b, o + j * 4 + 1, none⟩ = some x.c1 := HR.out j x hx 1 _ rfl
        have c2 : w.cell? ⟨b, o + j * 4 + 2, none⟩ = some x.c2 := HR.out j x hx 2 _ rfl
        have c3 : w.cell? ⟨b, o + j * 4 + 3, none⟩ = some x.c3 := HR.out j x hx 3 _ rfl
        go_wp2_with (go_at_call 43; with_reducible refine (waits1_any x _).mono ?_; rintro e w' ⟨rfl, z, rfl⟩)
        go_roundw
        case rel => exact ⟨j + 1, by omega, by go_num, by go_num, up_to⟩
        case measure => simp [intOf]; omega
      · obtain rfl : j = l.length := by omega
        go_wp2_with fail
        go_ret
        exact ⟨rfl, up_to⟩

set_option maxHeartbeats 1000000 in
theorem waits_any {F : Nat → Prop} {W : World} {c n : Nat} {rows : Nat → List P4} {vs : Nat → Value} (h : CastAt F W c n rows vs) (k : Nat) (hk1 : 1 ≤ k) (hk2 : k ≤ n) :
    Calls Try.prog 12 #[.pointer (some ⟨c, 0, none⟩), .int .i64 (k : Int)] W fun e w' => e = .returned (.int .i64 ((rows k).length : Int)) ∧ ∃ x, w' = ext W x := by
  have hn := h.n8
  have hh := h.has k (by omega)
  have hf := h.few k (by omega)
  have hr := h.cr k (by omega)
  have h0 := h.cn
  haveI : LtW c W := ⟨h.lt⟩
  have hkn : (decide ((1 : Int) ≤ (k : Int)) && decide ((k : Int) ≤ (n : Int))) = true := by simp; omega
  have hk9 : (k : Int) < 9 := by omega
  have HH := Lib.hid hh; clear hh h
  have HF := Lib.hid hf; clear hf
  go_enter Try.func12, Try.ntmps12
  go_wp2_with (first
    | (go_at_call 41; with_reducible refine (there_any _ c n _ (by simp [go_sem, h0]) true hkn).mono ?_; rintro e w' ⟨rfl, z, rfl⟩)
    | (go_at_call 42; with_reducible refine (count_any (rows k) (vs k) _ (HH.out.below up_below) (by have := HF.out; omega)).mono ?_; rintro e w' ⟨rfl, z, rfl⟩))
  go_ret
  exact ⟨rfl, up_to⟩
end Go.Proofs.Ytpolilljglfkoaa
