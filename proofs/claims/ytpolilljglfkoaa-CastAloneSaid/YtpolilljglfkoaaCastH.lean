/- The cast's methods at whatever core, with the caller's own blocks kept. -/
import Derived.Test.YtpolilljglfkoaaCastE
import Derived.Test.YtpolilljglfkoaaCastG
namespace Go.Proofs.Ytpolilljglfkoaa
open Go.RowKit

/-- A cast of the call's own: w is the world in which the call began; the blocks in Q are not the cast's. -/
structure CastOf (w W : World) (Q : Nat → Prop) (c n : Nat) (rows : Nat → List P4) : Prop where
  at_ : ∃ F vs, CastAt F W c n rows vs ∧ ∀ b, F b → w.heap.size ≤ b ∧ ¬ Q b
  up : Up w.heap.size w W
  q : ∀ b, Q b → b < W.heap.size
theorem CastOf.lt {w W : World} {Q : Nat → Prop} {c n : Nat} {rows : Nat → List P4} (h : CastOf w W Q c n rows) : c < W.heap.size := by
  obtain ⟨F, vs, h1, h2⟩ := h.at_; exact h1.lt
theorem CastOf.nq {w W : World} {Q : Nat → Prop} {c n : Nat} {rows : Nat → List P4} (h : CastOf w W Q c n rows) : ¬ Q c := by
  obtain ⟨F, vs, h1, h2⟩ := h.at_; exact (h2 c h1.fc).2
theorem CastOf.n8 {w W : World} {Q : Nat → Prop} {c n : Nat} {rows : Nat → List P4} (h : CastOf w W Q c n rows) : n ≤ 8 := by
  obtain ⟨F, vs, h1, h2⟩ := h.at_; exact h1.n8
theorem CastOf.few {w W : World} {Q : Nat → Prop} {c n : Nat} {rows : Nat → List P4} (h : CastOf w W Q c n rows) (k : Nat) (hk : k < 9) : (rows k).length ≤ 16 := by
  obtain ⟨F, vs, h1, h2⟩ := h.at_; exact h1.few k hk
theorem CastOf.cn {w W : World} {Q : Nat → Prop} {c n : Nat} {rows : Nat → List P4} (h : CastOf w W Q c n rows) : W.cell? ⟨c, 0, none⟩ = some (.int .i64 (n : Int)) := by
  obtain ⟨F, vs, h1, h2⟩ := h.at_; exact h1.cn
theorem CastOf.below {w W W' : World} {Q : Nat → Prop} {c n : Nat} {rows : Nat → List P4} (h : CastOf w W Q c n rows) (hB : Below W.heap.size W W') : CastOf w W' Q c n rows := by
  obtain ⟨F, vs, h1, h2⟩ := h.at_
  exact ⟨⟨F, vs, h1.below hB, h2⟩, ⟨h.up.below.trans (hB.mono h.up.le), Nat.le_trans h.up.le hB.size⟩, fun b hb => Nat.lt_of_lt_of_le (h.q b hb) hB.size⟩
/-- A block that was made just now is the caller's. -/
theorem CastOf.own {w W : World} {Q : Nat → Prop} {c n : Nat} {rows : Nat → List P4} (h : CastOf w W Q c n rows) (o : Obj) : CastOf w (W.alloc o) (fun b => Q b ∨ b = W.heap.size) c n rows := by
  obtain ⟨F, vs, h1, h2⟩ := h.at_
  refine ⟨⟨F, vs, h1.below ((Below.refl _ _).alloc (Nat.le_refl _) o), fun b hb => ⟨(h2 b hb).1, fun hq => ?_⟩⟩, h.up.alloc o, fun b hb => ?_⟩
  · rcases hq with hq | hq
    · exact (h2 b hb).2 hq
    · have := h1.fl b hb; omega
  · rcases hb with hb | hb
    · have := h.q b hb; simp; omega
    · simp; omega
/-- A store into a block of the caller's own. -/
theorem CastOf.set {w W : World} {Q : Nat → Prop} {c n : Nat} {rows : Nat → List P4} (h : CastOf w W Q c n rows) (q i : Nat) (v : Value) (hq : Q q) (hqw : w.heap.size ≤ q) : CastOf w (W.setCell ⟨q, i, none⟩ v) Q c n rows := by
  obtain ⟨F, vs, h1, h2⟩ := h.at_
  refine ⟨⟨F, vs, h1.chg ((Chg.refl (fun b => b = q) W).set q i v (.inl rfl)) (fun b hb hF => (h2 b hF).2 (hb ▸ hq)), h2⟩, h.up.setCell q i v hqw, fun b hb => by simpa using h.q b hb⟩
theorem CastOf.less {w W : World} {Q Q' : Nat → Prop} {c n : Nat} {rows : Nat → List P4} (h : CastOf w W Q c n rows) (hQ : ∀ b, Q' b → Q b) : CastOf w W Q' c n rows := by
  obtain ⟨F, vs, h1, h2⟩ := h.at_
  exact ⟨⟨F, vs, h1, fun b hb => ⟨(h2 b hb).1, fun hq => (h2 b hb).2 (hQ b hq)⟩⟩, h.up, fun b hb => h.q b (hQ b hb)⟩

/-- What is kept of the caller's own. -/
def Kept (Q : Nat → Prop) (W W' : World) : Prop := W.heap.size ≤ W'.heap.size ∧ ∀ b, Q b → b < W.heap.size → W'.heap[b]? = W.heap[b]?
theorem Kept.cell {Q : Nat → Prop} {W W' : World} (h : Kept Q W W') (b i : Nat) (hb : Q b) [hl : LtW b W] : W'.cell? ⟨b, i, none⟩ = W.cell? ⟨b, i, none⟩ := World.cell?_of_block (h.2 b hb hl.lt)
theorem Kept.lt {Q : Nat → Prop} {W W' : World} (h : Kept Q W W') (b : Nat) [hl : LtW b W] : LtW b W' := ⟨Nat.lt_of_lt_of_le hl.lt h.1⟩

open Classical in
noncomputable def sendE (n : Nat) (rows : Nat → List P4) (core k a p : Int) : Int :=
  if mayB k a p = true ∧ 1 ≤ core ∧ core ≤ (n : Int) then (if ∃ j, 1 ≤ j ∧ j ≤ n ∧ j ≠ core.toNat ∧ 16 ≤ (rows j).length then 20 else 0) else 2
open Classical in
noncomputable def sendR (n : Nat) (rows : Nat → List P4) (core k a p : Int) : Nat → List P4 :=
  if sendE n rows core k a p = 0 then sent rows core.toNat ⟨core, k, a, p⟩ (n + 1) else rows

theorem send_of {w W : World} {Q : Nat → Prop} {c n : Nat} {rows : Nat → List P4} (h : CastOf w W Q c n rows) (core k a p : Int) (e0 : Int) (he : sendE n rows core k a p = e0) (R : Nat → List P4) (hR : sendR n rows core k a p = R) :
    Calls Try.prog 11 #[.pointer (some ⟨c, 0, none⟩), .int .i64 core, tlbi k a p] W fun e w' => e = .returned (.int .i64 e0) ∧ CastOf w w' Q c n R ∧ Kept Q W w' := by
  haveI : LtW c W := ⟨h.lt⟩
  have hstay : ∀ w', (∃ x, w' = ext W x) → CastOf w w' Q c n rows ∧ Kept Q W w' := fun w' ⟨x, hx⟩ => by
    subst hx
    exact ⟨h.below (ext_below W x), (ext_below W x).size, fun b _ hb => (ext_below W x).block b hb⟩
  subst he hR
  by_cases h1 : mayB k a p = true ∧ 1 ≤ core ∧ core ≤ (n : Int)
  · obtain ⟨cn, rfl⟩ : ∃ cn : Nat, core = (cn : Int) := ⟨core.toNat, by omega⟩
    have hcn : 1 ≤ cn ∧ cn ≤ n := by omega
    by_cases h2 : ∃ j, 1 ≤ j ∧ j ≤ n ∧ j ≠ (cn : Int).toNat ∧ 16 ≤ (rows j).length
    · have hE : sendE n rows (cn : Int) k a p = 20 := by rw [sendE, if_pos h1, if_pos h2]
      rw [sendR, hE, if_neg (by decide)]
      obtain ⟨F, vs, h3, h4⟩ := h.at_
      exact (send_full h3 cn hcn.1 hcn.2 k a p h1.1 (by simpa using h2)).mono fun e w' ⟨r1, r2⟩ => ⟨r1, hstay w' r2⟩
    · have hE : sendE n rows (cn : Int) k a p = 0 := by rw [sendE, if_pos h1, if_neg h2]
      rw [sendR, hE, if_pos rfl]
      obtain ⟨F, vs, h3, h4⟩ := h.at_
      refine (send_ok h3 cn hcn.1 hcn.2 k a p h1.1 (fun j hj1 hj2 hj3 => Nat.lt_of_not_le fun hj4 => h2 ⟨j, hj1, hj2, by simpa using hj3, hj4⟩)).mono fun e w' ⟨r1, F', vs', r2, r3, r4⟩ => ⟨r1, ?_, ?_⟩
      · refine ⟨⟨F', vs', by simpa using r2, fun b hb => ?_⟩, ⟨h.up.below.trans ((r3.below (fun b hb => (h4 b hb).1) h.up.le).mono (Nat.le_refl _)), Nat.le_trans h.up.le r3.size⟩, fun b hb => Nat.lt_of_lt_of_le (h.q b hb) r3.size⟩
        rcases r4 b hb with h5 | h5
        · exact h4 b h5
        · exact ⟨Nat.le_trans h.up.le h5, fun hq => by have := h.q b hq; omega⟩
      · exact ⟨r3.size, fun b hb hl => r3.block b hl fun hf => (h4 b hf).2 hb⟩
  · have hE : sendE n rows core k a p = 2 := by rw [sendE, if_neg h1]
    rw [sendR, hE, if_neg (by decide)]
    exact (send_bad core k a p h.cn h1).mono fun e w' ⟨r1, r2⟩ => ⟨r1, hstay w' r2⟩

def waitsR (n : Nat) (rows : Nat → List P4) (core : Int) : Int := if 1 ≤ core ∧ core ≤ (n : Int) then ((rows core.toNat).length : Int) else 0
theorem waits_bad {W : World} {c n : Nat} (core : Int) [LtW c W] (h0 : W.cell? ⟨c, 0, none⟩ = some (.int .i64 (n : Int))) (hk : (decide (1 ≤ core) && decide (core ≤ (n : Int))) = false) :
    Calls Try.prog 12 #[.pointer (some ⟨c, 0, none⟩), .int .i64 core] W fun e w' => e = .returned (.int .i64 0) ∧ ∃ x, w' = ext W x := by
  go_enter Try.func12, Try.ntmps12
  go_wp2_with (go_at_call 41; with_reducible refine (there_any _ c n _ (by simp [go_sem, h0]) false hk).mono ?_; rintro e w' ⟨rfl, z, rfl⟩)
  go_ret
  exact ⟨rfl, up_to⟩
theorem waits_of {w W : World} {Q : Nat → Prop} {c n : Nat} {rows : Nat → List P4} (h : CastOf w W Q c n rows) (core : Int) (r : Int) (hr : waitsR n rows core = r) :
    Calls Try.prog 12 #[.pointer (some ⟨c, 0, none⟩), .int .i64 core] W fun e w' => e = .returned (.int .i64 r) ∧ ∃ x, w' = ext W x := by
  subst hr
  haveI : LtW c W := ⟨h.lt⟩
  by_cases h1 : 1 ≤ core ∧ core ≤ (n : Int)
  · obtain ⟨cn, rfl⟩ : ∃ cn : Nat, core = (cn : Int) := ⟨core.toNat, by omega⟩
    rw [waitsR, if_pos h1]
    obtain ⟨F, vs, h3, h4⟩ := h.at_
    exact waits_any h3 cn (by omega) (by omega)
  · rw [waitsR, if_neg h1]
    refine waits_bad core h.cn ?_
    rw [Bool.and_eq_false_iff, decide_eq_false_iff_not, decide_eq_false_iff_not]
    by_cases h2 : 1 ≤ core
    · exact .inr fun h3 => h1 ⟨h2, h3⟩
    · exact .inl h2
theorem done_of {w W : World} {Q : Nat → Prop} {c n : Nat} {rows : Nat → List P4} (h : CastOf w W Q c n rows) (core : Int) (r : Bool) (hr : ((pairsUp rows 9).all fun x => !(x.2.s == core)) = r) :
    Calls Try.prog 15 #[.pointer (some ⟨c, 0, none⟩), .int .i64 core] W fun e w' => e = .returned (.bool r) ∧ ∃ x, w' = ext W x := by
  obtain ⟨F, vs, h3, h4⟩ := h.at_
  exact done_any h3 core r hr

/-- What Ack tells: nothing waits, or the first pair. -/
def ackE (n : Nat) (rows : Nat → List P4) (core : Int) : Int := if 1 ≤ core ∧ core ≤ (n : Int) then (match rows core.toNat with | [] => 4 | _ :: _ => 0) else 2
def ackX (n : Nat) (rows : Nat → List P4) (core : Int) : P4 := if 1 ≤ core ∧ core ≤ (n : Int) then (match rows core.toNat with | [] => ⟨0, 0, 0, 0⟩ | x :: _ => x) else ⟨0, 0, 0, 0⟩
def ackR (n : Nat) (rows : Nat → List P4) (core : Int) : Nat → List P4 := if 1 ≤ core ∧ core ≤ (n : Int) then upd rows core.toNat (rows core.toNat).tail else rows
theorem upd_self {α : Type} (f : Nat → α) (k : Nat) : upd f k (f k) = f := by funext j; unfold upd; split <;> simp_all

theorem ack_of {w W : World} {Q : Nat → Prop} {c n : Nat} {rows : Nat → List P4} (h : CastOf w W Q c n rows) (core : Int) (e0 : Int) (he : ackE n rows core = e0) (x : P4) (hx : ackX n rows core = x) (R : Nat → List P4) (hR : ackR n rows core = R) :
    Calls Try.prog 14 #[.pointer (some ⟨c, 0, none⟩), .int .i64 core] W fun e w' => e = .returned (.tuple #[tlbi x.k x.a x.p, .int .i64 e0]) ∧ CastOf w w' Q c n R ∧ Kept Q W w' := by
  haveI : LtW c W := ⟨h.lt⟩
  have hstay : ∀ w', (∃ x, w' = ext W x) → CastOf w w' Q c n rows ∧ Kept Q W w' := fun w' ⟨x, hx⟩ => by
    subst hx
    exact ⟨h.below (ext_below W x), (ext_below W x).size, fun b _ hb => (ext_below W x).block b hb⟩
  subst he hx hR
  by_cases h1 : 1 ≤ core ∧ core ≤ (n : Int)
  · obtain ⟨cn, rfl⟩ : ∃ cn : Nat, core = (cn : Int) := ⟨core.toNat, by omega⟩
    rw [ackE, ackX, ackR, if_pos h1, if_pos h1, if_pos h1]
    simp only [Int.toNat_natCast]
    obtain ⟨F, vs, h3, h4⟩ := h.at_
    cases hr : rows cn with
    | nil =>
      have : upd rows cn ([] : List P4).tail = rows := by rw [List.tail_nil, ← hr, upd_self]
      rw [this]
      exact (ack_none h3 cn (by omega) (by omega) hr).mono fun e w' ⟨r1, r2⟩ => ⟨r1, hstay w' r2⟩
    | cons y l =>
      refine (ack_some h3 cn (by omega) (by omega) y l hr).mono fun e w' ⟨r1, r2, v, r3⟩ => ⟨r1, ?_, ?_⟩
      · refine ⟨⟨F, _, r3, h4⟩, ⟨h.up.below.trans (r2.below (fun b hb => by rw [hb]; exact (h4 c h3.fc).1) h.up.le), Nat.le_trans h.up.le r2.size⟩, fun b hb => Nat.lt_of_lt_of_le (h.q b hb) r2.size⟩
      · exact ⟨r2.size, fun b hb hl => r2.block b hl fun hf => by subst hf; exact h.nq hb⟩
  · rw [ackE, ackX, ackR, if_neg h1, if_neg h1, if_neg h1]
    refine (ack_bad core h.cn ?_).mono fun e w' ⟨r1, r2⟩ => ⟨r1, hstay w' r2⟩
    rw [Bool.and_eq_false_iff, decide_eq_false_iff_not, decide_eq_false_iff_not]
    by_cases h2 : 1 ≤ core
    · exact .inr fun h3 => h1 ⟨h2, h3⟩
    · exact .inl h2

def newB (n : Int) : Bool := decide (1 ≤ n) && decide (n ≤ 8)
theorem new_no (n : Int) (w : World) (hn : n < 1 ∨ 8 < n) :
    Calls Try.prog 9 #[.int .i64 n] w fun e w' => e = .returned (.tuple #[.pointer none, .int .i64 2]) ∧ ∃ x, w' = ext w x := by
  rcases hn with hn | hn
  all_goals
    go_enter Try.func9, Try.ntmps9
    go_wp2
    go_ret2
    exact ⟨rfl, up_to⟩
theorem new_yes (n : Nat) (w : World) (h1 : 1 ≤ n) (h8 : n ≤ 8) :
    Calls Try.prog 9 #[.int .i64 (n : Int)] w fun e w' => e = .returned (.tuple #[.pointer (some ⟨w.heap.size, 0, none⟩), .int .i64 0]) ∧ CastOf w w' (fun _ => False) w.heap.size n (fun _ => []) := by
  have hz1 : (1 : Int) ≤ (n : Int) := by omega
  have hz8 : (n : Int) ≤ 8 := by omega
  go_enter Try.func9, Try.ntmps9
  go_wp2
  go_ret2
  have hat : CastAt (fun b => b = w.heap.size) (w.alloc (.cells #[.int .i64 (n : Int), .slice none 0 0, .slice none 0 0, .slice none 0 0, .slice none 0 0, .slice none 0 0, .slice none 0 0, .slice none 0 0, .slice none 0 0, .slice none 0 0] 84)) w.heap.size n (fun _ => []) (fun _ => .slice none 0 0) :=
    { blk := heap_alloc_new w _
      row := fun k _ => .inl ⟨rfl, rfl⟩
      fc := rfl
      fr := fun k g _ hg => (by cases hg)
      sep := fun j k g _ _ _ hg => (by cases hg)
      n8 := h8
      few := fun k _ => (by simp)
      fl := fun b hb => (by simp [hb]) }
  exact ⟨rfl, ⟨⟨_, _, hat, fun b hb => ⟨Nat.le_of_eq hb.symm, fun h => h⟩⟩, (Up.refl w).alloc _, fun b hb => hb.elim⟩⟩
end Go.Proofs.Ytpolilljglfkoaa
