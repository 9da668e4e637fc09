/- The document's memory: how its blocks lie, and what Write tells. -/
import Derived.Test.YtcjklghjnbhcdaaWMemW
import Derived.RegionTactic
import Derived.BigRegion
namespace Go.Proofs.Ytcjklghjnbhcdaa
open Go.RowKit

/-- A frame's words: none, or 512 in block g. -/
def FrameAt (F : Nat → Prop) (W : World) (v : Value) : Prop := v = .slice none 0 0 ∨ ∃ g cs t, v = .slice (some ⟨g, 0, none⟩) 512 512 ∧ F g ∧ W.heap[g]? = some (.cells cs t (0, 0)) ∧ cs.size = 512
/-- The document's memory at block b: its list in block l. -/
structure RMemAt (F : Nat → Prop) (W : World) (b l n : Nat) : Prop where
  blk : W.heap[b]? = some (.cells #[.slice (some ⟨l, 0, none⟩) n n] 161 (0, 0))
  lst : ∃ cs t, W.heap[l]? = some (.cells cs t (0, 0)) ∧ cs.size = n ∧ ∀ k, k < n → ∃ v, cs[k]? = some v ∧ FrameAt F W v
  fb : F b
  fm : F l
  fl : ∀ i, F i → i < W.heap.size
  n64 : n ≤ 64

section
variable {F : Nat → Prop} {W : World} {b l n : Nat}
theorem RMemAt.chg {G : Nat → Prop} {W' : World} (h : RMemAt F W b l n) (hC : Chg G W W') (hG : ∀ b, G b → ¬ F b) : RMemAt F W' b l n :=
  { h with
    blk := (hC.block b (h.fl _ h.fb) (fun hg => hG b hg h.fb)).trans h.blk
    lst := by
      obtain ⟨cs, t, h1, h2, h3⟩ := h.lst
      refine ⟨cs, t, (hC.block l (h.fl _ h.fm) (fun hg => hG l hg h.fm)).trans h1, h2, fun k hk => ?_⟩
      obtain ⟨v, r1, r2⟩ := h3 k hk
      refine ⟨v, r1, ?_⟩
      rcases r2 with r2 | ⟨g, gs, t, q1, q2, q3, q4⟩
      · exact .inl r2
      · exact .inr ⟨g, gs, t, q1, q2, (hC.block g (h.fl _ q2) (fun hg => hG g hg q2)).trans q3, q4⟩
    fl := fun i hi => Nat.lt_of_lt_of_le (h.fl i hi) hC.size }
theorem RMemAt.below {W' : World} (h : RMemAt F W b l n) (hB : Below W.heap.size W W') : RMemAt F W' b l n := h.chg (G := fun _ => False) (Chg.of_below hB) (fun _ h => h.elim)
theorem RMemAt.cl (h : RMemAt F W b l n) : W.cell? ⟨b, 0, none⟩ = some (.slice (some ⟨l, 0, none⟩) n n) := by simp [World.cell?, h.blk]
end

theorem rthere_any (W : World) (b n l : Nat) (hn : n ≤ 64) (X : Nat) (hX : X < 18446744073709551616) [LtW b W] (h0 : W.cell? ⟨b, 0, none⟩ = some (.slice (some ⟨l, 0, none⟩) n n)) (r : Bool) (hr : decide (X / 512 < n) = r) :
    Calls Try.prog 75 #[.pointer (some ⟨b, 0, none⟩), .int .u64 (X : Int)] W fun e w' => e = .returned (.bool r) ∧ ∃ x, w' = ext W x := by
  have hw : IntKind.u64.wrap ((X : Int) / 512) = (X : Int) / 512 := by rw [IntKind.wrap_u64]; omega
  go_enter Try.func75, Try.ntmps75
  go_wp2
  go_ret
  refine ⟨ret_bool ?_, up_to⟩
  rw [← hr, Bool.eq_iff_iff, decide_eq_true_eq, decide_eq_true_eq]
  omega

theorem infoW : (Try.prog.info? 30).map (fun i => (i.zero, i.size, i.bytes)) = some (some (.int .u64 0), 1, 8) := by kernel_rfl
theorem infoL : (Try.prog.info? 163).map (fun i => (i.zero, i.size, i.bytes)) = some (some (.slice none 0 0), 1, 24) := by kernel_rfl
def zsW : Array Value := madeCells (Value.int .u64 0).cells (512 * 1)
def zsL : Array Value := madeCells (Value.slice none 0 0).cells (16 * 1)
theorem zsW_size : zsW.size = 512 := size_madeCells _ _
theorem zsL_size : zsL.size = 16 := size_madeCells _ _
theorem zsL_at (k : Nat) (hk : k < 16) : zsL[k]? = some (.slice none 0 0) := by
  unfold zsL madeCells
  simp [Value.cells, hk, Nat.mod_one]
theorem run_makeW (w : World) : (Instr.makeSlice 163 (.int .i64 512) (.int .i64 512)).run Try.prog w = .ok (.slice (some ⟨w.heap.size, 0, none⟩) 512 512) (w.alloc (.cells zsW 30)) := by
  obtain ⟨i, hi, hz, hs, hb⟩ := info_parts infoW
  have := run_make (P := Try.prog) w 163 30 i _ Try.underlying163 hi hz .i64 .i64 512 512 (by decide) (by decide) (by rw [hb]; decide) (by decide)
  rw [hs] at this
  exact this
theorem run_makeL (w : World) : (Instr.makeSlice 159 (.int .i64 16) (.int .i64 16)).run Try.prog w = .ok (.slice (some ⟨w.heap.size, 0, none⟩) 16 16) (w.alloc (.cells zsL 163)) := by
  obtain ⟨i, hi, hz, hs, hb⟩ := info_parts infoL
  have := run_make (P := Try.prog) w 159 163 i _ Try.underlying159 hi hz .i64 .i64 16 16 (by decide) (by decide) (by rw [hb]; decide) (by decide)
  rw [hs] at this
  exact this

theorem rnew_any (W : World) :
    Calls Try.prog 48 #[.int .i64 16] W fun e w' => ∃ b l, e = .returned (.tuple #[.pointer (some ⟨b, 0, none⟩), .int .i64 0]) ∧
      ∃ F, RMemAt F w' b l 16 ∧ (∀ i, F i → W.heap.size ≤ i) ∧ ∃ x, w' = ext W x := by
  have hmk := run_makeL
  go_enter Try.func48, Try.ntmps48
  go_wp2_with fail
  go_ret2
  refine ⟨_, W.heap.size, rfl, fun i => i = W.heap.size ∨ i = W.heap.size + 1, ?_, ?_, up_to⟩
  · have e1 : ((W.alloc (.cells zsL 163)).alloc (.cells #[.slice (some ⟨W.heap.size, 0, none⟩) 16 16] 161)).heap[W.heap.size + 1]? = some (.cells #[.slice (some ⟨W.heap.size, 0, none⟩) 16 16] 161 (0, 0)) := by
      have := heap_alloc_last (W.alloc (.cells zsL 163)) (.cells #[.slice (some ⟨W.heap.size, 0, none⟩) 16 16] 161 (0, 0))
      simpa using this
    have e2 : ((W.alloc (.cells zsL 163)).alloc (.cells #[.slice (some ⟨W.heap.size, 0, none⟩) 16 16] 161)).heap[W.heap.size]? = some (.cells zsL 163 (0, 0)) := by
      show ((W.alloc (.cells zsL 163)).heap.push _)[W.heap.size]? = _
      rw [Array.getElem?_push, if_neg (by simp)]
      exact heap_alloc_last W _
    exact {
      blk := e1
      lst := ⟨zsL, _, e2, zsL_size, fun k hk => ⟨_, zsL_at k hk, .inl rfl⟩⟩
      fb := .inr rfl
      fm := .inl rfl
      fl := fun i hi => by rcases hi with rfl | rfl <;> simp <;> omega
      n64 := by decide }
  · rintro i (rfl | rfl) <;> omega

section
variable {F : Nat → Prop} {W : World} {b l n : Nat}
theorem rwrite_bad (h : RMemAt F W b l n) (X : Nat) (hX : X < 18446744073709551616) (V : Int) (hk : n ≤ X / 512) :
    Calls Try.prog 49 #[.pointer (some ⟨b, 0, none⟩), .int .u64 (X : Int), .int .u64 V] W fun e w' => e = .returned (.int .i64 80) ∧ ∃ x, w' = ext W x := by
  have hb : LtW b W := ⟨h.fl _ h.fb⟩
  have c0 := h.cl
  have n64 := h.n64
  have hr : decide (X / 512 < n) = false := decide_eq_false (by omega)
  have HR := Lib.hid hr; have HX := Lib.hid hX
  clear hr h hk hX
  go_enter Try.func49, Try.ntmps49
  go_wp2_with (go_at_call 75; with_reducible refine (rthere_any _ b n l n64 X HX.out c0 false HR.out).mono ?_; rintro e w' ⟨rfl, x, rfl⟩)
  go_ret
  exact ⟨rfl, up_to⟩

theorem rwrite_old (h : RMemAt F W b l n) (X : Nat) (hX : X < 18446744073709551616) (V : Int) (hk : X / 512 < n) (g : Nat) (cs : Array Value) (t : TypeId) (hv : W.cell? ⟨l, X / 512, none⟩ = some (.slice (some ⟨g, 0, none⟩) 512 512)) (hg : W.heap[g]? = some (.cells cs t (0, 0))) (hs : cs.size = 512) :
    Calls Try.prog 49 #[.pointer (some ⟨b, 0, none⟩), .int .u64 (X : Int), .int .u64 V] W fun e w' => e = .returned (.int .i64 0) ∧ ∃ x, w' = ext (W.setCell ⟨g, X % 512, none⟩ (.int .u64 V)) x := by
  have hb : LtW b W := ⟨h.fl _ h.fb⟩
  have hl : LtW l W := ⟨h.fl _ h.fm⟩
  have hgl : LtW g W := ⟨(Array.getElem?_eq_some_iff.1 hg).1⟩
  have c0 := h.cl
  have n64 := h.n64
  have hr : decide (X / 512 < n) = true := decide_eq_true (by omega)
  have HR := Lib.hid hr; have HX := Lib.hid hX
  have hw : IntKind.u64.wrap ((X : Int) / 512) = (X : Int) / 512 := by rw [IntKind.wrap_u64]; omega
  have hw2 : IntKind.u64.wrap ((X : Int) % 512) = (X : Int) % 512 := by rw [IntKind.wrap_u64]; omega
  have hfz : W.frozen? ⟨g, X % 512, none⟩ = false := by simp [World.frozen?, hg]
  have hcw : ∃ u, W.cell? ⟨g, X % 512, none⟩ = some u := ⟨cs[X % 512]'(by omega), by simp [World.cell?, hg, show X % 512 < cs.size by omega]⟩
  obtain ⟨u, hcw⟩ := hcw
  clear hr h hX
  go_enter Try.func49, Try.ntmps49
  go_wp2_with (go_at_call 75; with_reducible refine (rthere_any _ b n l n64 X HX.out c0 true HR.out).mono ?_; rintro e w' ⟨rfl, x, rfl⟩)
  go_ret
  exact ⟨rfl, _, rfl⟩

/-- A word behind a store into a frame. -/
theorem rmem_set (h : RMemAt F W b l n) (g i : Nat) (V : Value) (cs : Array Value) (t : TypeId) (hgF : F g) (hg : W.heap[g]? = some (.cells cs t (0, 0))) (hs : cs.size = 512) : RMemAt F (W.setCell ⟨g, i, none⟩ V) b l n := by
  have hgb : b ≠ g := by
    rintro rfl
    have := h.blk.symm.trans hg
    simp at this
    have e := this.1
    rw [← e] at hs
    simp at hs
  have hgl : l ≠ g := by
    rintro rfl
    obtain ⟨ls, t', h1, h2, _⟩ := h.lst
    have := h1.symm.trans hg
    simp at this
    have e := this.1
    rw [← e] at hs
    have := h.n64
    omega
  have hoth : ∀ k, k ≠ g → (W.setCell ⟨g, i, none⟩ V).heap[k]? = W.heap[k]? := fun k hk => Below.heap_setCell W ⟨g, i, none⟩ _ k hk
  refine { h with blk := (hoth b hgb).trans h.blk, lst := ?_, fl := fun j hj => by simpa using h.fl j hj }
  obtain ⟨ls, t', h1, h2, h3⟩ := h.lst
  refine ⟨ls, t', (hoth l hgl).trans h1, h2, fun k hk => ?_⟩
  obtain ⟨v, r1, r2⟩ := h3 k hk
  refine ⟨v, r1, ?_⟩
  rcases r2 with r2 | ⟨g', gs, t'', q1, q2, q3, q4⟩
  · exact .inl r2
  · by_cases e : g' = g
    · subst e
      refine .inr ⟨g', cs.setIfInBounds i V, t, q1, q2, ?_, by simpa using hs⟩
      simp only [World.setCell, Array.getElem?_modify, if_true, hg]; rfl
    · exact .inr ⟨g', gs, t'', q1, q2, (hoth g' e).trans q3, q4⟩

theorem RMemAt.ne (h : RMemAt F W b l n) (k : Nat) (hk : k < n) : b ≠ l := by
  rintro rfl
  obtain ⟨ls, t', h1, h2, h3⟩ := h.lst
  have := h1.symm.trans h.blk
  simp at this
  have e := this.1
  obtain ⟨v, r1, r2⟩ := h3 k hk
  rw [e] at r1 h2
  simp at h2
  have hk0 : k = 0 := by omega
  subst hk0
  simp at r1
  rcases r2 with r2 | ⟨g', gs, t'', q1, q2, q3, q4⟩
  · rw [r2] at r1; simp at r1
  · rw [q1] at r1; simp at r1; omega
theorem rmem_grow (h : RMemAt F W b l n) (k : Nat) (hk : k < n) (zs : Array Value) (hz : zs.size = 512) (t : TypeId) :
    RMemAt (fun i => F i ∨ i = W.heap.size) (((W.setCell ⟨l, k, none⟩ (.slice (some ⟨W.heap.size, 0, none⟩) 512 512)).alloc (.cells zs t))) b l n := by
  have hb := h.fl _ h.fb
  have hl := h.fl _ h.fm
  have hbl := h.ne k hk
  have hoth : ∀ j, j < W.heap.size → j ≠ l → ((W.setCell ⟨l, k, none⟩ (.slice (some ⟨W.heap.size, 0, none⟩) 512 512)).alloc (.cells zs t)).heap[j]? = W.heap[j]? := fun j hj hne => by
    show ((W.setCell ⟨l, k, none⟩ _).heap.push _)[j]? = _
    rw [Array.getElem?_push, if_neg (by simp; omega)]
    exact Below.heap_setCell W ⟨l, k, none⟩ _ j hne
  have hnew : ((W.setCell ⟨l, k, none⟩ (.slice (some ⟨W.heap.size, 0, none⟩) 512 512)).alloc (.cells zs t)).heap[W.heap.size]? = some (.cells zs t (0, 0)) := by
    have := heap_alloc_last (W.setCell ⟨l, k, none⟩ (.slice (some ⟨W.heap.size, 0, none⟩) 512 512)) (.cells zs t)
    simpa using this
  obtain ⟨ls, t', h1, h2, h3⟩ := h.lst
  have hlst : ((W.setCell ⟨l, k, none⟩ (.slice (some ⟨W.heap.size, 0, none⟩) 512 512)).alloc (.cells zs t)).heap[l]? = some (.cells (ls.setIfInBounds k (.slice (some ⟨W.heap.size, 0, none⟩) 512 512)) t' (0, 0)) := by
    show ((W.setCell ⟨l, k, none⟩ _).heap.push _)[l]? = _
    rw [Array.getElem?_push, if_neg (by simp; omega)]
    simp only [World.setCell, Array.getElem?_modify, if_true, h1]; rfl
  refine { blk := (hoth b hb hbl).trans h.blk, lst := ⟨_, t', hlst, by simpa using h2, fun j hj => ?_⟩, fb := .inl h.fb, fm := .inl h.fm, fl := ?_, n64 := h.n64 }
  · rw [Array.getElem?_setIfInBounds]
    by_cases e : k = j
    · rw [if_pos e, if_pos (by omega)]
      exact ⟨_, rfl, .inr ⟨_, zs, t, rfl, .inr rfl, hnew, hz⟩⟩
    · rw [if_neg e]
      obtain ⟨v, r1, r2⟩ := h3 j hj
      refine ⟨v, r1, ?_⟩
      rcases r2 with r2 | ⟨g', gs, t'', q1, q2, q3, q4⟩
      · exact .inl r2
      · have hgl : g' ≠ l := by
          rintro rfl
          have := h1.symm.trans q3
          simp at this
          have e2 := this.1
          rw [← e2] at q4
          have := h.n64
          omega
        exact .inr ⟨g', gs, t'', q1, .inl q2, (hoth g' (h.fl _ q2) hgl).trans q3, q4⟩
  · rintro i (hi | rfl)
    · have := h.fl i hi; simp; omega
    · simp

theorem zsW_at (i : Nat) (hi : i < 512) : zsW[i]? = some (.int .u64 0) := by
  unfold zsW madeCells
  simp [Value.cells, hi, Nat.mod_one]

theorem rwrite_new (h : RMemAt F W b l n) (X : Nat) (hX : X < 18446744073709551616) (V : Int) (hk : X / 512 < n) (hv : W.cell? ⟨l, X / 512, none⟩ = some (.slice none 0 0)) :
    Calls Try.prog 49 #[.pointer (some ⟨b, 0, none⟩), .int .u64 (X : Int), .int .u64 V] W fun e w' => e = .returned (.int .i64 0) ∧
      ∃ F', RMemAt F' w' b l n ∧ Chg F W w' ∧ (∀ i, F' i → F i ∨ W.heap.size ≤ i) := by
  have hb : LtW b W := ⟨h.fl _ h.fb⟩
  have hl : LtW l W := ⟨h.fl _ h.fm⟩
  have c0 := h.cl
  have n64 := h.n64
  have hr : decide (X / 512 < n) = true := decide_eq_true (by omega)
  have HR := Lib.hid hr; have HX := Lib.hid hX
  have hw : IntKind.u64.wrap ((X : Int) / 512) = (X : Int) / 512 := by rw [IntKind.wrap_u64]; omega
  have hw2 : IntKind.u64.wrap ((X : Int) % 512) = (X : Int) % 512 := by rw [IntKind.wrap_u64]; omega
  have hmk := run_makeW
  have hz := zsW_at (X % 512) (Nat.mod_lt _ (by decide))
  have hzs := zsW_size
  have hfz : W.frozen? ⟨l, X / 512, none⟩ = false := by
    obtain ⟨cs, t, h1, _⟩ := h.lst
    simp [World.frozen?, h1]
  have hbl := h.ne _ hk
  have hlb := hbl.symm
  have H := Lib.hid h
  clear hr h hX
  go_enter Try.func49, Try.ntmps49
  go_wp2_with (go_at_call 75; with_reducible refine (rthere_any _ b n l n64 X HX.out c0 true HR.out).mono ?_
               rintro e w1 ⟨rfl, x, h1⟩
               have U1 : Up W.heap.size W w1 := (by subst h1; exact (Up.refl W).ext _)
               have L1 : LtW b w1 := (by subst h1; infer_instance)
               have L2 : LtW l w1 := (by subst h1; infer_instance)
               have c1 : w1.cell? ⟨b, 0, none⟩ = some (.slice (some ⟨l, 0, none⟩) n n) := (by subst h1; simp [go_sem, c0])
               have c2 : w1.cell? ⟨l, X / 512, none⟩ = some (.slice none 0 0) := (by subst h1; simp [go_sem, hv])
               have c3 : w1.frozen? ⟨l, X / 512, none⟩ = false := (by subst h1; simp [go_sem, hfz])
               clear h1)
  go_region
  go_wp2_with fail
  go_ret
  have hM := rmem_grow (H.out.below U1.1) (X / 512) hk (zsW.setIfInBounds (X % 512) (.int .u64 V)) (by simpa using hzs) 30
  have hs := U1.2
  refine ⟨rfl, _, hM.below ((Up.refl _).drew.1), ?_, fun i hi => ?_⟩
  · exact ((((Chg.of_below U1.1).set l _ _ (.inl H.out.fm)).alloc _).drew)
  · rcases hi with hi | rfl
    · exact .inl hi
    · exact .inr hs

theorem rwrite_any (h : RMemAt F W b l n) (X : Nat) (hX : X < 18446744073709551616) (V : Int) (hk : X / 512 < n) :
    Calls Try.prog 49 #[.pointer (some ⟨b, 0, none⟩), .int .u64 (X : Int), .int .u64 V] W fun e w' => e = .returned (.int .i64 0) ∧
      ∃ F', RMemAt F' w' b l n ∧ Chg F W w' ∧ (∀ i, F' i → F i ∨ W.heap.size ≤ i) := by
  obtain ⟨cs, t, h1, h2, h3⟩ := h.lst
  obtain ⟨v, r1, r2⟩ := h3 _ hk
  have hv : W.cell? ⟨l, X / 512, none⟩ = some v := by
    simp only [World.cell?, h1]
    simpa using r1
  rcases r2 with rfl | ⟨g, gs, t', rfl, q2, q3, q4⟩
  · exact rwrite_new h X hX V hk hv
  · refine (rwrite_old h X hX V hk g gs t' hv q3 q4).mono ?_
    rintro e w' ⟨rfl, x, rfl⟩
    have hM := rmem_set h g (X % 512) (.int .u64 V) gs t' q2 q3 q4
    exact ⟨rfl, F, hM.below (ext_below _ x), ((Chg.refl F W).set g _ _ (.inl q2)).ext x, fun i hi => .inl hi⟩
end
end Go.Proofs.Ytcjklghjnbhcdaa
