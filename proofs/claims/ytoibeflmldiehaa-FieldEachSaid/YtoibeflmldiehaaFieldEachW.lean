/- FieldEach walks to true. -/
import Derived.Test.YtoibeflmldiehaaRef01b
namespace Go.Proofs.Ytoibeflmldiehaa
open Go.RowKit Go.Shelf
attribute [local go_sem] Oper.semAt_some

/-- What a row of the call's own lets be read. -/
def Reads (W : World) (B : Nat) (a : Option Addr) (l : List Nat) : Prop :=
  ∀ i, i < l.length → ∃ g, a = some ⟨g, 0, none⟩ ∧ g < B ∧ W.cell? ⟨g, i, none⟩ = some (.int .i64 ((l.getD i 0 : Nat) : Int))

theorem reads_of {W : World} {base : Nat} {v : Value} {l : List Nat} (h : W.ownsRow base 3 1 v l.length (ints l)) : ∃ a cap, v = .slice a l.length cap ∧ Reads W W.heap.size a l := by
  obtain ⟨h1, h2⟩ := h
  rcases h2 with ⟨h2, h3⟩ | ⟨g, cap, cur, hv, hg, hh, hn, hc, hs, ht⟩
  · exact ⟨none, 0, by rw [h2, h3], fun i hi => by omega⟩
  · refine ⟨some ⟨g, 0, none⟩, cap, hv, fun i hi => ⟨g, rfl, (Array.getElem?_eq_some_iff.1 hh).1, ?_⟩⟩
    have e : W.cell? ⟨g, i, none⟩ = cur[i]? := by simp [World.cell?, hh]
    rw [e]
    have h3 : (cur.toList.take (l.length * 1))[i]? = some (.int .i64 ((l.getD i 0 : Nat) : Int)) := by
      rw [ht]
      simp [ints, hi]
    rw [List.getElem?_take] at h3
    simp only [Nat.mul_one, hi, if_true] at h3
    simpa using h3

theorem set_other (W : World) (n m i : Nat) (v : Value) (h : m ≠ n) : (W.setCell ⟨n, 0, none⟩ v).cell? ⟨m, i, none⟩ = W.cell? ⟨m, i, none⟩ :=
  World.cell?_of_block (Below.heap_setCell W ⟨n, 0, none⟩ v m h)
theorem snoc_pre {p l : List Nat} {x : Nat} (hp : p <+: l) (h : p.length < l.length) (hx : x = l.getD p.length 0) : p ++ [x] <+: l := by
  obtain ⟨t, rfl⟩ := hp
  cases t with
  | nil => simp at h
  | cons y t =>
    simp at hx
    exact ⟨t, by simp [hx]⟩
theorem snoc_not {p l : List Nat} {x y : Nat} (hy : y = l.getD p.length 0) (hx : ¬ x = y) : ¬ p ++ [x] <+: l := by
  rintro ⟨t, rfl⟩
  simp at hy
  exact hx hy.symm
theorem snoc_long {p l : List Nat} {x : Nat} (h : ¬ p.length < l.length) : ¬ p ++ [x] <+: l := by
  intro hp
  have := hp.length_le
  simp at this
  omega

theorem end_facts (w W y : World) (b D : Nat) (v u : Value) (hb : w.heap.size ≤ b) (hc : W.cell? ⟨b, 0, none⟩ = some u) (hK : W.heap[D]? = some (.deferred (some []))) (hB : Below w.heap.size w W) :
    (ext (W.setCell ⟨b, 0, none⟩ v) y).cell? ⟨b, 0, none⟩ = some v ∧ (ext (W.setCell ⟨b, 0, none⟩ v) y).heap[D]? = some (.deferred (some [])) ∧ Below w.heap.size w (ext (W.setCell ⟨b, 0, none⟩ v) y) := by
  have h1 := (KeepsOthers.setCell W ⟨b, 0, none⟩ v).same D _ hK rfl
  have h2 := World.cell?_setCell_same' W ⟨b, 0, none⟩ v (by rw [hc]; rfl)
  have hl : b < (W.setCell ⟨b, 0, none⟩ v).heap.size := World.block_lt_of_cell? _ _ h2
  have hd : D < (W.setCell ⟨b, 0, none⟩ v).heap.size := (Array.getElem?_eq_some_iff.1 h1).1
  have hx := ext_below (W.setCell ⟨b, 0, none⟩ v) y
  refine ⟨(hx.cell (p := ⟨b, 0, none⟩) hl).trans h2, (hx.block D hd).trans h1, ?_⟩
  have h3 := hB.setCell (p := ⟨b, 0, none⟩) hb v
  exact h3.trans (hx.mono h3.size)

set_option maxRecDepth 100000 in
set_option maxHeartbeats 4000000 in
theorem each_in (X : Nat) (hX : X < 18446744073709551616) (leave : Int) (w : World) :
    CallsIn Fence.wide 9 Try.prog 7 #[.int .u64 X, .int .i64 leave] w fun e w' => e = .returned (.bool true) ∧ Below w.heap.size w w' := by
  have HX := Lib.hid hX
  clear hX
  have heq : ∀ (g : Addr) (w : World), (binOp .eql 50 (.func (.func 60) #[] #[.pointer (some g)]) .nilFunc).run Try.prog w = .ok (.bool false) w := fun _ _ => by kernel_rfl
  refine callsIn_of_wp_marks Try.func7 rfl trivial ?_ rfl
  simp only [Try.ntmps7, List.size_toArray, List.length_cons, List.length_nil, Nat.reduceAdd, Nat.reduceSub, Array.replicate_succ, Array.replicate_zero, List.push_toArray, List.append_toArray, List.nil_append, List.cons_append]
  gi_wp2_with (first
    | (refine ⟨trivial, ?_⟩; gi_at_call 27; refine (callsIn_wide.2 (refEach_any X HX.out _)).mono ?_; rintro e w1 ⟨v, rfl, ho, hb1⟩; obtain ⟨sa, sc, rfl, hR⟩ := reads_of ho; have HR := Lib.hid hR; clear hR ho)
    | (refine ⟨trivial, ?_⟩; gi_at_call 28; refine (callsIn_wide.2 (Each_any _ _)).mono ?_; rintro e w' ⟨rfl, rfl⟩))
  have hsz : w.heap.size + 1 < w1.heap.size := by have := hb1.size; simp at this; omega
  have c0 : w1.cell? ⟨w.heap.size, 0, none⟩ = some (.int .i64 leave) := by
    rw [hb1.cell (p := ⟨w.heap.size, 0, none⟩) (by simp; omega)]; simp [go_sem]
  have c1 : w1.cell? ⟨w.heap.size + 1, 0, none⟩ = some (.bool false) := by
    rw [hb1.cell (p := ⟨w.heap.size + 1, 0, none⟩) (by simp)]; simp [go_sem]
  have f1 : w1.frozen? ⟨w.heap.size + 1, 0, none⟩ = false := by
    rw [hb1.frozen (p := ⟨w.heap.size + 1, 0, none⟩) (by simp)]; simp [go_sem]
  have hbw : Below w.heap.size w w1 := (((Up.refl w).alloc _).alloc _).below.trans (hb1.mono (by simp; omega))
  obtain ⟨W0, hW0⟩ : ∃ W0, (((w1.alloc (Obj.cells #[Value.slice sa (bitsUp X 64).length sc] 47)).alloc (Obj.cells #[Value.int IntKind.u64 X] 22)).alloc (Obj.cells #[Value.int IntKind.i64 0] 3)) = W0 := ⟨_, rfl⟩
  have hB0 : Below w.heap.size w W0 := by rw [← hW0]; exact (((hbw.alloc (by omega) _).alloc (by simp; omega) _).alloc (by simp; omega) _)
  have hs0 : W0.heap.size = w1.heap.size + 3 := by rw [← hW0]; simp
  have hx : W0.cell? ⟨w1.heap.size + 1, 0, none⟩ = some (.int .u64 X) := by rw [← hW0]; simp [go_sem]
  have e0 : W0.cell? ⟨w.heap.size, 0, none⟩ = some (.int .i64 leave) := by rw [← hW0]; exact cell_alloc_l _ (cell_alloc_l _ (cell_alloc_l _ c0))
  have e1 : W0.cell? ⟨w.heap.size + 1, 0, none⟩ = some (.bool false) := by rw [← hW0]; exact cell_alloc_l _ (cell_alloc_l _ (cell_alloc_l _ c1))
  have e2 : W0.frozen? ⟨w.heap.size + 1, 0, none⟩ = false := by rw [← hW0]; exact frozen_alloc_l _ (cell_alloc_l _ (cell_alloc_l _ c1)) (frozen_alloc_l _ (cell_alloc_l _ c1) (frozen_alloc_l _ c1 f1))
  have e3 : W0.cell? ⟨w1.heap.size, 0, none⟩ = some (.slice sa (bitsUp X 64).length sc) := by rw [← hW0]; simp [go_sem]
  have e4 : W0.cell? ⟨w1.heap.size + 1 + 1, 0, none⟩ = some (.int .i64 (([] : List Nat).length : Int)) := by rw [← hW0]; simp [go_sem]
  have e5 : W0.frozen? ⟨w1.heap.size + 1 + 1, 0, none⟩ = false := by rw [← hW0]; simp [go_sem]
  have e6 : Reads W0 w1.heap.size sa (bitsUp X 64) := fun i hi => by
    obtain ⟨g, h1, h2, h3⟩ := HR.out i hi
    exact ⟨g, h1, h2, by rw [← hW0]; exact cell_alloc_l _ (cell_alloc_l _ (cell_alloc_l _ h3))⟩
  rw [hW0]
  clear hW0 c0 c1 f1 hb1 HR
  refine wpIn_rangeFunc_ownF rfl (by decide) (gf := 60) (lb := #[.pointer (some ⟨w1.heap.size + 1, 0, none⟩)]) rfl trivial (enters_of Try.func60 (by kernel_rfl) rfl)
    (each1_stops Fence.wide 8 trivial rfl (by decide) (w1.heap.size + 1) (w1.heap.size + 2) X HX.out W0 (by omega) (by omega) hx) belowK_t (belowK_b (by omega)) (Below.refl _ _) (fun _ => rfl)
    (fun p W => (p <+: bitsUp X 64 ∧ W.cell? ⟨w.heap.size, 0, none⟩ = some (.int .i64 leave) ∧ W.cell? ⟨w.heap.size + 1, 0, none⟩ = some (.bool false) ∧ W.frozen? ⟨w.heap.size + 1, 0, none⟩ = false ∧ W.cell? ⟨w1.heap.size, 0, none⟩ = some (.slice sa (bitsUp X 64).length sc) ∧ W.cell? ⟨w1.heap.size + 1 + 1, 0, none⟩ = some (.int .i64 (p.length : Int)) ∧ W.frozen? ⟨w1.heap.size + 1 + 1, 0, none⟩ = false ∧ Reads W w1.heap.size sa (bitsUp X 64)) ∧ Below w.heap.size w W)
    (fun c p W => ((c = .ret ∧ ¬ p <+: bitsUp X 64) ∨ (c = .exit 0 ∧ (p.length : Int) = leave ∧ W.cell? ⟨w.heap.size, 0, none⟩ = some (.int .i64 leave) ∧ W.cell? ⟨w.heap.size + 1, 0, none⟩ = some (.bool false) ∧ W.frozen? ⟨w.heap.size + 1, 0, none⟩ = false ∧ W.cell? ⟨w1.heap.size, 0, none⟩ = some (.slice sa (bitsUp X 64).length sc) ∧ W.cell? ⟨w1.heap.size + 1 + 1, 0, none⟩ = some (.int .i64 (p.length : Int)))) ∧ Below w.heap.size w W)
    (OwnFrom.and (Own.from (fun s A B row hs hg hr => ⟨hs.1, cell_kept hs.2.1 hg hr, cell_kept hs.2.2.1 hg hr, (frozen_kept hs.2.2.1 hg hr).trans hs.2.2.2.1, cell_kept hs.2.2.2.2.1 hg hr, cell_kept hs.2.2.2.2.2.1 hg hr, (frozen_kept hs.2.2.2.2.2.1 hg hr).trans hs.2.2.2.2.2.2.1, fun i hi => by
      obtain ⟨g, h1, h2, h3⟩ := hs.2.2.2.2.2.2.2 i hi
      exact ⟨g, h1, h2, cell_kept h3 hg hr⟩⟩) _) (ownFrom_below (Nat.le_refl _) (by omega)))
    (fun c => OwnFrom.and (Own.from (fun s A B row hs hg hr => by
      rcases hs with hs | hs
      · exact .inl hs
      · exact .inr ⟨hs.1, hs.2.1, cell_kept hs.2.2.1 hg hr, cell_kept hs.2.2.2.1 hg hr, (frozen_kept hs.2.2.2.1 hg hr).trans hs.2.2.2.2.1, cell_kept hs.2.2.2.2.2.1 hg hr, cell_kept hs.2.2.2.2.2.2 hg hr⟩) _) (ownFrom_below (Nat.le_refl _) (by omega)))
    ⟨⟨List.nil_prefix, e0, e1, e2, e3, e4, e5, e6⟩, hB0⟩
    (fun x => { tmps := #[.int .u64 X, .int .i64 leave, undef, .pointer (some ⟨w.heap.size, 0, none⟩), .pointer (some ⟨w.heap.size + 1, 0, none⟩), .pointer (some ⟨w1.heap.size, 0, none⟩), .func (.func 60) #[] #[.pointer (some ⟨w1.heap.size + 1, 0, none⟩)], .pointer (some ⟨w1.heap.size + 1 + 1, 0, none⟩), .int .i64 x, .int .u64 X, .slice sa (bitsUp X 64).length sc, .int .u64 X, .func (.func 60) #[] #[.pointer (some ⟨w1.heap.size + 1, 0, none⟩)], .func (.func 60) #[] #[.pointer (some ⟨w1.heap.size + 1, 0, none⟩)], .bool false, .func (.func 60) #[] #[.pointer (some ⟨w1.heap.size + 1, 0, none⟩)], .int .i64 x, undef, undef, undef, undef, undef, undef, undef, undef, undef, undef, undef, undef, undef, undef, undef, undef, undef, undef, undef, undef, undef, undef, undef, undef, undef, undef, undef, undef, undef], defers := [] }) ?assign ?body ?done ?stop
  case assign =>
    intro l x W K hK
    gi_wp2
    exact hK
  case body =>
    rintro l p x W ⟨⟨hp, d0, d1, d2, d3, d4, d5, d6⟩, hB⟩ hlen
    by_cases hn : p.length < (bitsUp X 64).length
    · obtain ⟨g, rfl, hg, hcell⟩ := d6 p.length hn
      obtain ⟨y, hy⟩ : ∃ y, y = (bitsUp X 64).getD p.length 0 := ⟨_, rfl⟩
      rw [← hy] at hcell
      have HY := Lib.hid hy
      have HD := Lib.hid d6
      have HN := Lib.hid hn
      have t1 : decide ((bitsUp X 64).length ≤ p.length) = false := by simpa using hn
      have hl64 : (p.length : Int) ≤ 64 := by omega
      clear hy d6 hn
      by_cases hxy : x = y
      · subst hxy
        have hsn := snoc_pre hp HN.out HY.out
        have HS := Lib.hid hsn
        clear hsn
        have k4 : (W.setCell ⟨w1.heap.size + 1 + 1, 0, none⟩ (.int .i64 ((p.length : Int) + 1))).cell? ⟨w1.heap.size + 1 + 1, 0, none⟩ = some (.int .i64 ((p.length : Int) + 1)) := World.cell?_setCell_same' _ _ _ (by rw [d4]; rfl)
        have hpl : ((p ++ [x]).length : Int) = (p.length : Int) + 1 := by simp
        gi_wp2
        · rename_i hlv
          have hlv' : (p.length : Int) + 1 = leave := by simpa using hlv
          exact ⟨KeepsOthers.setCell _ _ _, .inr ⟨rfl, by rw [hpl, hlv'], by rw [set_other _ _ _ _ _ (by omega)]; exact d0, by rw [set_other _ _ _ _ _ (by omega)]; exact d1, by rw [World.frozen?_setCell]; exact d2, by rw [set_other _ _ _ _ _ (by omega)]; exact d3, by rw [hpl]; exact k4⟩, hB.setCell (p := ⟨w1.heap.size + 1 + 1, 0, none⟩) (by simp; omega) _⟩
        · refine ⟨KeepsOthers.setCell _ _ _, (Below.refl _ _).setCell (p := ⟨w1.heap.size + 1 + 1, 0, none⟩) (by simp) _, ⟨HS.out, by rw [set_other _ _ _ _ _ (by omega)]; exact d0, by rw [set_other _ _ _ _ _ (by omega)]; exact d1, by rw [World.frozen?_setCell]; exact d2, by rw [set_other _ _ _ _ _ (by omega)]; exact d3, by rw [hpl]; exact k4, by rw [World.frozen?_setCell]; exact d5, ?_⟩, hB.setCell (p := ⟨w1.heap.size + 1 + 1, 0, none⟩) (by simp; omega) _⟩
          intro i hi
          obtain ⟨g', h1, h2, h3⟩ := HD.out i hi
          exact ⟨g', h1, h2, by rw [set_other _ _ _ _ _ (by omega)]; exact h3⟩
      · have hsn := snoc_not HY.out hxy
        have HS := Lib.hid hsn
        clear hsn
        gi_wp2
        exact ⟨KeepsOthers.setCell _ _ _, .inl ⟨rfl, HS.out⟩, hB.setCell (p := ⟨w.heap.size + 1, 0, none⟩) (by simp) _⟩
    · have t1 : decide ((bitsUp X 64).length ≤ p.length) = true := by simpa using hn
      have HN := Lib.hid hn
      clear hn
      gi_wp2
      exact ⟨KeepsOthers.setCell _ _ _, .inl ⟨rfl, snoc_long HN.out⟩, hB.setCell (p := ⟨w.heap.size + 1, 0, none⟩) (by simp) _⟩
  case done =>
    rintro D ys W hD rfl ⟨⟨hp, d0, d1, d2, d3, d4, d5, d6⟩, hB⟩ hK
    clear d6
    haveI : LtW (w.heap.size + 1) W := ⟨World.block_lt_of_cell? W _ (u := .bool false) d1⟩
    haveI : LtW D W := ⟨(Array.getElem?_eq_some_iff.1 hK).1⟩
    gi_wp2_with (refine ⟨trivial, ?_⟩; gi_at_call 29; refine (callsIn_wide.2 (wakes1 _)).mono ?_; rintro e w' ⟨rfl, x, rfl⟩)
    obtain ⟨k1, k2, k3⟩ := end_facts w W (exs W x (w.heap.size + 1) 0 (Value.bool true)) (w.heap.size + 1) D (.bool true) (.bool false) (by omega) d1 hK hB
    refine ⟨by simp, .inl ⟨_, _, rfl, run_takeDeferred k2, ?_⟩⟩
    have hc5 := cell_kept k1 (grownBy_putObj' _ D (.deferred none)) (fun r e => by cases e; exact ⟨_, k2, rfl⟩)
    refine ⟨.bool true, ?_, rfl, k3.trans (belowK_b (w := w) (Nat.le_refl _) _ D _ _ (by omega) k2 rfl rfl)⟩
    simp [results, Try.f7, go_sem, hc5]
  case stop =>
    rintro D c p W hD hpre ⟨hc, hB⟩ hK
    rcases hc with ⟨rfl, hc⟩ | ⟨rfl, hlv, d0, d1, d2, d3, d4⟩
    · exact (hc hpre).elim
    · haveI : LtW (w.heap.size + 1) W := ⟨World.block_lt_of_cell? W _ (u := .bool false) d1⟩
      haveI : LtW D W := ⟨(Array.getElem?_eq_some_iff.1 hK).1⟩
      rw [hlv] at d4
      have ht : (leave == leave) = true := by simp
      clear hlv
      gi_wp2_with (refine ⟨trivial, ?_⟩; gi_at_call 29; refine (callsIn_wide.2 (wakes1 _)).mono ?_; rintro e w' ⟨rfl, x, rfl⟩)
      all_goals
        rename_i x
        obtain ⟨k1, k2, k3⟩ := end_facts w W (exs W x (w.heap.size + 1) 0 (Value.bool true)) (w.heap.size + 1) D (.bool true) (.bool false) (by omega) d1 hK hB
        refine ⟨by simp, .inl ⟨_, _, rfl, run_takeDeferred k2, ?_⟩⟩
        have hc5 := cell_kept k1 (grownBy_putObj' _ D (.deferred none)) (fun r e => by cases e; exact ⟨_, k2, rfl⟩)
        refine ⟨.bool true, ?_, rfl, k3.trans (belowK_b (w := w) (Nat.le_refl _) _ D _ _ (by omega) k2 rfl rfl)⟩
        simp [results, Try.f7, go_sem, hc5]

theorem FieldEach_walk (x leave : Int) (a1 : (Lit.int .u64 x).wf = true) (_ : (Lit.int .i64 leave).wf = true) (w : World) :
    Calls Try.prog 7 #[.int .u64 x, .int .i64 leave] w fun e w' => e = .returned (.bool true) ∧ ∃ x, w' = ext w x := by
  obtain ⟨x0, x1⟩ := bd_u64 a1
  obtain ⟨X, rfl⟩ := Int.eq_ofNat_of_zero_le x0
  exact (callsIn_wide.1 (each_in X (by omega) leave w)).mono fun e w' ⟨he, hb⟩ => ⟨he, ext_of hb⟩
end Go.Proofs.Ytoibeflmldiehaa
