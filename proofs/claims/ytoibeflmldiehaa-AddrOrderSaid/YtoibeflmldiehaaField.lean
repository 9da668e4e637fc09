/- What mask, Get, Ones, Each, Fits, Put of package field come to. -/
import Derived.Test.YtoibeflmldiehaaEach
namespace Go.Proofs.Ytoibeflmldiehaa
open Go.RowKit Go.Shelf
attribute [local go_sem] Oper.semAt_some

abbrev span (hi lo : Int) : Value := .agg #[.int .i64 hi, .int .i64 lo]

theorem mask_yes (hi lo : Int) (h : valid hi lo) (w : World) :
    Calls Try.prog 61 #[span hi lo] w fun e w' => e = .returned (.int .u64 (onesV hi lo)) ∧ ∃ x, w' = ext w x := by
  have hv := mask_val hi lo h
  obtain ⟨h1, h2, h3⟩ := h
  go_enter Try.func61, Try.ntmps61
  go_wp2
  go_quiet (fail)
  go_wp2
  go_ret
  exact ⟨by simp, up_to⟩

theorem mask_no (hi lo : Int) (h : ¬ valid hi lo) (w : World) :
    Calls Try.prog 61 #[span hi lo] w fun e w' => e = .returned (.int .u64 0) ∧ ∃ x, w' = ext w x := by
  have H : Hid (¬ valid hi lo) := h
  clear h
  go_enter Try.func61, Try.ntmps61
  go_wp2
  · go_ret; exact ⟨rfl, up_to⟩
  · go_ret; exact ⟨rfl, up_to⟩
  · go_ret; exact ⟨rfl, up_to⟩
  · exfalso; exact H.out ⟨by omega, by omega, by omega⟩

def onesOr (hi lo : Int) : Int := if valid hi lo then onesV hi lo else 0
def getOr (x hi lo : Int) : Int := if valid hi lo then getV x hi lo else 0
theorem mask_any (hi lo : Int) (w : World) :
    Calls Try.prog 61 #[span hi lo] w fun e w' => e = .returned (.int .u64 (onesOr hi lo)) ∧ ∃ x, w' = ext w x := by
  by_cases h : valid hi lo
  · rw [onesOr, if_pos h]; exact mask_yes hi lo h w
  · rw [onesOr, if_neg h]; exact mask_no hi lo h w

theorem Ones_any (hi lo : Int) (w : World) :
    Calls Try.prog 34 #[.int .i64 hi, .int .i64 lo] w fun e w' => e = .returned (.int .u64 (onesOr hi lo)) ∧ ∃ x, w' = ext w x := by
  go_enter Try.func34, Try.ntmps34
  go_wp2_with (go_at_call 61; refine (mask_any _ _ _).mono ?_; rintro e w' ⟨rfl, x, rfl⟩)
  go_ret; exact ⟨rfl, up_to⟩

theorem Get_any (x hi lo : Int) (x0 : 0 ≤ x) (x1 : x < 18446744073709551616) (w : World) :
    Calls Try.prog 32 #[.int .u64 x, .int .i64 hi, .int .i64 lo] w fun e w' => e = .returned (.int .u64 (getOr x hi lo)) ∧ ∃ x, w' = ext w x := by
  by_cases h : valid hi lo
  · rw [getOr, if_pos h]
    have hv := get_val x hi lo h x0 x1
    have hb := ones_bound hi lo h
    have hm := mask_yes hi lo h
    have h' := h
    obtain ⟨h1, h2, h3⟩ := h'
    have hne : (onesV hi lo == 0) = false := by simp; omega
    obtain ⟨b1, b2⟩ := hb
    have Hm := Lib.hid hm; clear hm
    go_enter Try.func32, Try.ntmps32
    go_wp2_with (go_at_call 61; refine (Hm.out _).mono ?_; rintro e w' ⟨rfl, x, rfl⟩)
    go_ret; exact ⟨by simp, up_to⟩
  · rw [getOr, if_neg h]
    have Hm := Lib.hid (mask_no hi lo h)
    clear h
    go_enter Try.func32, Try.ntmps32
    go_wp2_with (go_at_call 61; refine (Hm.out _).mono ?_; rintro e w' ⟨rfl, x, rfl⟩)
    go_ret; exact ⟨by simp, up_to⟩

theorem Each_any (x : Int) (w : World) :
    Calls Try.prog 28 #[.int .u64 x] w fun e w' => e = .returned (.func (.func 60) #[] #[.pointer (some ⟨w.heap.size, 0, none⟩)]) ∧ w' = w.alloc (.cells #[.int .u64 x] 22) := by
  go_enter Try.func28, Try.ntmps28
  go_wp2
  go_ret; exact ⟨rfl, rfl⟩

theorem cell_alloc_l {w : World} {a : Addr} {v : Value} (o : Obj) (h : w.cell? a = some v) : (w.alloc o).cell? a = some v := by
  rw [World.cell?_alloc_lt _ _ _ (World.block_lt_of_cell? w a h)]; exact h
theorem frozen_alloc_l {w : World} {a : Addr} {v : Value} {b : Bool} (o : Obj) (h : w.cell? a = some v) (hf : w.frozen? a = b) : (w.alloc o).frozen? a = b := by
  rw [World.frozen?_alloc_old _ _ _ (Nat.ne_of_lt (World.block_lt_of_cell? w a h))]; exact hf

set_option maxRecDepth 100000 in
set_option maxHeartbeats 2000000 in
theorem Fits_in (X : Nat) (hi lo : Int) (hX : X < 18446744073709551616) (h : valid hi lo) (w : World) :
    CallsIn Fence.wide 9 Try.prog 36 #[.int .u64 X, .int .i64 hi, .int .i64 lo] w fun e w' => e = .returned (.bool (decide (∀ k ∈ bitsUp X 64, (k : Int) ≤ hi - lo))) ∧ Below w.heap.size w w' := by
  have hb := ones_bound hi lo h
  have Hm := Lib.hid (mask_yes hi lo h)
  obtain ⟨h1, h2, h3⟩ := h
  have hne : (onesV hi lo == 0) = false := by simp; omega
  obtain ⟨b1, b2⟩ := hb
  refine callsIn_of_wp_marks Try.func36 rfl trivial ?_ rfl
  simp only [Try.ntmps36, List.size_toArray, List.length_cons, List.length_nil, Nat.reduceAdd, Nat.reduceSub, Array.replicate_succ, Array.replicate_zero, List.push_toArray, List.append_toArray, List.nil_append, List.cons_append]
  gi_wp2_with (first | (refine ⟨trivial, ?_⟩; gi_at_call 61; refine (callsIn_wide.2 (Hm.out _)).mono ?_; rintro e w' ⟨rfl, x, rfl⟩) | (refine ⟨trivial, ?_⟩; gi_at_call 28; refine (callsIn_wide.2 (Each_any _ _)).mono ?_; rintro e w' ⟨rfl, rfl⟩))
  obtain ⟨W0, hW0⟩ : ∃ W0, ext (((w.alloc (Obj.cells #[Value.int IntKind.i64 hi] 3)).alloc (Obj.cells #[Value.int IntKind.i64 lo] 3)).alloc (Obj.cells #[Value.bool false] 4)) x = W0 := ⟨_, rfl⟩
  have c0 : W0.cell? ⟨w.heap.size, 0, none⟩ = some (.int .i64 hi) := by rw [← hW0]; simp [go_sem]
  have c1 : W0.cell? ⟨w.heap.size + 1, 0, none⟩ = some (.int .i64 lo) := by rw [← hW0]; simp [go_sem]
  have c2 : W0.cell? ⟨w.heap.size + 1 + 1, 0, none⟩ = some (.bool false) := by rw [← hW0]; simp [go_sem]
  have c3 : W0.frozen? ⟨w.heap.size + 1 + 1, 0, none⟩ = false := by rw [← hW0]; simp [go_sem]
  have hB0 : Up w.heap.size w W0 := by rw [← hW0]; exact Up.ext _ (Up.alloc _ (Up.alloc _ (Up.alloc _ (Up.refl _))))
  have hs0 : w.heap.size + 1 + 1 < W0.heap.size := by
    rw [← hW0]
    refine Nat.lt_of_lt_of_le ?_ (ext_size _ _)
    simp
  rw [hW0]
  clear hW0
  have hB1 : Up w.heap.size w (W0.alloc (Obj.cells #[Value.int IntKind.u64 X] 22)) := hB0.alloc _
  refine wpIn_rangeFunc_ownF rfl (by decide) (gf := 60) (lb := #[.pointer (some ⟨W0.heap.size, 0, none⟩)]) rfl trivial (enters_of Try.func60 (by kernel_rfl) rfl)
    (each1_stops Fence.wide 8 trivial rfl (by decide) W0.heap.size (W0.heap.size + 1) X hX (W0.alloc (Obj.cells #[Value.int IntKind.u64 X] 22)) (by simp) (by omega) (World.cell?_alloc_at _ _ _ _ rfl)) belowK_t (belowK_b (by simp)) (Below.refl _ _) (fun _ => rfl)
    (fun pre W => ((∀ y ∈ pre, (y : Int) ≤ hi - lo) ∧ W.cell? ⟨w.heap.size, 0, none⟩ = some (.int .i64 hi) ∧ W.cell? ⟨w.heap.size + 1, 0, none⟩ = some (.int .i64 lo) ∧ W.cell? ⟨w.heap.size + 1 + 1, 0, none⟩ = some (.bool false) ∧ W.frozen? ⟨w.heap.size + 1 + 1, 0, none⟩ = false) ∧ Below w.heap.size w W)
    (fun c pre W => (c = .ret ∧ (∃ y ∈ pre, hi - lo < (y : Int)) ∧ W.cell? ⟨w.heap.size + 1 + 1, 0, none⟩ = some (.bool false)) ∧ Below w.heap.size w W)
    (OwnFrom.and (Own.from (fun s A B row hs hg hr => ⟨hs.1, cell_kept hs.2.1 hg hr, cell_kept hs.2.2.1 hg hr, cell_kept hs.2.2.2.1 hg hr, (frozen_kept hs.2.2.2.1 hg hr).trans hs.2.2.2.2⟩) _) (ownFrom_below (Nat.le_refl _) (by simp; omega)))
    (fun c => OwnFrom.and (Own.from (fun s A B row hs hg hr => ⟨hs.1, hs.2.1, cell_kept hs.2.2 hg hr⟩) _) (ownFrom_below (Nat.le_refl _) (by simp; omega)))
    ⟨⟨by simp, cell_alloc_l _ c0, cell_alloc_l _ c1, cell_alloc_l _ c2, frozen_alloc_l _ c2 c3⟩, hB1.below⟩
    (fun x => { tmps := #[.int .u64 X, .int .i64 hi, .int .i64 lo, undef, .pointer (some ⟨w.heap.size, 0, none⟩), .pointer (some ⟨w.heap.size + 1, 0, none⟩), .pointer (some ⟨w.heap.size + 1 + 1, 0, none⟩), .int .i64 x, .int .i64 hi, .int .i64 lo, .agg #[.int .i64 hi, .int .i64 lo], .int .u64 (onesV hi lo), .bool false, .int .u64 X, .func (.func 60) #[] #[.pointer (some ⟨W0.heap.size, 0, none⟩)], .int .i64 x, undef, undef, undef, undef, undef], defers := [] }) ?assign ?body ?done ?stop
  case assign =>
    intro l x W K hK
    gi_wp2
    exact hK
  case body =>
    rintro l pre x W ⟨⟨hp, d0, d1, d2, d3⟩, hB⟩ _
    gi_wp2
    · rename_i hx
      exact ⟨KeepsOthers.setCell _ _ _, ⟨rfl, ⟨x, List.mem_append.2 (.inr (by simp)), hx⟩, World.cell?_setCell_same' _ _ _ (by rw [d2]; rfl)⟩, hB.setCell (p := ⟨w.heap.size + 1 + 1, 0, none⟩) (by simp; omega) _⟩
    · rename_i hx _
      exact ⟨KeepsOthers.refl _, Below.refl _ _, ⟨fun y hy => (List.mem_append.1 hy).elim (hp y) (fun e => by simp at e; subst e; assumption), d0, d1, d2, d3⟩, hB⟩
  case done =>
    rintro D ys W hD rfl ⟨⟨hne, _, _, hcr, hfr⟩, hB⟩ hK
    gi_wp2
    have hK' := (KeepsOthers.setCell W ⟨w.heap.size + 1 + 1, 0, none⟩ (.bool true)).same D _ hK rfl
    refine ⟨by simp, .inl ⟨_, _, rfl, run_takeDeferred hK', ?_⟩⟩
    have hc5 := cell_kept (World.cell?_setCell_same' W ⟨w.heap.size + 1 + 1, 0, none⟩ (.bool true) (by rw [hcr]; rfl)) (grownBy_putObj' _ D (.deferred none)) (fun r e => by cases e; exact ⟨_, hK', rfl⟩)
    refine ⟨.bool true, ?_, by rw [decide_eq_true hne], (hB.setCell (p := ⟨w.heap.size + 1 + 1, 0, none⟩) (by simp; omega) _).trans (belowK_b (w := w) (Nat.le_refl _) _ D _ _ (by simp at hD; omega) hK' rfl rfl)⟩
    simp [results, Try.f36, go_sem, hc5]
  case stop =>
    rintro D c pre W hD hpre ⟨⟨rfl, ⟨y, hy, hlt⟩, hcr⟩, hB⟩ hK
    gi_wp2
    refine ⟨by simp, .inl ⟨_, _, rfl, run_takeDeferred hK, ?_⟩⟩
    have hc5 := cell_kept hcr (grownBy_putObj' _ D (.deferred none)) (fun r e => by cases e; exact ⟨_, hK, rfl⟩)
    refine ⟨.bool false, ?_, by rw [decide_eq_false (fun h => by have := h y (hpre.subset hy); omega)], hB.trans (belowK_b (w := w) (Nat.le_refl _) W D _ _ (by simp at hD; omega) hK rfl rfl)⟩
    simp [results, Try.f36, go_sem, hc5]

theorem fits_eq (X : Nat) (hi lo : Int) (hX : X < 18446744073709551616) (h : valid hi lo) : decide (∀ k ∈ bitsUp X 64, (k : Int) ≤ hi - lo) = fitsB X hi lo := by
  have h0 := h
  obtain ⟨l, n, rfl, rfl, hl⟩ := nats h
  have e1 : ((l : Int) + n - l + 1).toNat = n + 1 := by omega
  have e : (2 : Int) ^ (n + 1) = ((2 ^ (n + 1) : Nat) : Int) := by simp
  unfold fitsB
  rw [decide_eq_decide, e1, e]
  have hb := bits_lt X (n + 1)
  have h64 := (bits_lt X 64).2 (by simpa using hX)
  constructor
  · intro hk
    refine ⟨h0, ?_⟩
    have : X < 2 ^ (n + 1) := hb.1 (fun i hi => by
      have := hk i (by unfold bitsUp; rw [List.mem_filter, List.mem_range]; exact ⟨h64 i hi, hi⟩)
      omega)
    omega
  · rintro ⟨_, hx⟩ k hk
    unfold bitsUp at hk
    rw [List.mem_filter] at hk
    have := hb.2 (by omega) k hk.2
    omega

theorem Fits_any (v hi lo : Int) (v0 : 0 ≤ v) (v1 : v < 18446744073709551616) (w : World) :
    Calls Try.prog 36 #[.int .u64 v, .int .i64 hi, .int .i64 lo] w fun e w' => e = .returned (.bool (fitsB v hi lo)) ∧ ∃ x, w' = ext w x := by
  by_cases h : valid hi lo
  · obtain ⟨X, rfl⟩ := Int.eq_ofNat_of_zero_le v0
    rw [← fits_eq X hi lo (by omega) h]
    exact (callsIn_wide.1 (Fits_in X hi lo (by omega) h w)).mono fun e w' ⟨he, hb⟩ => ⟨he, ext_of hb⟩
  · have hf : fitsB v hi lo = false := by simp [fitsB, h]
    rw [hf]
    clear hf
    have Hm := Lib.hid (mask_no hi lo h)
    clear h
    go_enter Try.func36, Try.ntmps36
    go_wp2_with (go_at_call 61; refine (Hm.out _).mono ?_; rintro e w' ⟨rfl, x, rfl⟩)
    exact bodyPost_ret (v := .bool false) (by simp [results, Try.results36, go_sem]) rfl ⟨rfl, up_to⟩

/-- What Put answers. -/
def putR (x hi lo v : Int) : Value := if fitsB v hi lo then .tuple #[.int .u64 (putV x hi lo v), .int .i64 0] else .tuple #[.int .u64 x, .int .i64 2]

theorem Put_to (x hi lo v : Int) (x0 : 0 ≤ x) (x1 : x < 18446744073709551616) (v0 : 0 ≤ v) (v1 : v < 18446744073709551616) (r : Value) (hr : putR x hi lo v = r) (w : World) :
    Calls Try.prog 30 #[.int .u64 x, .int .i64 hi, .int .i64 lo, .int .u64 v] w fun e w' => e = .returned r ∧ ∃ x, w' = ext w x := by
  have H := Lib.hid hr
  clear hr
  by_cases hf : fitsB v hi lo = true
  · have hf' := hf
    simp only [fitsB, decide_eq_true_eq] at hf'
    obtain ⟨h, hv⟩ := hf'
    have hp := put_val x hi lo v h x0 x1 v0 hv
    obtain ⟨h1, h2, h3⟩ := h
    go_enter Try.func30, Try.ntmps30
    go_wp2_with (go_at_call 36; refine (Fits_any _ _ _ v0 v1 _).mono ?_; rintro e w' ⟨rfl, x, rfl⟩)
    refine wp_region_ext_lit (by kernel_rfl) (by kernel_rfl) ?_
    repeat (go_big_quiet_step ((go_at_call 61; exact extq (mask_yes _ _ ⟨h1, h2, h3⟩ _))))
    refine wpQuiet_nil ?_
    rintro _ ⟨x, rfl⟩
    go_wp2
    go_ret2
    refine ⟨?_, up_to⟩
    rw [← H.out, putR, if_pos hf]
    simp
  · have hf : fitsB v hi lo = false := by simpa using hf
    go_enter Try.func30, Try.ntmps30
    go_wp2_with (go_at_call 36; refine (Fits_any _ _ _ v0 v1 _).mono ?_; rintro e w' ⟨rfl, x, rfl⟩)
    go_ret2
    refine ⟨?_, up_to⟩
    rw [← H.out, putR, if_neg (by simpa using hf)]
    simp

/-- What Sign answers. -/
def signOr (x hi : Int) : Int := if 0 ≤ hi ∧ hi ≤ 63 then signV x hi else 0
theorem Sign_any (x hi : Int) (x0 : 0 ≤ x) (w : World) :
    Calls Try.prog 38 #[.int .u64 x, .int .i64 hi] w fun e w' => e = .returned (.int .i64 (signOr x hi)) ∧ ∃ x, w' = ext w x := by
  have hs := Lib.hid (sign_val x hi)
  have hd := Lib.hid (show signOr x hi = if 0 ≤ hi ∧ hi ≤ 63 then signV x hi else 0 from rfl)
  go_enter Try.func38, Try.ntmps38
  go_wp2
  · go_ret
    exact ⟨ret_int (by rw [hd.out, if_neg (by omega)]), up_to⟩
  · go_ret
    exact ⟨ret_int (by rw [hd.out, if_neg (by omega)]), up_to⟩
  · go_ret
    exact ⟨ret_int (by rw [hd.out, if_pos (by omega)]; exact hs.out (by omega) (by omega) x0), up_to⟩

theorem wakes1 (w : World) :
    Calls Try.prog 29 #[] w fun e w' => e = .returned (.bool true) ∧ ∃ x, w' = ext w x := by
  have p1 : putR 0 7 4 16 = .tuple #[.int .u64 0, .int .i64 2] := by simp [putR, fitsB, valid]
  have p2 : putR 0 7 4 15 = .tuple #[.int .u64 240, .int .i64 0] := by simp [putR, fitsB, valid, putV]
  have p3 : getOr 43981 11 4 = 188 := by decide
  have p4 : signOr 15 3 = -1 := by decide
  go_enter Try.func29, Try.ntmps29
  go_wp2_with (first | (go_at_call 30; refine (Put_to _ _ _ _ (by decide) (by decide) (by decide) (by decide) _ (by assumption) _).mono ?_; rintro e w' ⟨rfl, x, rfl⟩) | (go_at_call 32; refine (Get_any _ _ _ (by decide) (by decide) _).mono ?_; rintro e w' ⟨rfl, x, rfl⟩) | (go_at_call 38; refine (Sign_any _ _ (by decide) _).mono ?_; rintro e w' ⟨rfl, x, rfl⟩))
  go_ret; exact ⟨rfl, up_to⟩
end Go.Proofs.Ytoibeflmldiehaa
