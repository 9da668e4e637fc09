/- slices.DeleteFunc and drop of a Tlb-row. -/
import Derived.Test.YtpolilljglfkoaaTlbDT
namespace Go.Proofs.Ytpolilljglfkoaa
open Go.RowKit

/-- How far the entries that are kept have been moved: c is the row, m of l's first n are kept. -/
structure TKeeps (p : E → Bool) (l c : List E) (m n : Nat) : Prop where
  len : c.length = l.length
  pre : c.take m = (l.take n).filter fun x => !p x
  suf : c.drop n = l.drop n
  le : n ≤ l.length
  lt : m < n
theorem TKeeps.start {p : E → Bool} {l : List E} {k : Nat} (hk : k < l.length) (h : ∃ x, l[k]? = some x ∧ p x = true) (hb : ∀ (i : Nat) x, i < k → l[i]? = some x → p x = false) : TKeeps p l l k (k + 1) := by
  obtain ⟨x, hx, hp⟩ := h
  refine ⟨rfl, ?_, rfl, hk, by omega⟩
  rw [List.take_add_one, hx, List.filter_append]
  have : (l.take k).filter (fun x => !p x) = l.take k := by
    rw [List.filter_eq_self]
    intro y hy
    obtain ⟨i, hi, rfl⟩ := List.mem_iff_getElem.1 hy
    have hik : i < k := by rw [List.length_take] at hi; omega
    rw [List.getElem_take, hb i _ hik (List.getElem?_eq_getElem (by omega))]
    rfl
  rw [this]
  simp [hp]
theorem TKeeps.get {p : E → Bool} {l c : List E} {m n : Nat} (h : TKeeps p l c m n) : c[n]? = l[n]? := by
  have := congrArg (fun q => q[0]?) h.suf
  simpa using this
theorem TKeeps.skip {p : E → Bool} {l c : List E} {m n : Nat} (h : TKeeps p l c m n) {x : E} (hx : l[n]? = some x) (hp : p x = true) : TKeeps p l c m (n + 1) := by
  have hn := (List.getElem?_eq_some_iff.1 hx).1
  refine ⟨h.len, ?_, ?_, hn, by have := h.lt; omega⟩
  · rw [List.take_add_one, hx, List.filter_append, ← h.pre]; simp [hp]
  · have := congrArg (List.drop 1) h.suf
    simpa [List.drop_drop] using this
theorem TKeeps.keep {p : E → Bool} {l c : List E} {m n : Nat} (h : TKeeps p l c m n) {x : E} (hx : l[n]? = some x) (hp : p x = false) : TKeeps p l (c.set m x) (m + 1) (n + 1) := by
  have hn := (List.getElem?_eq_some_iff.1 hx).1
  have hm := h.lt
  have hlen := h.len
  refine ⟨by rw [List.length_set]; exact h.len, ?_, ?_, hn, by omega⟩
  · rw [List.take_add_one (l := l), hx, List.filter_append, ← h.pre, List.take_add_one, List.take_set_of_le (Nat.le_refl _), List.getElem?_set_self (by omega)]
    simp [hp]
  · rw [List.drop_set_of_lt (by omega)]
    have := congrArg (List.drop 1) h.suf
    simpa [List.drop_drop] using this

set_option maxHeartbeats 2000000 in
/-- slices.DeleteFunc on a row of the call's own, over a closure that tells p whatever the row holds. -/
theorem tDeleteFunc_any (p : E → Bool) (fd : Nat) (lb : Array Value) (eg : ∀ args w, (callFunc fd args).run Try.prog w = .ok (.enter fd args) w) (l : List E) (g o cap : Nat) (w W0 : World) (hU : Up W0.heap.size W0 w) (hs : OwnS E.enc w W0.heap.size g o cap l) (hl : l.length ≤ 1000)
    (hp : ∀ (W : World) (x : E), Below W0.heap.size W0 W → Calls Try.prog fd (#[x.v] ++ lb) W fun e w' => e = .returned (.bool (p x)) ∧ ∃ x, w' = ext W x) :
    Calls Try.prog 83 #[.slice (some ⟨g, o, none⟩) l.length cap, .func (.func fd) #[] lb] w fun e w' => ∃ v' y, e = .returned v' ∧ w' = ext W0 y ∧ Own E.enc (ext W0 y) W0.heap.size v' (l.filter fun x => !p x) := by
  have HL := Lib.hid hl; clear hl
  have hp' : ∀ (W : World) (x : E), Below w.heap.size w W → Calls Try.prog fd (#[x.v] ++ lb) W fun e w' => e = .returned (.bool (p x)) ∧ ∃ x, w' = ext W x := fun W x hB => hp W x (hU.below.trans (hB.mono hU.le))
  by_cases hk : l.findIdx p < l.length
  · obtain ⟨k, hkk⟩ : ∃ k, l.findIdx p = k := ⟨_, rfl⟩
    have hr : idx p l = (k : Int) := by rw [idx, if_pos hk, hkk]
    rw [hkk] at hk
    have hpk : ∃ x, l[k]? = some x ∧ p x = true := by
      subst hkk
      exact ⟨_, List.getElem?_eq_getElem hk, List.findIdx_getElem (w := hk)⟩
    have hbf : ∀ (i : Nat) x, i < k → l[i]? = some x → p x = false := by
      intro i x hi hx
      subst hkk
      have := List.not_of_lt_findIdx (xs := l) (p := p) hi
      rw [List.getElem?_eq_getElem (by omega)] at hx
      cases hx
      simpa using this
    clear hkk
    have hst : TKeeps p l l k (k + 1) := TKeeps.start hk hpk hbf
    have HR := Lib.hid hr; clear hr
    have HS := Lib.hid hs; clear hs
    have HST := Lib.hid hst; clear hst
    clear hpk hbf
    have hk63 : k < 1000 := by have := HL.out; omega
    have HK := Lib.hid hk; clear hk
    have hkm : ((k : Int) == -1) = false := by simp
    have hLL : (l.length : Int) ≤ 1000 := by have := HL.out; omega
    go_enter Try.func83, Try.ntmps83
    go_wp2_with (go_at_call 71; refine (tIndexFunc_any p fd _ eg l _ _ HS.out.own.has (by have := HL.out; omega) hp' _ HR.out).mono ?_; rintro e w' ⟨rfl, z, rfl⟩)
    have hU1 : Up W0.heap.size W0 (ext w z) := hU.ext z
    have hs1 : OwnS E.enc (ext w z) W0.heap.size g o cap l := HS.out.below (ext_below w z)
    generalize ext w z = w1 at hU1 hs1 ⊢
    clear hp' HR HS hU
    go_loopw [5, 6, 7] (fun a b _ wr => ∃ (m n : Nat) (c : List E), n ≤ l.length ∧ m < n ∧ a = .int .i64 (m : Int) ∧ b = .int .i64 (n : Int) ∧ Hid (TKeeps p l c m n) ∧ Hid (OwnS E.enc wr W0.heap.size g o cap c) ∧ Hid (Up W0.heap.size W0 wr)) (fun _ b _ _ => (l.length - intOf b).toNat)
    case atStart => exact ⟨k, k + 1, l, by have := HK.out; omega, by omega, rfl, by go_num, HST, hs1, hU1⟩
    case round =>
      obtain ⟨m, n, c, hn, hmn, rfl, rfl, HK2, HS2, HU2⟩ := hrel
      have hs2 := HS2.out
      have hkl := HK2.out.len
      haveI : LtW g wr := ⟨hs2.lt⟩
      have f0 := fun i => hs2.frozen i
      have hg := hs2.base
      have hnn : (0 : Int) ≤ (n : Int) := by omega
      have hmm : (0 : Int) ≤ (m : Int) := by omega
      have hn1 : (n : Int) ≤ 1000 := by omega
      by_cases hlt : n < l.length
      · have hltz : (n : Int) < (l.length : Int) := by omega
        have hmz : (m : Int) < (l.length : Int) := by omega
        obtain ⟨x, hx⟩ : ∃ x, l[n]? = some x := ⟨_, List.getElem?_eq_getElem hlt⟩
        obtain ⟨y, hy⟩ : ∃ y, c[m]? = some y := ⟨_, List.getElem?_eq_getElem (by omega)⟩
        have hcx : c[n]? = some x := HK2.out.get.trans hx
        have c0 : wr.cell? ⟨g, o + n * 4, none⟩ = some x.c0 := hs2.row n x hcx 0 _ rfl
        have c1 : wr.cell? ⟨g, o + n * 4 + 1, none⟩ = some x.c1 := hs2.row n x hcx 1 _ rfl
        have c2 : wr.cell? ⟨g, o + n * 4 + 2, none⟩ = some x.c2 := hs2.row n x hcx 2 _ rfl
        have c3 : wr.cell? ⟨g, o + n * 4 + 3, none⟩ = some x.c3 := hs2.row n x hcx 3 _ rfl
        have d0 : wr.cell? ⟨g, o + m * 4, none⟩ = some y.c0 := hs2.row m y hy 0 _ rfl
        have d1 : wr.cell? ⟨g, o + m * 4 + 1, none⟩ = some y.c1 := hs2.row m y hy 1 _ rfl
        have d2 : wr.cell? ⟨g, o + m * 4 + 2, none⟩ = some y.c2 := hs2.row m y hy 2 _ rfl
        have d3 : wr.cell? ⟨g, o + m * 4 + 3, none⟩ = some y.c3 := hs2.row m y hy 3 _ rfl
        have hcall := hp ((wr.alloc (.cells #[x.c0, x.c1, x.c2, x.c3] 69))) x (HU2.out.alloc _).below
        clear hs2 hcx hy
        cases hq : p x
        · rw [hq] at hcall
          go_wp2_with (with_reducible refine hcall.mono ?_; rintro e w' ⟨rfl, z2, rfl⟩)
          go_roundw
          case rel =>
            refine ⟨m + 1, n + 1, c.set m x, by omega, by omega, by go_num, by go_num, HK2.out.keep hx hq, ?_, ?_⟩
            · have h1 := HS2.out.put4 E.enc4 m x (by omega) rfl
              exact h1.below (up_below)
            · unfold Hid
              refine Up.ext _ (Up.alloc _ ?_)
              repeat (refine Up.setCell _ _ _ hg ?_)
              exact HU2.out
          case measure => simp [intOf]; omega
        · rw [hq] at hcall
          go_wp2_with (with_reducible refine hcall.mono ?_; rintro e w' ⟨rfl, z2, rfl⟩)
          go_roundw
          case rel =>
            exact ⟨m, n + 1, c, by omega, by omega, rfl, by go_num, HK2.out.skip hx hq, HS2.out.below up_below, (HU2.out.alloc _).ext _⟩
          case measure => simp [intOf]; omega
      · obtain rfl : n = l.length := by omega
        have hlen := hs2.len
        have hcm : ¬ cap = m := by omega
        have hm1 : (m : Int) ≤ (l.length : Int) := by omega
        have hm2 : (m : Int) ≤ (cap : Int) := by omega
        obtain ⟨W', hc, hB, hO⟩ := run_clear4 E.enc4 (P := Try.prog) 67 69 0 _ Try.underlying67 (fun w => by kernel_rfl : ∀ w, (zeroValue 69).run Try.prog w = .ok (.agg #[.int .i64 0, .int .u64 0, .int .i64 0, .bool false]) w) rfl (by intro u hu; simp [Value.cells] at hu; rcases hu with rfl | rfl | rfl | rfl <;> rfl) hs2 m (by omega)
        rw [hkl] at hc
        go_wp2_with fail
        go_ret
        have hBW : Below W0.heap.size W0 W' := HU2.out.below.trans hB
        obtain ⟨y, rfl⟩ := ext_of hBW
        refine ⟨_, y, rfl, rfl, ?_⟩
        have h1 := hO.own
        have h2 := HK2.out.pre
        rw [List.take_length] at h2
        rw [← h2]
        rw [List.length_take, Nat.min_eq_left (by omega)] at h1
        exact h1
  · have hr : idx p l = -1 := by rw [idx, if_neg hk]
    have HR := Lib.hid hr; clear hr
    have hf : (l.filter fun x => !p x) = l := by
      rw [List.filter_eq_self]
      intro x hx
      simp only [Bool.not_eq_true', ]
      cases h : p x
      · rfl
      · exact (hk (List.findIdx_lt_length.2 ⟨x, hx, h⟩)).elim
    rw [hf]
    clear hf hk hp
    have HS := Lib.hid hs; clear hs
    go_enter Try.func83, Try.ntmps83
    go_wp2_with (go_at_call 71; refine (tIndexFunc_any p fd _ eg l _ _ HS.out.own.has (by have := HL.out; omega) hp' _ HR.out).mono ?_; rintro e w' ⟨rfl, z, rfl⟩)
    go_ret
    obtain ⟨y, hy⟩ : ∃ y, ext w z = ext W0 y := (hU.ext z).to
    exact ⟨_, y, rfl, hy, by rw [← hy]; exact HS.out.own.ext z⟩

/-- The same on a nil row. -/
theorem tDeleteFunc_nil (p : E → Bool) (fd : Nat) (lb : Array Value) (eg : ∀ args w, (callFunc fd args).run Try.prog w = .ok (.enter fd args) w) (w : World)
    (hp : ∀ (W : World) (x : E), Below w.heap.size w W → Calls Try.prog fd (#[x.v] ++ lb) W fun e w' => e = .returned (.bool (p x)) ∧ ∃ x, w' = ext W x) :
    Calls Try.prog 83 #[.slice none 0 0, .func (.func fd) #[] lb] w fun e w' => e = .returned (.slice none 0 0) ∧ ∃ y, w' = ext w y := by
  go_enter Try.func83, Try.ntmps83
  go_wp2_with (go_at_call 71; refine (tIndexFunc_any p fd _ eg [] _ _ (.inl ⟨rfl, .inl rfl⟩) (by simp) hp (-1) rfl).mono ?_; rintro e w' ⟨rfl, z, rfl⟩)
  go_ret
  exact ⟨rfl, up_to⟩

abbrev E.hits (k a q : Int) (x : E) : Bool := hitsB k a q x.a (decide (q = x.p))

theorem tdrop1_any (W : World) (bw bt : Nat) [LtW bw W] [LtW bt W] (hw : W.cell? ⟨bw, 3, none⟩ = some (.func (.func 78) #[] #[])) (k a q : Int) (hq0 : 0 ≤ q) (hq1 : q < 18446744073709551616) (y : E)
    (h0 : W.cell? ⟨bt, 0, none⟩ = some (.int .i8 k)) (h1 : W.cell? ⟨bt, 1, none⟩ = some (.int .i64 a)) (h2 : W.cell? ⟨bt, 2, none⟩ = some (.int .u64 q)) :
    Calls Try.prog 84 #[y.v, .pointer (some ⟨bw, 0, none⟩), .pointer (some ⟨bt, 0, none⟩)] W fun e w' => e = .returned (.bool (E.hits k a q y)) ∧ ∃ x, w' = ext W x := by
  have HQ := Lib.hid hq1; clear hq1
  go_enter Try.func84, Try.ntmps84
  go_wp2_with (go_at_call 78; refine (Hits_any k a q y.a y.p y.f y.ro _).mono ?_; rintro e w' ⟨rfl, z, rfl⟩)
  go_ret
  exact ⟨rfl, up_to⟩

theorem tclos_drop {Wc : World} (bw bt : Nat) [LtW bw Wc] [LtW bt Wc] (hw : Wc.cell? ⟨bw, 3, none⟩ = some (.func (.func 78) #[] #[])) (k a q : Int) (hq0 : 0 ≤ q) (hq1 : q < 18446744073709551616)
    (h0 : Wc.cell? ⟨bt, 0, none⟩ = some (.int .i8 k)) (h1 : Wc.cell? ⟨bt, 1, none⟩ = some (.int .i64 a)) (h2 : Wc.cell? ⟨bt, 2, none⟩ = some (.int .u64 q)) :
    ∀ (W : World) (y : E), Below Wc.heap.size Wc W → Calls Try.prog 84 (#[y.v] ++ #[.pointer (some ⟨bw, 0, none⟩), .pointer (some ⟨bt, 0, none⟩)]) W fun e w' => e = .returned (.bool (E.hits k a q y)) ∧ ∃ x, w' = ext W x := fun W y hB => by
  haveI := below_lt hB bw
  haveI := below_lt hB bt
  exact tdrop1_any W bw bt (below_cell hB bw 3 hw) k a q hq0 hq1 y (below_cell hB bt 0 h0) (below_cell hB bt 1 h1) (below_cell hB bt 2 h2)
theorem tenters_drop : ∀ args w, (callFunc 84 args).run Try.prog w = .ok (.enter 84 args) w := enters_of Try.func84 (by kernel_rfl) rfl

theorem tdrop_no (l : List E) (v : Value) (t : Value) (k a q : Int) (ht : t = tlbi k a q) (w : World) (hv : Has E.enc w v l) (hn : ¬ Chk mostT E.may E.same l) :
    Calls Try.prog 57 #[tlbsV, v, t] w fun e w' => e = .returned (.slice none 0 0) ∧ ∃ x, w' = ext w x := by
  subst ht
  have he := chk_no hn
  clear hn
  go_enter Try.func57, Try.ntmps57
  go_wp2_with (go_at_call 55; refine (tcheck_any l v _ (hv.below up_below) 2 he).mono ?_; rintro e w' ⟨rfl, z, rfl⟩)
  go_ret
  exact ⟨rfl, up_to⟩

set_option maxHeartbeats 1000000 in
theorem tdrop_yes (l : List E) (v : Value) (k a q : Int) (hq0 : 0 ≤ q) (hq1 : q < 18446744073709551616) (w : World) (hv : Has E.enc w v l) (hc : Chk mostT E.may E.same l) :
    Calls Try.prog 57 #[tlbsV, v, tlbi k a q] w fun e w' => ∃ v' y, e = .returned v' ∧ w' = ext w y ∧ Own E.enc (ext w y) w.heap.size v' (l.filter fun x => !E.hits k a q x) := by
  have he := chk_yes hc
  have hlen := hc.1
  have hl1 : l.length ≤ 1000 := by simp only [mostT] at hlen; omega
  have HL := Lib.hid hl1; clear hl1 hlen hc
  have HQ := Lib.hid hq1; clear hq1
  go_enter Try.func57, Try.ntmps57
  go_wp2_with (first
      | (go_at_call 55; refine (tcheck_any l v _ (hv.below up_below) 0 he).mono ?_; rintro e w' ⟨rfl, z, rfl⟩)
      | (go_at_call 81; refine (tClone_any l v _ (hv.below up_below) HL.out).mono ?_; rintro e w' ⟨v', y, rfl, hw', ho⟩; rw [← hw'] at ho; replace ho := Own.mono (base' := w.heap.size + 2) ho (le_ext _ _ _ (by simp)); have HW := Lib.hid hw'; clear hw'))
  obtain ⟨W0, hW0⟩ : ∃ W0, W0 = (w.alloc (.cells tlbsC 111)).alloc (.cells #[.int .i8 k, .int .i64 a, .int .u64 q] 35) := ⟨_, rfl⟩
  have hU : Up W0.heap.size W0 w' := by rw [hW0, HW.out]; exact ((Up.refl _).ext _).ext _
  have hU0 : Up w.heap.size w W0 := by rw [hW0]; exact ((Up.refl _).alloc _).alloc _
  have hs0 : W0.heap.size = w.heap.size + 2 := by rw [hW0]; simp
  haveI j0 : LtW w.heap.size W0 := ⟨by omega⟩
  haveI j1 : LtW (w.heap.size + 1) W0 := ⟨by omega⟩
  have a0 : W0.cell? ⟨w.heap.size, 3, none⟩ = some (.func (.func 78) #[] #[]) := by rw [hW0]; simp [go_sem, tlbsC]
  have d0 : W0.cell? ⟨w.heap.size + 1, 0, none⟩ = some (.int .i8 k) := by rw [hW0]; simp [go_sem]
  have d1 : W0.cell? ⟨w.heap.size + 1, 1, none⟩ = some (.int .i64 a) := by rw [hW0]; simp [go_sem]
  have d2 : W0.cell? ⟨w.heap.size + 1, 2, none⟩ = some (.int .u64 q) := by rw [hW0]; simp [go_sem]
  clear hW0 HW
  haveI : LtW w.heap.size w' := below_lt hU.below _
  haveI : LtW (w.heap.size + 1) w' := below_lt hU.below _
  rcases ho.shape with ⟨rfl, rfl⟩ | ⟨g, o, cap, rfl, hs⟩
  · have hcl := tclos_drop w.heap.size (w.heap.size + 1) (below_cell hU.below _ _ a0) k a q hq0 HQ.out (below_cell hU.below _ _ d0) (below_cell hU.below _ _ d1) (below_cell hU.below _ _ d2)
    clear ho a0 d0 d1 d2
    go_wp2_with (go_at_call 83; refine (tDeleteFunc_nil _ _ _ tenters_drop _ hcl).mono ?_; rintro e w'' ⟨rfl, z, rfl⟩)
    go_ret
    exact own_end (hU0.trans (hU.ext _)) (fun v => .returned v) (.inl ⟨rfl, rfl⟩)
  · have hcl := tclos_drop w.heap.size (w.heap.size + 1) a0 k a q hq0 HQ.out d0 d1 d2
    have hs' : OwnS E.enc w' W0.heap.size g o cap l := by rw [hs0]; exact hs
    have HS := Lib.hid hs'; clear hs' hs ho a0 d0 d1 d2
    go_wp2_with (go_at_call 83; refine (tDeleteFunc_any _ _ _ tenters_drop l g o cap _ W0 hU HS.out HL.out hcl).mono ?_; rintro e w'' ⟨v', y, rfl, rfl, ho⟩; have HO := Lib.hid ho; clear ho)
    go_ret
    exact own_end (hU0.trans ((Up.refl _).ext _)) (fun v => .returned v) (HO.out.mono hU0.le)
end Go.Proofs.Ytpolilljglfkoaa
