/- slices.Delete of one step, evict and Clear. -/
import Derived.Test.YtpolilljglfkoaaTlbRefD
import Derived.Deep.RegionLaw
import Derived.BigRegion
namespace Go.Proofs.Ytpolilljglfkoaa
open Go.RowKit

theorem OwnS.splice {α : Type} {enc : α → List Value} {W : World} {base g o cap : Nat} {l : List α} (h4 : ∀ x, (enc x).length = 4) (h : OwnS enc W base g o cap l) (n : Nat) (m : List α) (hn : n + m.length ≤ l.length) :
    OwnS enc (W.setCells g (o + n * 4) (flat enc m)) base g o cap (l.take n ++ m ++ l.drop (n + m.length)) := by
  obtain ⟨cur, t, h1, h2⟩ := h.blk
  obtain ⟨cur', h3, h5⟩ := heap_setCells g t (flat enc m) (o + n * 4) W cur h1
  have hl := h.len
  refine ⟨h.base, by simp; omega, ⟨cur', t, h3, by omega⟩, ?_⟩
  intro j x hj i v hv
  have hi : i < 4 := by rw [← h4 x]; exact (List.getElem?_eq_some_iff.1 hv).1
  have htl : (l.take n).length = n := by rw [List.length_take]; omega
  by_cases h1 : j < n
  · rw [World.cell?_setCells_out g _ _ _ _ (fun _ _ => .inl (by simp; omega))]
    rw [List.append_assoc, List.getElem?_append_left (by rw [htl]; exact h1), List.getElem?_take, if_pos h1] at hj
    exact h.row j x hj i v hv
  · by_cases h2 : j < n + m.length
    · rw [List.append_assoc, List.getElem?_append_right (by rw [htl]; omega), htl, List.getElem?_append_left (by omega)] at hj
      have hf := (flat_get h4 m (j - n) i x hj hi).trans hv
      have hlt : (j - n) * 4 + i < (flat enc m).length := (List.getElem?_eq_some_iff.1 hf).1
      have := World.cell?_setCells_in g (flat enc m) (o + n * 4) W (fun j hj => by
        rw [flat_len h4] at hj
        have := h.some (n * 4 + j) (by omega)
        rwa [← Nat.add_assoc] at this) _ hlt
      rw [List.getElem?_eq_getElem hlt] at hf
      have e : o + n * 4 + ((j - n) * 4 + i) = o + j * 4 + i := by omega
      rw [e] at this
      rw [this]; exact hf
    · rw [World.cell?_setCells_out g _ _ _ _ (fun _ _ => .inr (by rw [flat_len h4]; simp; omega))]
      rw [List.getElem?_append_right (by simp [htl]; omega), List.getElem?_drop] at hj
      have e : n + m.length + (j - (l.take n ++ m).length) = j := by simp [htl]; omega
      rw [e] at hj
      exact h.row j x hj i v hv

/-- The run of 'append(s[:n], s[n+1:]...)'. -/
theorem run_del4 {α : Type} {enc : α → List Value} (h4 : ∀ x, (enc x).length = 4) (h1c : ∀ x, ∀ u ∈ enc x, u.oneCell' = true) {P : Program} {w : World} (t ty e : TypeId) (i : TypeInfo) (e1 : P.underlying t = some (.slice e)) (e2 : P.info? e = some i) (e4 : i.size = 4)
    {base g o cap : Nat} {l : List α} (h : OwnS enc w base g o cap l) (n : Nat) (hn : n < l.length) (ad : Addr) (c : Nat) (ha : n + 1 < l.length → ad = ⟨g, o + (n + 1) * 4, none⟩) :
    ∃ W', (Builtin.append_ #[t, t] ty #[.slice (some ⟨g, o, none⟩) n cap, .slice (some ad) (l.length - (n + 1)) c]).run P w = .ok (.slice (some ⟨g, o, none⟩) (l.length - 1) cap) W' ∧ Below base w W' ∧ ∃ z, OwnS enc W' base g o cap (l.eraseIdx n ++ [z]) := by
  have hlen := h.len
  have hdl : (l.drop (n + 1)).length = l.length - (n + 1) := List.length_drop
  have hrow : RowAt enc w g (o + (n + 1) * 4) (l.drop (n + 1)) := by
    intro j x hj i v hv
    rw [List.getElem?_drop] at hj
    have := h.row _ x hj i v hv
    rw [← this]; congr 2; omega
  have hcells : ∀ u ∈ flat enc (l.drop (n + 1)), u.oneCell' = true := fun u hu => by
    simp only [flat, List.mem_flatMap] at hu
    obtain ⟨y, _, hy⟩ := hu
    exact h1c y u hy
  have hr := run_append_room_cells (P := P) w t ty e i e1 e2 g o n cap ad (l.length - (n + 1)) c (flat enc (l.drop (n + 1))) (by rw [flat_len h4, hdl, e4])
    (fun j u hj => by
      by_cases hh : n + 1 < l.length
      · rw [ha hh, Addr.add_lit]; exact hrow.flat h4 j u hj
      · have : l.drop (n + 1) = [] := List.drop_eq_nil_of_le (by omega)
        rw [this] at hj; simp [flat] at hj)
    hcells (by omega)
    (fun j hj => by
      rw [flat_len h4, hdl] at hj
      rw [e4, Nat.add_assoc]
      exact h.some (n * 4 + j) (by omega))
    (fun j hj => h.frozen _)
  rw [e4] at hr
  have e5 : n + (l.length - (n + 1)) = l.length - 1 := by omega
  rw [e5] at hr
  refine ⟨_, hr, below_setCells _ _ _ _ _ h.base, ?_⟩
  have hs := h.splice h4 n (l.drop (n + 1)) (by rw [hdl]; omega)
  refine ⟨l[l.length - 1], ?_⟩
  have e6 : l.take n ++ l.drop (n + 1) ++ l.drop (n + (l.drop (n + 1)).length) = l.eraseIdx n ++ [l[l.length - 1]] := by
    rw [List.eraseIdx_eq_take_drop_succ, hdl, e5]
    congr 1
    rw [List.drop_eq_getElem_cons (by omega)]
    rw [List.drop_eq_nil_of_le (by omega)]
  rw [e6] at hs
  exact hs

theorem own_some' {α : Type} {enc : α → List Value} {W : World} {base : Nat} {v : Value} {l : List α} (h : Own enc W base v l) (hne : l ≠ []) : ∃ g o cap, v = .slice (some ⟨g, o, none⟩) l.length cap ∧ OwnS enc W base g o cap l := by
  rcases h.shape with ⟨_, h⟩ | h
  · exact (hne h).elim
  · exact h

/-- A run of 'append' that is known, at a step of a region that draws its order. -/
theorem step_append_run {P : Program} {w : World} {ops : Array Oper} {o : Oper} {a : Act} {Kk : Act → World → Prop} {Q : Exit → Act → World → Prop} {F : Prop}
    (hgd : o.guard = none) (s x : Operand) (t : TypeId) (hop : o.op = Op.call { callee := Callee.builtin Builtin.append, args := #[s, x], argTypes := #[t, t] })
    (v1 v2 : Value) (h1 : a.eval s = v1) (h2 : a.eval x = v2) {v' : Value} {W' : World} (hr : (Builtin.append_ #[t, t] o.type #[v1, v2]).run P w = .ok v' W') (K : Kk (a.put o.dst v') W') :
    if Region.wanted o (yielded ops a.tmps) = true then Oper.wp P o a w Kk Q else F := by
  have hw : Region.wanted o (yielded ops a.tmps) = true := by simp [Region.wanted, hgd]
  rw [if_pos hw]
  unfold Oper.wp execOp
  simp only [hop, resolve, invoke, builtin, Sem.run_bind, Sem.run_pure, Result.andThen_ok, List.map_toArray, List.map_cons, List.map_nil, h1, h2, hr]
  exact K

set_option maxHeartbeats 2000000 in
theorem sDelete_any (l : List S) (g o cap : Nat) (w : World) (W0 : World) (hU : Up W0.heap.size W0 w) (hs : OwnS S.enc w W0.heap.size g o cap l) (hl : l.length ≤ 1000) (n : Nat) (hn : n < l.length) :
    Calls Try.prog 87 #[.slice (some ⟨g, o, none⟩) l.length cap, .int .i64 (n : Int), .int .i64 ((n : Int) + 1)] w fun e w' => ∃ v' y, e = .returned v' ∧ w' = ext W0 y ∧ Own S.enc (ext W0 y) W0.heap.size v' (l.eraseIdx n) := by
  obtain ⟨i0, hi, hz0, hz1, hz2⟩ := info_parts infoS
  have hU1 : Up W0.heap.size W0 w.drew := hU.drew
  have hs1 : OwnS S.enc w.drew W0.heap.size g o cap l := hs.below (Below.drew (Below.refl _ _))
  have hcap := hs.len
  have hcn : n ≤ cap := by omega
  have hp1 : (0 : Int) ≤ (n : Int) + 1 := by omega
  have hp2 : (n : Int) ≤ (n : Int) + 1 := by omega
  have hn0 : (n : Int) < (l.length : Int) := by omega
  have hn1 : (n : Int) + 1 ≤ (l.length : Int) := by omega
  have hn2 : (n : Int) + 1 ≤ (cap : Int) := by omega
  have hl3 : (l.length : Int) ≤ 1000 := by omega
  have hl4 : (l.length : Int) ≤ (cap : Int) := by omega
  have hne : ((n : Int) == (n : Int) + 1) = false := by simp; omega
  have hcl : ∀ (W' : World) (z : S), OwnS S.enc W' W0.heap.size g o cap (l.eraseIdx n ++ [z]) → ∃ W2, (Builtin.clear_ #[58] 0 #[.slice (some ⟨g, o + (l.length - 1) * 4, none⟩) (l.length - (l.length - 1)) (cap - (l.length - 1))]).run Try.prog W' = .ok (.tuple #[]) W2 ∧ Below W0.heap.size W' W2 ∧ OwnS S.enc W2 W0.heap.size g o cap (l.eraseIdx n) := by
    intro W' z hO
    have hle : (l.eraseIdx n).length = l.length - 1 := by rw [List.length_eraseIdx, if_pos hn]
    have hlz : (l.eraseIdx n ++ [z]).length = l.length := by rw [List.length_append, hle]; simp; omega
    obtain ⟨W2, h1, h2, h3⟩ := run_clear4 S.enc4 (P := Try.prog) 58 61 0 _ Try.underlying58 (fun w => by kernel_rfl : ∀ w, (zeroValue 61).run Try.prog w = .ok (.agg #[.int .i64 0, .int .i8 0, .int .u64 0, .int .i64 0]) w) rfl (by intro u hu; simp [Value.cells] at hu; rcases hu with rfl | rfl | rfl | rfl <;> rfl) hO (l.length - 1) (by omega)
    rw [hlz] at h1
    refine ⟨W2, h1, h2, ?_⟩
    rw [show (l.eraseIdx n ++ [z]).take (l.length - 1) = l.eraseIdx n by rw [← hle, List.take_left']; rfl] at h3
    exact h3
  have hfin : ∀ (W' W2 : World), Below W0.heap.size w.drew W' → Below W0.heap.size W' W2 → OwnS S.enc W2 W0.heap.size g o cap (l.eraseIdx n) → ∃ v' y, Ending.returned (.slice (some ⟨g, o, none⟩) (l.length - 1) cap) = .returned v' ∧ W2 = ext W0 y ∧ Own S.enc (ext W0 y) W0.heap.size v' (l.eraseIdx n) := by
    intro W' W2 h1 h2 h3
    obtain ⟨y, rfl⟩ := ext_of ((hU1.below.trans h1).trans h2)
    have h4 := h3.own
    rw [show (l.eraseIdx n).length = l.length - 1 by rw [List.length_eraseIdx, if_pos hn]] at h4
    exact ⟨_, y, rfl, rfl, h4⟩
  have hl5 : (l.length : Int) - 1 ≤ (cap : Int) := by omega
  by_cases hc : cap = n + 1
  · subst hc
    have hc2 : ¬ n + 1 = l.length - 1 := by omega
    obtain ⟨W', hap, hB, z, hO⟩ := run_del4 S.enc4 S.enc1 (P := Try.prog) 58 58 61 i0 Try.underlying58 hi hz1 hs1 n hn ⟨g, o, none⟩ 0 (fun h => by omega)
    rw [show l.length - (n + 1) = 0 by omega] at hap
    obtain ⟨W2, hcl2, hB2, hO2⟩ := hcl W' z hO
    have HF := Lib.hid (hfin W' W2 hB hB2 hO2)
    have HAP := Lib.hid hap
    clear hfin hcl hs1 hU1 hs hU hO hO2 hB hB2 hap
    go_enter Try.func87, Try.ntmps87
    go_wp2_with fail
    go_region_law (refine step_append_run (by rfl) _ _ 58 (by rfl) _ _ (by rfl) (by rfl) HAP.out ?_)
    go_wp2_with fail
    go_ret
    exact HF.out
  · have hc2 : ¬ cap = l.length - 1 := by omega
    obtain ⟨W', hap, hB, z, hO⟩ := run_del4 S.enc4 S.enc1 (P := Try.prog) 58 58 61 i0 Try.underlying58 hi hz1 hs1 n hn ⟨g, o + (n + 1) * 4, none⟩ (cap - (n + 1)) (fun _ => rfl)
    obtain ⟨W2, hcl2, hB2, hO2⟩ := hcl W' z hO
    have HF := Lib.hid (hfin W' W2 hB hB2 hO2)
    have HAP := Lib.hid hap
    clear hfin hcl hs1 hU1 hs hU hO hO2 hB hB2 hap
    go_enter Try.func87, Try.ntmps87
    go_wp2_with fail
    go_region_law (refine step_append_run (by rfl) _ _ 58 (by rfl) _ _ (by rfl) (by rfl) HAP.out ?_)
    go_wp2_with fail
    go_ret
    exact HF.out

open Classical in
/-- What Clear tells of any row. -/
noncomputable def clearE (l : List S) (k : Int) : Int := if Chk mostS S.may S.same l then (if 0 ≤ k ∧ k < (l.length : Int) then 0 else 4) else 2
open Classical in
noncomputable def clearL (l : List S) (k : Int) : List S := if Chk mostS S.may S.same l ∧ 0 ≤ k ∧ k < (l.length : Int) then l.eraseIdx k.toNat else []

set_option maxHeartbeats 1000000 in
theorem sevict_no (l : List S) (v : Value) (k : Int) (w : World) (hv : Has S.enc w v l) (hl : l.length ≤ 1000) (hn : ¬ (Chk mostS S.may S.same l ∧ 0 ≤ k ∧ k < (l.length : Int))) :
    Calls Try.prog 61 #[stepsV, v, .int .i64 k] w fun e w' => e = .returned (.tuple #[.slice none 0 0, .int .i64 (clearE l k)]) ∧ ∃ x, w' = ext w x := by
  have HV := Lib.hid hv
  by_cases hc : Chk mostS S.may S.same l
  · have hE : clearE l k = 4 := by rw [clearE, if_pos hc, if_neg (fun h => hn ⟨hc, h⟩)]
    rw [hE]
    clear hE
    have he := chk_yes hc
    have hk : (decide (k < 0) = true) ∨ (decide (k < 0) = false ∧ decide ((l.length : Int) ≤ k) = true) := by
      by_cases h : k < 0
      · exact .inl (by simpa using h)
      · exact .inr ⟨by simpa using h, by simp; exact Int.not_lt.1 fun h2 => hn ⟨hc, by omega, h2⟩⟩
    clear hn hc
    have hkl : v = .slice none 0 0 ∧ l.length = 0 ∨ ∃ ad cap, v = .slice (some ad) l.length cap := by
      rcases hv with ⟨rfl, rfl | ⟨ad, cap, rfl⟩⟩ | ⟨_, b, o, cap, rfl, _⟩
      · exact .inl ⟨rfl, rfl⟩
      · exact .inr ⟨_, _, rfl⟩
      · exact .inr ⟨_, _, rfl⟩
    clear hv
    rcases hkl with ⟨rfl, h0⟩ | ⟨ad, cap, rfl⟩
    · rw [h0] at hk
      have H0 := Lib.hid h0; clear h0
      replace hk : (decide (k < 0) = true) ∨ (decide (k < 0) = false ∧ decide ((0 : Int) ≤ k) = true) := hk
      rcases hk with hk | ⟨hk, hk2⟩
      all_goals
        go_enter Try.func61, Try.ntmps61
        go_wp2_with (go_at_call 49; with_reducible refine (scheck_any l _ _ (HV.out.below up_below) 0 he).mono ?_; rintro e w' ⟨rfl, z, rfl⟩)
        go_ret2
        exact ⟨rfl, up_to⟩
    · rcases hk with hk | ⟨hk, hk2⟩
      all_goals
        go_enter Try.func61, Try.ntmps61
        go_wp2_with (go_at_call 49; with_reducible refine (scheck_any l _ _ (HV.out.below up_below) 0 he).mono ?_; rintro e w' ⟨rfl, z, rfl⟩)
        go_ret2
        exact ⟨rfl, up_to⟩
  · have hE : clearE l k = 2 := by rw [clearE, if_neg hc]
    rw [hE]
    clear hE hv
    have he := chk_no hc
    clear hn hc
    go_enter Try.func61, Try.ntmps61
    go_wp2_with (go_at_call 49; with_reducible refine (scheck_any l v _ (HV.out.below up_below) 2 he).mono ?_; rintro e w' ⟨rfl, z, rfl⟩)
    go_ret2
    exact ⟨rfl, up_to⟩

set_option maxHeartbeats 1000000 in
theorem sevict_yes (l : List S) (v : Value) (n : Nat) (w : World) (hv : Has S.enc w v l) (hc : Chk mostS S.may S.same l) (hn : n < l.length) :
    Calls Try.prog 61 #[stepsV, v, .int .i64 (n : Int)] w fun e w' => ∃ v' y, e = .returned (.tuple #[v', .int .i64 0]) ∧ w' = ext w y ∧ Own S.enc (ext w y) w.heap.size v' (l.eraseIdx n) := by
  have HV := Lib.hid hv
  have he := chk_yes hc
  have hl4 : l.length ≤ 4 := by have := hc.1; simp only [mostS] at this; omega
  have hmx : l.length ≤ 1000 := by omega
  have HM := Lib.hid hmx; clear hmx hc
  have hn0 : decide ((n : Int) < 0) = false := by simp
  have hn1 : decide (l.length ≤ n) = false := by simp; omega
  have hn2 : (n : Int) < 1000 := by omega
  have HN := Lib.hid hn; clear hn
  rcases hv with ⟨rfl, _⟩ | ⟨hl0, b, o, cap, rfl, hcap, hb, hR⟩
  · have := HN.out; simp at this
  · have hlne := hl0
    clear hR hb hl4 hl0
    go_enter Try.func61, Try.ntmps61
    go_wp2_with (first
      | (go_at_call 49; with_reducible refine (scheck_any l _ _ (HV.out.below up_below) 0 he).mono ?_; rintro e w' ⟨rfl, z, rfl⟩)
      | (go_at_call 74; with_reducible refine (sClone_any l _ _ (HV.out.below up_below) HM.out).mono ?_; rintro e w' ⟨v', y, rfl, hw', ho⟩; rw [← hw'] at ho; replace ho := Own.mono (base' := w.heap.size) ho (le_ext _ _ _ (by simp)); obtain ⟨g, o2, cap2, rfl, hs⟩ := own_some' ho hlne; have HS := Lib.hid hs; have HW := Lib.hid hw'; have hU : Up w.heap.size w w' := (by rw [hw']; exact (((Up.refl _).alloc _).ext _).ext _); have HU := Lib.hid hU; clear hw' hs hU ho)
      | (go_at_call 87; with_reducible refine (sDelete_any l g o2 cap2 _ w HU.out HS.out HM.out n HN.out).mono ?_; rintro e w'' ⟨v2, y2, rfl, rfl, ho2⟩; have HO2 := Lib.hid ho2; clear ho2))
    go_ret2
    exact ⟨v2, y2, rfl, rfl, HO2.out⟩
end Go.Proofs.Ytpolilljglfkoaa
