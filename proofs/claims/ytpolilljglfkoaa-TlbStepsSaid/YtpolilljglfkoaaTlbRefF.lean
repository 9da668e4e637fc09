/- What Clear tells, the program's and the document's. -/
import Derived.Test.YtpolilljglfkoaaTlbRefG
import Derived.Test.YtpolilljglfkoaaTlbRefE
namespace Go.Proofs.Ytpolilljglfkoaa
open Go.RowKit

theorem clear_yes (l : List S) (v : Value) (n : Nat) (w : World) (hv : Has S.enc w v l) (hc : Chk mostS S.may S.same l) (hn : n < l.length) :
    Calls Try.prog 34 #[v, .int .i64 (n : Int)] w fun e w' => ∃ v' y, e = .returned (.tuple #[v', .int .i64 0]) ∧ w' = ext w y ∧ Own S.enc (ext w y) w.heap.size v' (l.eraseIdx n) := by
  have HV := Lib.hid hv; clear hv
  have HC := Lib.hid hc; clear hc
  have HN := Lib.hid hn; clear hn
  go_enter Try.func34, Try.ntmps34
  go_wp2_with (first
    | (go_at_call 48; with_reducible refine (steps_any _).mono ?_; rintro e w' ⟨rfl, z, rfl⟩)
    | (go_at_call 61; with_reducible refine (sevict_yes l v n _ (HV.out.below up_below) HC.out HN.out).mono ?_; rintro e w' ⟨v', y, rfl, rfl, ho⟩; have HO := Lib.hid ho; clear ho))
  go_ret2
  have h := HO.out.mono (base' := w.heap.size) (le_ext _ _ _ (by simp))
  simp only [ext_ext'] at h
  exact own_fin (fun v => .returned (.tuple #[v, .int .i64 0])) h
theorem clear_no (l : List S) (v : Value) (k : Int) (w : World) (hv : Has S.enc w v l) (hl : l.length ≤ 1000) (hn : ¬ (Chk mostS S.may S.same l ∧ 0 ≤ k ∧ k < (l.length : Int))) :
    Calls Try.prog 34 #[v, .int .i64 k] w fun e w' => e = .returned (.tuple #[.slice none 0 0, .int .i64 (clearE l k)]) ∧ ∃ x, w' = ext w x := by
  have HV := Lib.hid hv; clear hv
  have HN := Lib.hid hn; clear hn
  have HL := Lib.hid hl; clear hl
  go_enter Try.func34, Try.ntmps34
  go_wp2_with (first
    | (go_at_call 48; with_reducible refine (steps_any _).mono ?_; rintro e w' ⟨rfl, z, rfl⟩)
    | (go_at_call 61; with_reducible refine (sevict_no l v k _ (HV.out.below up_below) HL.out HN.out).mono ?_; rintro e w' ⟨rfl, y, rfl⟩))
  go_ret2
  exact ⟨rfl, up_to⟩

set_option maxHeartbeats 1000000 in
theorem rclear_no (l : List S) (v : Value) (k : Int) (w : World) (hv : Has S.enc w v l) (hl : l.length ≤ 1000) (hn : ¬ (Chk mostS S.may S.same l ∧ 0 ≤ k ∧ k < (l.length : Int))) :
    Calls Try.prog 35 #[v, .int .i64 k] w fun e w' => e = .returned (.tuple #[.slice none 0 0, .int .i64 (clearE l k)]) ∧ ∃ x, w' = ext w x := by
  have HV := Lib.hid hv
  have HM := Lib.hid hl; clear hl
  by_cases hc : Chk mostS S.may S.same l
  · have hE : clearE l k = 4 := by rw [clearE, if_pos hc, if_neg (fun h => hn ⟨hc, h⟩)]
    rw [hE]
    clear hE
    have he := chk_yes hc
    have hk : (decide (k < 0) = true) ∨ (decide (k < 0) = false ∧ decide ((l.length : Int) ≤ k) = true) := by
      by_cases h : k < 0
      · exact .inl (by simpa using h)
      · exact .inr ⟨by simpa using h, by simp; exact Int.not_lt.1 fun h2 => hn ⟨hc, by omega, h2⟩⟩
    clear hn hc
    have hkl : v = .slice none 0 0 ∧ l.length = 0 ∨ ∃ ad cap, v = .slice (some ad) l.length cap := by
      rcases hv with ⟨rfl, rfl | ⟨ad, cap, rfl⟩⟩ | ⟨_, b, o, cap, rfl, _⟩
      · exact .inl ⟨rfl, rfl⟩
      · exact .inr ⟨_, _, rfl⟩
      · exact .inr ⟨_, _, rfl⟩
    clear hv
    rcases hkl with ⟨rfl, h0⟩ | ⟨ad, cap, rfl⟩
    · rw [h0] at hk
      have H0 := Lib.hid h0; clear h0
      replace hk : (decide (k < 0) = true) ∨ (decide (k < 0) = false ∧ decide ((0 : Int) ≤ k) = true) := hk
      rcases hk with hk | ⟨hk, hk2⟩
      all_goals
        go_enter Try.func35, Try.ntmps35
        go_wp2_with (go_at_call 37; with_reducible refine (rcheck_any l _ _ (HV.out.below up_below) HM.out 0 he).mono ?_; rintro e w' ⟨rfl, z, rfl⟩)
        go_ret2
        exact ⟨rfl, up_to⟩
    · rcases hk with hk | ⟨hk, hk2⟩
      all_goals
        go_enter Try.func35, Try.ntmps35
        go_wp2_with (go_at_call 37; with_reducible refine (rcheck_any l _ _ (HV.out.below up_below) HM.out 0 he).mono ?_; rintro e w' ⟨rfl, z, rfl⟩)
        go_ret2
        exact ⟨rfl, up_to⟩
  · have hE : clearE l k = 2 := by rw [clearE, if_neg hc]
    rw [hE]
    clear hE hv
    have he := chk_no hc
    clear hn hc
    go_enter Try.func35, Try.ntmps35
    go_wp2_with (go_at_call 37; with_reducible refine (rcheck_any l v _ (HV.out.below up_below) HM.out 2 he).mono ?_; rintro e w' ⟨rfl, z, rfl⟩)
    go_ret2
    exact ⟨rfl, up_to⟩

theorem RowAt.take {α : Type} {enc : α → List Value} {W : World} {b o : Nat} {l : List α} (h : RowAt enc W b o l) (n : Nat) : RowAt enc W b o (l.take n) := by
  intro j x hj i v hv
  rw [List.getElem?_take] at hj
  split at hj
  · exact h j x hj i v hv
  · cases hj
theorem RowAt.drop {α : Type} {enc : α → List Value} {W : World} {b o : Nat} {l : List α} (h : RowAt enc W b o l) (n : Nat) : RowAt enc W b (o + n * 4) (l.drop n) := by
  intro j x hj i v hv
  rw [List.getElem?_drop] at hj
  rw [← h _ x hj i v hv]
  congr 2; omega

set_option maxHeartbeats 2000000 in
theorem rclear_yes (l : List S) (v : Value) (n : Nat) (w : World) (hv : Has S.enc w v l) (hc : Chk mostS S.may S.same l) (hn : n < l.length) :
    Calls Try.prog 35 #[v, .int .i64 (n : Int)] w fun e w' => ∃ v' y, e = .returned (.tuple #[v', .int .i64 0]) ∧ w' = ext w y ∧ Own S.enc (ext w y) w.heap.size v' (l.eraseIdx n) := by
  have HV := Lib.hid hv
  have he := chk_yes hc
  have hl4 : l.length ≤ 4 := by have := hc.1; simp only [mostS] at this; omega
  have hmx : l.length ≤ 1000 := by omega
  have HM := Lib.hid hmx; clear hmx hc
  obtain ⟨i0, hi, hz0, hz1, hz2⟩ := info_parts infoS
  have HE : Hid (l.eraseIdx n = l.take n ++ l.drop (n + 1)) := List.eraseIdx_eq_take_drop_succ ..
  rcases hv with ⟨rfl, _⟩ | ⟨hl0, b, o, cap, rfl, hcap, hb, hR⟩
  · simp at hn
  · have HRA := Lib.hid hR; clear hR hl0
    haveI : LtW b w := ⟨hb⟩
    have HB := Lib.hid hb; clear hb
    have HTL : Hid ((l.take n).length = n) := by unfold Hid; rw [List.length_take]; omega
    have HDL : Hid ((l.drop (n + 1)).length = l.length - (n + 1)) := List.length_drop
    have hn0 : decide ((n : Int) < 0) = false := by simp
    have hn1 : decide (l.length ≤ n) = false := by simp; omega
    have hn2 : (n : Int) < 1000 := by omega
    have hn3 : n ≤ cap := by omega
    have hn4 : (0 : Int) ≤ (n : Int) + 1 := by omega
    have hn5 : (n : Int) + 1 ≤ (l.length : Int) := by omega
    have hn6 : (n : Int) + 1 ≤ (cap : Int) := by omega
    have hn7 : (n : Int) ≤ (n : Int) + 1 := by omega
    have HL := Lib.hid hl4; clear hl4
    by_cases hcn : cap = n + 1
    · subst hcn
      have hd : l.drop (n + 1) = [] := List.drop_eq_nil_of_le hcap
      rw [hd] at HE
      clear hd HDL
      go_enter Try.func35, Try.ntmps35
      go_wp2_with (first
        | (go_at_call 37; with_reducible refine (rcheck_any l _ _ (HV.out.below up_below) HM.out 0 he).mono ?_; rintro e w' ⟨rfl, z, rfl⟩)
        | (at_builtin; refine append4 S.enc4 S.enc1 rfl (.tmp 18) (.tmp 21) 58 rfl 61 i0 _ 32 Try.underlying58 hi hz0 hz1 hz2 rfl w ((Up.refl w).ext _) _ [] (l.take n) rfl (.inl ⟨rfl, rfl⟩) ⟨b, o, none⟩ (n + 1) (by rw [HTL.out]; rfl) (fun j u h => by rw [Addr.add_lit]; exact ((HRA.out.below HB.out up_below).take n).flat S.enc4 j u h) (by rw [HTL.out]; have := HL.out; simp [maxLen]; omega) (by rw [HTL.out]; have := HL.out; simp; omega) ?_; intro v1 y1 ho; have HO1 := Lib.hid ho; clear ho)
        | (at_builtin; refine append4 S.enc4 S.enc1 rfl (.tmp 23) (.tmp 27) 58 rfl 61 i0 _ 32 Try.underlying58 hi hz0 hz1 hz2 rfl w ((Up.refl w).ext _) _ ([] ++ l.take n) [] rfl HO1.out ⟨b, o, none⟩ 0 rfl (fun j u h => by simp [flat] at h) (by rw [List.nil_append, HTL.out]; have := HL.out; simp [maxLen]; omega) (by rw [List.nil_append, HTL.out]; have := HL.out; simp; omega) ?_; intro v2 y2 ho; have HO2 := Lib.hid ho; clear ho))
      go_ret2
      have h := HO2.out
      rw [List.nil_append, ← HE.out] at h
      exact ⟨v2, y2, rfl, rfl, h⟩
    · go_enter Try.func35, Try.ntmps35
      go_wp2_with (first
        | (go_at_call 37; with_reducible refine (rcheck_any l _ _ (HV.out.below up_below) HM.out 0 he).mono ?_; rintro e w' ⟨rfl, z, rfl⟩)
        | (at_builtin; refine append4 S.enc4 S.enc1 rfl (.tmp 18) (.tmp 21) 58 rfl 61 i0 _ 32 Try.underlying58 hi hz0 hz1 hz2 rfl w ((Up.refl w).ext _) _ [] (l.take n) rfl (.inl ⟨rfl, rfl⟩) ⟨b, o, none⟩ cap (by rw [HTL.out]; rfl) (fun j u h => by rw [Addr.add_lit]; exact ((HRA.out.below HB.out up_below).take n).flat S.enc4 j u h) (by rw [HTL.out]; have := HL.out; simp [maxLen]; omega) (by rw [HTL.out]; have := HL.out; simp; omega) ?_; intro v1 y1 ho; have HO1 := Lib.hid ho; clear ho)
        | (at_builtin; refine append4 S.enc4 S.enc1 rfl (.tmp 23) (.tmp 27) 58 rfl 61 i0 _ 32 Try.underlying58 hi hz0 hz1 hz2 rfl w ((Up.refl w).ext _) _ ([] ++ l.take n) (l.drop (n + 1)) rfl HO1.out ⟨b, o + (n + 1) * 4, none⟩ (cap - (n + 1)) (by rw [HDL.out]; rfl) (fun j u h => by rw [Addr.add_lit]; exact ((HRA.out.below HB.out up_below).drop (n + 1)).flat S.enc4 j u h) (by rw [List.nil_append, HTL.out, HDL.out]; have := HL.out; simp [maxLen]; omega) (by rw [List.nil_append, HTL.out, HDL.out]; have := HL.out; omega) ?_; intro v2 y2 ho; have HO2 := Lib.hid ho; clear ho))
      go_ret2
      have h := HO2.out
      rw [List.nil_append, ← HE.out] at h
      exact ⟨v2, y2, rfl, rfl, h⟩

/-- Both answers in one, of the document and of the program. -/
theorem rclear_any (l : List S) (v : Value) (k : Int) (w : World) (hv : Has S.enc w v l) (hl : l.length ≤ 1000) :
    Calls Try.prog 35 #[v, .int .i64 k] w fun e w' => ∃ v' y, e = .returned (.tuple #[v', .int .i64 (clearE l k)]) ∧ w' = ext w y ∧ Has S.enc (ext w y) v' (clearL l k) := by
  by_cases h : Chk mostS S.may S.same l ∧ 0 ≤ k ∧ k < (l.length : Int)
  · obtain ⟨n, rfl⟩ : ∃ n : Nat, k = (n : Int) := ⟨k.toNat, by omega⟩
    rw [clearE, if_pos h.1, if_pos h.2, clearL, if_pos h]
    exact (rclear_yes l v n w hv h.1 (by omega)).mono fun _ _ ⟨v', y, h1, h2, h3⟩ => ⟨v', y, h1, h2, h3.has⟩
  · rw [clearL, if_neg h]
    exact (rclear_no l v k w hv hl h).mono fun _ _ ⟨h1, y, h2⟩ => ⟨_, y, h1, h2, .inl ⟨rfl, .inl rfl⟩⟩
theorem clear_any (l : List S) (v : Value) (k : Int) (w : World) (hv : Has S.enc w v l) (hl : l.length ≤ 1000) :
    Calls Try.prog 34 #[v, .int .i64 k] w fun e w' => ∃ v' y, e = .returned (.tuple #[v', .int .i64 (clearE l k)]) ∧ w' = ext w y ∧ Has S.enc (ext w y) v' (clearL l k) := by
  by_cases h : Chk mostS S.may S.same l ∧ 0 ≤ k ∧ k < (l.length : Int)
  · obtain ⟨n, rfl⟩ : ∃ n : Nat, k = (n : Int) := ⟨k.toNat, by omega⟩
    rw [clearE, if_pos h.1, if_pos h.2, clearL, if_pos h]
    exact (clear_yes l v n w hv h.1 (by omega)).mono fun _ _ ⟨v', y, h1, h2, h3⟩ => ⟨v', y, h1, h2, h3.has⟩
  · rw [clearL, if_neg h]
    exact (clear_no l v k w hv hl h).mono fun _ _ ⟨h1, y, h2⟩ => ⟨_, y, h1, h2, .inl ⟨rfl, .inl rfl⟩⟩
end Go.Proofs.Ytpolilljglfkoaa
