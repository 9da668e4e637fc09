/- What the document says of an entry that is put in another one's place: the TLB laws' wakes. -/
import Derived.Test.YtpolilljglfkoaaTlbFind
import Derived.Test.YtpolilljglfkoaaTlbBest
namespace Go.Proofs.Ytpolilljglfkoaa
open Go.RowKit

theorem heap_new_tc (W : World) (o : Obj) (n : Nat) [h : EqW n W] : (W.alloc o).heap[n]? = some o := by rw [h.eq]; exact heap_alloc_new W o
theorem has_new {α : Type} {enc : α → List Value} (h4 : ∀ x, (enc x).length = 4) {W : World} {b cap : Nat} {cs : Array Value} {t : TypeId} {fr : Nat × Nat} {l : List α} (hb : W.heap[b]? = some (.cells cs t fr)) (hf : flat enc l = cs.toList) (hc : l.length ≤ cap) :
    Has enc W (.slice (some ⟨b, 0, none⟩) l.length cap) l := by
  by_cases h0 : l = []
  · subst h0; exact .inl ⟨rfl, .inr ⟨_, _, rfl⟩⟩
  · refine .inr ⟨h0, b, 0, cap, rfl, hc, (Array.getElem?_eq_some_iff.1 hb).1, RowAt.of_flat h4 fun j u hj => ?_⟩
    rw [hf] at hj
    have := World.news_of_block hb j u hj
    rw [Addr.add_lit] at this
    simpa using this
theorem own_some {α : Type} {enc : α → List Value} {W : World} {base : Nat} {v : Value} {l : List α} (h : Own enc W base v l) (hne : l ≠ []) : ∃ g o cap, v = .slice (some ⟨g, o, none⟩) l.length cap ∧ OwnS enc W base g o cap l := by
  rcases h.shape with ⟨_, h⟩ | h
  · exact (hne h).elim
  · exact h

abbrev wl : List E := [⟨1, 5, 2, false⟩, ⟨1, 6, 0, false⟩]
abbrev wm : List E := [⟨1, 5, 3, false⟩, ⟨1, 6, 0, false⟩]
abbrev ws : List S := [⟨1, 1, 0, 0⟩, ⟨1, 3, 0, 0⟩, ⟨1, 2, 0, 0⟩]
theorem chk_wl : Chk mostT E.may E.same wl := by
  refine ⟨by decide, fun i x h => ?_⟩
  match i, h with
  | 0, h => cases h; decide
  | 1, h => cases h; decide
  | n + 2, h => simp at h
theorem chk_wm : Chk mostT E.may E.same wm := by
  refine ⟨by decide, fun i x h => ?_⟩
  match i, h with
  | 0, h => cases h; decide
  | 1, h => cases h; decide
  | n + 2, h => simp at h
theorem chk_ws : Chk mostS S.may S.same ws := by
  refine ⟨by decide, fun i x h => ?_⟩
  match i, h with
  | 0, h => cases h; decide
  | 1, h => cases h; decide
  | 2, h => cases h; decide
  | n + 3, h => simp at h

set_option maxHeartbeats 2000000 in
theorem wakes11 (w : World) : Calls Try.prog 25 #[] w fun e w' => e = .returned (.bool true) ∧ ∃ x, w' = ext w x := by
  go_enter Try.func25, Try.ntmps25
  go_wp2_with (first
    | (go_at_call 29; refine (Fill_yes wl _ ⟨1, 5, 3, false⟩ _ (has_new E.enc4 (by exact heap_new_tc _ _ _) (by rfl) (by decide)) chk_wl (by decide) wm (by decide)).mono ?_; rintro e w' ⟨v', y, rfl, rfl, ho⟩; obtain ⟨g, o, cap, rfl, hs⟩ := own_some ho (by simp); have HS := Lib.hid hs; clear hs ho)
    | (go_at_call 50; refine (Find_hit wm g o cap 1 5 _ HS.out.len HS.out.lt HS.out.row chk_wm 0 ⟨1, 5, 3, false⟩ rfl (by decide)).mono ?_; rintro e w' ⟨rfl, z, rfl⟩)
    | (go_at_call 26; refine (Best_yes ws _ 1 7 _ (has_new S.enc4 (by exact heap_new_tc _ _ _) (by rfl) (by decide)) chk_ws ⟨1, 2, 0, 0⟩ (by decide)).mono ?_; rintro e w' ⟨rfl, z, rfl⟩))
  go_ret
  exact ⟨rfl, up_to⟩
end Go.Proofs.Ytpolilljglfkoaa
