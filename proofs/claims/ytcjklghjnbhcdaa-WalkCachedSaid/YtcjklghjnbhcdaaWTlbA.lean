/- The entries of a Step-row: what tlb's closures and slices.IndexFunc, ContainsFunc tell. -/
import Derived.Test.YtcjklghjnbhcdaaWEntry
namespace Go.Proofs.Ytcjklghjnbhcdaa
open Go.RowKit

set_option maxHeartbeats 1000000 in
/-- slices.IndexFunc over a closure that tells p. -/
theorem sIndexFunc_any (p : S → Bool) (g : Nat) (lb : Array Value) (eg : ∀ args w, (callFunc g args).run Try.prog w = .ok (.enter g args) w) (l : List S) (v : Value) (w : World) (hv : Has S.enc w v l) (hl : l.length ≤ 9223372036854775807)
    (hp : ∀ (W : World) (x : S), Below w.heap.size w W → Calls Try.prog g (#[x.v] ++ lb) W fun e w' => e = .returned (.bool (p x)) ∧ ∃ x, w' = ext W x) (r : Int) (hr : idx p l = r) :
    Calls Try.prog 96 #[v, .func (.func g) #[] lb] w fun e w' => e = .returned (.int .i64 r) ∧ ∃ x, w' = ext w x := by
  have Hr := Lib.hid hr; clear hr
  rcases hv with ⟨rfl, hv⟩ | ⟨hl0, b, o, cap, rfl, hcap, hb, hR⟩
  · have h1 : idx p [] = -1 := rfl
    have e : r = -1 := Hr.out.symm.trans h1
    subst e
    clear Hr h1
    rcases hv with rfl | ⟨ad, cap, rfl⟩

    all_goals
      go_enter Try.func96, Try.ntmps96
      go_wp2_with fail
      go_loopw [5, 8] (fun _ k wr => k = .int .i64 0 ∧ wr = w) (fun _ k _ => 0)
      case atStart => exact ⟨rfl, rfl⟩
      case round =>
        obtain ⟨rfl, rfl⟩ := hrel
        go_wp2_with fail
        go_ret
        exact ⟨rfl, up_to⟩
  · haveI : LtW b w := ⟨hb⟩
    have HR := Lib.hid hR; clear hR
    go_enter Try.func96, Try.ntmps96
    go_wp2_with fail
    go_loopw [5, 8] (fun _ k wr => ∃ j : Nat, j ≤ l.length ∧ k = .int .i64 (j : Int) ∧ Hid (∀ (i : Nat) y, i < j → l[i]? = some y → p y = false) ∧ ∃ y, wr = ext w y) (fun _ k _ => (l.length - intOf k).toNat)
    case atStart => exact ⟨0, by omega, by simp, by unfold Hid; intro i y h; omega, up_to⟩
    case round =>
      obtain ⟨j, hj, rfl, hA, y, rfl⟩ := hrel
      by_cases hlt : j < l.length
      · obtain ⟨x, hx⟩ : ∃ x, l[j]? = some x := ⟨_, List.getElem?_eq_getElem hlt⟩
        have c0 : w.cell? ⟨b, o + j * 4, none⟩ = some x.c0 := HR.out j x hx 0 _ rfl
        have c1 : w.cell? ⟨b, o + j * 4 + 1, none⟩ = some x.c1 := HR.out j x hx 1 _ rfl
        have c2 : w.cell? ⟨b, o + j * 4 + 2, none⟩ = some x.c2 := HR.out j x hx 2 _ rfl
        have c3 : w.cell? ⟨b, o + j * 4 + 3, none⟩ = some x.c3 := HR.out j x hx 3 _ rfl
        have hcall := hp (ext w y) x (ext_below w y)
        cases hq : p x
        · rw [hq] at hcall
          go_wp2_with (with_reducible refine hcall.mono ?_; rintro e w' ⟨rfl, x, rfl⟩)
          go_roundw
          case rel =>
            refine ⟨j + 1, by omega, by go_num, ?_, up_to⟩
            unfold Hid; intro i z hi hz
            by_cases e : i = j
            · subst e; rw [hx] at hz; cases hz; exact hq
            · exact hA.out i z (by omega) hz
          case measure => simp [intOf]; omega
        · rw [hq] at hcall
          go_wp2_with (with_reducible refine hcall.mono ?_; rintro e w' ⟨rfl, x, rfl⟩)
          go_ret
          exact ⟨by rw [← Hr.out, idx_hit hx hq hA.out]; rfl, up_to⟩
      · obtain rfl : j = l.length := by omega
        go_wp2_with fail
        go_ret
        exact ⟨by rw [← Hr.out, idx_miss fun i z hz => hA.out i z (List.getElem?_eq_some_iff.1 hz).1 hz]; rfl, up_to⟩

/-- slices.ContainsFunc likewise. -/
theorem sContainsFunc_any (p : S → Bool) (g : Nat) (lb : Array Value) (eg : ∀ args w, (callFunc g args).run Try.prog w = .ok (.enter g args) w) (l : List S) (v : Value) (w : World) (hv : Has S.enc w v l) (hl : l.length ≤ 9223372036854775807)
    (hp : ∀ (W : World) (x : S), Below w.heap.size w W → Calls Try.prog g (#[x.v] ++ lb) W fun e w' => e = .returned (.bool (p x)) ∧ ∃ x, w' = ext W x) (r : Bool) (hr : l.any p = r) :
    Calls Try.prog 85 #[v, .func (.func g) #[] lb] w fun e w' => e = .returned (.bool r) ∧ ∃ x, w' = ext w x := by
  have hcon := sIndexFunc_any p g lb eg l v w hv hl hp _ rfl
  rw [any_idx] at hr
  subst hr
  generalize idx p l = k at hcon ⊢
  go_enter Try.func85, Try.ntmps85
  go_wp2_with (go_at_call 96; refine hcon.mono ?_; rintro e w' ⟨rfl, x, rfl⟩)
  all_goals
    go_ret
    exact ⟨rfl, up_to⟩

end Go.Proofs.Ytcjklghjnbhcdaa
