/- A memory of the program's and one of the document's, written alike. -/
import Derived.Test.YtcjklghjnbhcdaaWRMem
import Derived.Deep.RegionHeld3
namespace Go.Proofs.Ytcjklghjnbhcdaa
open Go.RowKit

/-- A word that is to be a value. -/
structure W2 where
  k : Nat
  v : Nat
abbrev W2.c0 (x : W2) : Value := .int .u64 (x.k : Int)
abbrev W2.c1 (x : W2) : Value := .int .u64 (x.v : Int)
/-- A slice value holds such. -/
def Wrs (W : World) (v : Value) (l : List W2) : Prop := ∃ ad cap, v = .slice ad l.length cap ∧ ∀ j x, l[j]? = some x → x.k < 18446744073709551616 ∧ x.v < 18446744073709551616 ∧ ∃ b o, ad = some ⟨b, o, none⟩ ∧ b < W.heap.size ∧
  W.cell? ⟨b, o + j * 2, none⟩ = some x.c0 ∧ W.cell? ⟨b, o + j * 2 + 1, none⟩ = some x.c1

def updW (f : Nat → Nat) (x : W2) : Nat → Nat := if x.k / 512 < 16 then updN f x.k x.v else f
def memOf (l : List W2) : Nat → Nat := l.foldl updW (fun _ => 0)
theorem memOf_succ (l : List W2) (j : Nat) (x : W2) (hx : l[j]? = some x) : memOf (l.take (j + 1)) = updW (memOf (l.take j)) x := by
  unfold memOf
  rw [List.take_add_one, hx]
  simp

/-- Both, in one world. -/
def TwoAt (w W : World) (b rb : Nat) (f : Nat → Nat) (c : Nat) : Prop :=
  ∃ F G D m fr rl, MemAt F W b 16 f c m D fr ∧ RMemAt G W rb rl 16 ∧ (∀ i, F i → ¬ G i) ∧ (∀ i, F i → w.heap.size ≤ i) ∧ (∀ i, G i → w.heap.size ≤ i) ∧ Up w.heap.size w W
theorem TwoAt.up {w W : World} {b rb : Nat} {f : Nat → Nat} {c : Nat} (h : TwoAt w W b rb f c) : Up w.heap.size w W := by
  obtain ⟨_, _, _, _, _, _, _, _, _, _, _, h⟩ := h; exact h
theorem TwoAt.below {w W W' : World} {b rb : Nat} {f : Nat → Nat} {c : Nat} (h : TwoAt w W b rb f c) (hB : Below W.heap.size W W') : TwoAt w W' b rb f c := by
  obtain ⟨F, G, D, m, fr, rl, h1, h2, h3, h4, h5, h6⟩ := h
  exact ⟨F, G, D, m, fr, rl, h1.below hB, h2.below hB, h3, h4, h5, h6.1.trans (hB.mono h6.2), Nat.le_trans h6.2 hB.size⟩

theorem two_m {w W : World} {b rb : Nat} {f : Nat → Nat} {c : Nat} (h : TwoAt w W b rb f c) (hc : c < 1000000) (x : W2) (hk : x.k < 18446744073709551616) (hv : x.v < 18446744073709551616) (r : Int) (hr : (if x.k / 512 < 16 then (0 : Int) else 80) = r) (g : Nat → Nat) (hg : updW f x = g) :
    Calls Try.prog 26 #[.pointer (some ⟨b, 0, none⟩), .int .u64 (x.k : Int), .int .u64 (x.v : Int)] W fun e w' => e = .returned (.int .i64 r) ∧ TwoAt w w' b rb g (c + 1) := by
  obtain ⟨F, G, D, m, fr, rl, h1, h2, h3, h4, h5, h6⟩ := h
  by_cases hX : x.k / 512 < 16
  · rw [if_pos hX] at hr
    rw [updW, if_pos hX] at hg
    subst hr hg
    refine (mwrite_any h1 hc x.k hk x.v hv hX).mono ?_
    rintro e w' ⟨rfl, F', D', fr', r1, r2, r3⟩
    have hlt : ∀ i, G i → i < W.heap.size := h2.fl
    refine ⟨rfl, F', G, D', m, fr', rl, r1, h2.chg r2 h3, fun i hi hg => ?_, fun i hi => ?_, h5, ?_⟩
    · rcases r3 i hi with h | h
      · exact h3 i h hg
      · have := hlt i hg; omega
    · rcases r3 i hi with h | h
      · exact h4 i h
      · exact Nat.le_trans h6.2 h
    · exact ⟨h6.1.trans (r2.below h4 h6.2), Nat.le_trans h6.2 r2.size⟩
  · rw [if_neg hX] at hr
    rw [updW, if_neg hX] at hg
    subst hr hg
    refine (mwrite_bad h1 x.k hk x.v (by omega)).mono ?_
    rintro e w' ⟨rfl, y, rfl⟩
    have hM := h1.below (ext_below W y)
    exact ⟨rfl, F, G, D, m, fr, rl, { hM with map := hM.map.mono (Nat.le_succ _) }, h2.below (ext_below W y), h3, h4, h5, h6.ext y⟩

theorem two_r {w W : World} {b rb : Nat} {f : Nat → Nat} {c : Nat} (h : TwoAt w W b rb f c) (x : W2) (hk : x.k < 18446744073709551616) (r : Int) (hr : (if x.k / 512 < 16 then (0 : Int) else 80) = r) :
    Calls Try.prog 49 #[.pointer (some ⟨rb, 0, none⟩), .int .u64 (x.k : Int), .int .u64 (x.v : Int)] W fun e w' => e = .returned (.int .i64 r) ∧ TwoAt w w' b rb f c := by
  obtain ⟨F, G, D, m, fr, rl, h1, h2, h3, h4, h5, h6⟩ := h
  by_cases hX : x.k / 512 < 16
  · rw [if_pos hX] at hr
    subst hr
    refine (rwrite_any h2 x.k hk x.v hX).mono ?_
    rintro e w' ⟨rfl, G', r1, r2, r3⟩
    have hlt : ∀ i, F i → i < W.heap.size := h1.fl
    refine ⟨rfl, F, G', D, m, fr, rl, h1.chg r2 (fun i hg hf => h3 i hf hg), r1, fun i hi hg => ?_, h4, fun i hi => ?_, ?_⟩
    · rcases r3 i hg with h | h
      · exact h3 i hi h
      · have := hlt i hi; omega
    · rcases r3 i hi with h | h
      · exact h5 i h
      · exact Nat.le_trans h6.2 h
    · exact ⟨h6.1.trans (r2.below h5 h6.2), Nat.le_trans h6.2 r2.size⟩
  · rw [if_neg hX] at hr
    subst hr
    refine (rwrite_bad h2 x.k hk x.v (by omega)).mono ?_
    rintro e w' ⟨rfl, y, rfl⟩
    exact ⟨rfl, F, G, D, m, fr, rl, h1.below (ext_below W y), h2.below (ext_below W y), h3, h4, h5, h6.ext y⟩

set_option maxRecDepth 100000 in
set_option maxHeartbeats 2000000 in
theorem both_any (l : List W2) (v : Value) (w : World) (hv : Wrs w v l) (hl : l.length ≤ 300) :
    Calls Try.prog 22 #[v] w fun e w' => ∃ b rb, e = .returned (.tuple #[.pointer (some ⟨b, 0, none⟩), .pointer (some ⟨rb, 0, none⟩), .bool true]) ∧ TwoAt w w' b rb (memOf l) l.length := by
  obtain ⟨ad, cap, rfl, hcells⟩ := hv
  have HC := Lib.hid hcells
  clear hcells
  have hlz : (l.length : Int) ≤ 300 := by omega
  go_enter Try.func22, Try.ntmps22
  go_wp2_with fail
  refine (mnew_any 16 (by decide) (by decide) _).mono ?_
  rintro e w1 ⟨b, rfl, F, D, m, fr, hM, hF, x1, rfl⟩
  have HM := Lib.hid hM; have HF := Lib.hid hF; clear hM hF
  go_wp2_with fail
  refine (rnew_any _).mono ?_
  rintro e w2 ⟨rb, rl, rfl, G, hR, hG, x2, h2⟩
  have HT : Hid (TwoAt w w2 b rb (memOf (l.take 0)) 0) := Lib.hid ⟨F, G, D, m, fr, rl, HM.out.below (by rw [h2]; exact ext_below _ _), hR, fun i hf hg => by have := HM.out.fl i hf; have := hG i hg; omega, HF.out, fun i hi => Nat.le_trans (ext_size w x1) (hG i hi), by rw [h2]; exact ((Up.refl w).ext x1).ext x2⟩
  clear HM HF hR hG h2
  go_wp2_with fail
  go_loopw [9, 10] (fun s k wr => s = .bool true ∧ ∃ j : Nat, j ≤ l.length ∧ k = .int .i64 (j : Int) ∧ Hid (TwoAt w wr b rb (memOf (l.take j)) j)) (fun _ k _ => (l.length - intOf k).toNat)
  case atStart => exact ⟨rfl, 0, by omega, by simp, HT⟩
  case round =>
    clear HT
    obtain ⟨rfl, j, hj, rfl, HT⟩ := hrel
    by_cases hlt : j < l.length
    · obtain ⟨x, hx⟩ : ∃ x, l[j]? = some x := ⟨_, List.getElem?_eq_getElem hlt⟩
      obtain ⟨hxk, hxv, lb, lo, rfl, hb, c0, c1⟩ := HC.out j x hx
      have hBw := HT.out.up.below
      replace c0 := (hBw.cell (p := ⟨lb, _, none⟩) hb).trans c0
      replace c1 := (hBw.cell (p := ⟨lb, _, none⟩) hb).trans c1
      have HX := Lib.hid hx; have HBW := Lib.hid hBw; have HXK := Lib.hid hxk; have HXV := Lib.hid hxv
      clear hx hBw hxk hxv
      go_wp2_with fail
      obtain ⟨r, hr⟩ : ∃ r : Int, (if x.k / 512 < 16 then (0 : Int) else 80) = r := ⟨_, rfl⟩
      obtain ⟨g, hg⟩ : ∃ g, updW (memOf (l.take j)) x = g := ⟨_, rfl⟩
      have HRR := Lib.hid hr; have HGG := Lib.hid hg; have HJ := Lib.hid (show j < 1000000 by omega)
      clear hr hg
      go_region_held3 (fun W => W.cell? ⟨lb, lo + j * 2, none⟩ = some x.c0 ∧ W.cell? ⟨lb, lo + j * 2 + 1, none⟩ = some x.c1)
        (first | (go_keep; done) | (refine ⟨by assumption, by assumption⟩))
        (first
          | (go_at_call 26; first | (refine (two_m (H1.out.below up_below) HJ.out x HXK.out HXV.out r HRR.out g HGG.out).mono ?_) | (refine (two_m (HT.out.below up_below) HJ.out x HXK.out HXV.out r HRR.out g HGG.out).mono ?_)
             rintro e w3 ⟨rfl, h3⟩
             have k0 := (h3.up.below.cell (p := ⟨lb, lo + j * 2, none⟩) hb).trans ((HBW.out.cell (p := ⟨lb, lo + j * 2, none⟩) hb).symm.trans c0)
             have k1 := (h3.up.below.cell (p := ⟨lb, lo + j * 2 + 1, none⟩) hb).trans ((HBW.out.cell (p := ⟨lb, lo + j * 2 + 1, none⟩) hb).symm.trans c1)
             have H1 := Lib.hid h3
             clear h3)
          | (go_at_call 49; first | (refine (two_r (H1.out.below up_below) x HXK.out r HRR.out).mono ?_) | (refine (two_r (HT.out.below up_below) x HXK.out r HRR.out).mono ?_)
             rintro e w3 ⟨rfl, h3⟩
             have k0 := (h3.up.below.cell (p := ⟨lb, lo + j * 2, none⟩) hb).trans ((HBW.out.cell (p := ⟨lb, lo + j * 2, none⟩) hb).symm.trans c0)
             have k1 := (h3.up.below.cell (p := ⟨lb, lo + j * 2 + 1, none⟩) hb).trans ((HBW.out.cell (p := ⟨lb, lo + j * 2 + 1, none⟩) hb).symm.trans c1)
             have H1 := Lib.hid h3
             clear h3))
      all_goals
        have HE : Hid (memOf (l.take (j + 1)) = g) := Lib.hid ((memOf_succ l j x HX.out).trans HGG.out)
        go_wp2_with fail
        go_roundw
        case rel => exact ⟨rfl, j + 1, by omega, by go_num, by rw [HE.out]; exact H1⟩
        case measure => simp [intOf]; omega
    · obtain rfl : j = l.length := by omega
      go_wp2_with fail
      go_ret3
      exact ⟨b, rb, rfl, by rw [List.take_length] at HT; exact HT.out⟩
end Go.Proofs.Ytcjklghjnbhcdaa
