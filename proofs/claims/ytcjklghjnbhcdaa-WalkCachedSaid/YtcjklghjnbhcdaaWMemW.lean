/- A word written into the program's memory. -/
import Derived.Test.YtcjklghjnbhcdaaWMem
namespace Go.Proofs.Ytcjklghjnbhcdaa
open Go.RowKit
open Go.Maps (Keyed)

def updN {α : Type} (f : Nat → α) (k : Nat) (v : α) : Nat → α := fun j => if j = k then v else f j
theorem updN_at {α : Type} (f : Nat → α) (k : Nat) (v : α) : updN f k v k = v := if_pos rfl
theorem updN_ne {α : Type} (f : Nat → α) (k : Nat) (v : α) {j : Nat} (h : j ≠ k) : updN f k v j = f j := if_neg h

section
variable {F : Nat → Prop} {W : World} {b n c m : Nat} {f : Nat → Nat} {D : DataW Unit} {fr : Nat → Option Nat}
theorem mwrite_bad (h : MemAt F W b n f c m D fr) (X : Nat) (hX : X < 18446744073709551616) (V : Int) (hk : n ≤ X / 512) :
    Calls Try.prog 26 #[.pointer (some ⟨b, 0, none⟩), .int .u64 (X : Int), .int .u64 V] W fun e w' => e = .returned (.int .i64 80) ∧ ∃ x, w' = ext W x := by
  have hb : LtW b W := ⟨h.lt⟩
  have c0 := h.cn
  have n64 := h.n64
  have hr : (if X / 512 < n then (0 : Int) else 80) = 80 := if_neg (by omega)
  have HX := Lib.hid hX; have HR := Lib.hid hr
  clear hX hr h hk
  go_enter Try.func26, Try.ntmps26
  go_wp2_with (go_at_call 51; with_reducible refine (mthere_any _ b n n64 X HX.out c0 80 HR.out).mono ?_; rintro e w' ⟨rfl, x, rfl⟩)
  go_ret
  exact ⟨rfl, up_to⟩

theorem mwrite_old (h : MemAt F W b n f c m D fr) (X : Nat) (hX : X < 18446744073709551616) (V : Int) (hk : X / 512 < n) (g : Nat) (hf : fr (X / 512) = some g) :
    Calls Try.prog 26 #[.pointer (some ⟨b, 0, none⟩), .int .u64 (X : Int), .int .u64 V] W fun e w' => e = .returned (.int .i64 0) ∧ ∃ x, w' = ext (W.setCell ⟨g, X % 512, none⟩ (.int .u64 V)) x := by
  have hb : LtW b W := ⟨h.lt⟩
  have c0 := h.cn
  have c1 := h.cm
  have n64 := h.n64
  have hr : (if X / 512 < n then (0 : Int) else 80) = 0 := if_pos hk
  have hkey := h.key _ hk
  have hmap := h.map
  have hwf : (Lit.int .i64 ((X : Int) / 512)).wf = true := WalkArith.wf_i64 (by omega)
  have HX := Lib.hid hX; have HR := Lib.hid hr
  have hm : LtW m W := ⟨h.fl _ h.fm⟩
  have hv := h.cw hk hf (X % 512) (Nat.mod_lt _ (by decide))
  have hfz := h.cf hk hf (X % 512)
  rw [hf] at hkey
  have HK := Lib.hid hkey
  have hgl : LtW g W := ⟨h.fl _ (h.ff _ g hk hf)⟩
  clear hX hr h hf hkey
  go_enter Try.func26, Try.ntmps26
  go_wp2_with (first
    | (go_at_call 51; with_reducible refine (mthere_any _ b n n64 X HX.out c0 0 HR.out).mono ?_; rintro e w' ⟨rfl, x, rfl⟩)
    | (at_lookup; refine wpList_lookup_ptr _ rfl _ _ 117 rfl 3 116 keyI Try.underlying117 (zeroF _) m c D rfl (owns_below hmap (ext_below _ _)) _ _ rfl (keyOfI _ hwf) (some g) HK.out ?_; simp only [ptrOf]))
  go_ret
  exact ⟨rfl, _, rfl⟩

theorem mem_set (h : MemAt F W b n f c m D fr) (X V : Nat) (hV : V < 18446744073709551616) (hk : X / 512 < n) (g : Nat) (hf : fr (X / 512) = some g) :
    MemAt F (W.setCell ⟨g, X % 512, none⟩ (.int .u64 (V : Int))) b n (updN f X V) c m D fr := by
  obtain ⟨cs, r1, r2, r3⟩ := h.row _ g hk hf
  have hgb : b ≠ g := by
    rintro rfl
    have := h.blk.symm.trans r1
    simp at this
  have hgm : m ≠ g := by
    rintro rfl
    obtain ⟨es, clock, hb, _⟩ := h.map
    have := hb.symm.trans r1
    simp at this
  have hoth : ∀ k, k ≠ g → (W.setCell ⟨g, X % 512, none⟩ (.int .u64 (V : Int))).heap[k]? = W.heap[k]? := fun k hk => Below.heap_setCell W ⟨g, X % 512, none⟩ _ k hk
  refine { h with blk := (hoth b hgb).trans h.blk, map := ?_, row := ?_, non := ?_, fl := fun i hi => by simpa using h.fl i hi, val := ?_ }
  · obtain ⟨es, clock, hb, r⟩ := h.map
    exact ⟨es, clock, (hoth m hgm).trans hb, r⟩
  · intro k g' hk' hg'
    by_cases e : g' = g
    · subst e
      have ek := h.sep _ _ _ hk' hk hg' hf
      subst ek
      refine ⟨cs.setIfInBounds (X % 512) (.int .u64 (V : Int)), ?_, by simpa using r2, fun i hi => ?_⟩
      · simp only [World.setCell, Array.getElem?_modify, if_true, r1]; rfl
      · rw [Array.getElem?_setIfInBounds]
        by_cases ei : X % 512 = i
        · rw [if_pos ei, if_pos (by omega), ← ei, show X / 512 * 512 + X % 512 = X by omega, updN_at]
        · rw [if_neg ei, r3 i hi, updN_ne _ _ _ (by omega)]
    · obtain ⟨cs', q1, q2, q3⟩ := h.row k g' hk' hg'
      refine ⟨cs', (hoth g' e).trans q1, q2, fun i hi => ?_⟩
      rw [q3 i hi, updN_ne]
      intro ex
      have : k = X / 512 := by omega
      subst this
      exact e (Option.some.inj (hg'.symm.trans hf))
  · intro k i hk' hn hi
    rw [updN_ne]
    · exact h.non k i hk' hn hi
    · intro ex
      have : k = X / 512 := by omega
      subst this
      rw [hf] at hn; cases hn
  · intro k
    unfold updN; split
    · exact hV
    · exact h.val k
end

theorem zero512 : Try.zeroCells121 = Array.replicate 512 (.int .u64 0) := by kernel_rfl
theorem zero512_at (i : Nat) (hi : i < 512) : Try.zeroCells121[i]? = some (.int .u64 0) := by rw [zero512, Array.getElem?_replicate, if_pos hi]

section
variable {F : Nat → Prop} {W : World} {b n c m : Nat} {f : Nat → Nat} {D : DataW Unit} {fr : Nat → Option Nat}
/-- A frame more. -/
theorem mem_grow (h : MemAt F W b n f c m D fr) (k : Nat) (hk : k < n) (hf : fr k = none) (W1 w1 : World) (hB : Below W.heap.size W W1) (D' : DataW Unit) (hD : D' = D.put (.int .i64 (k : Int)) (.lit (.int .i64 (W1.heap.size : Int))))
    (hown : w1.ownsMap Try.prog 3 ptrElem m (c + 1) D') (hgrow : (W1.alloc (.cells Try.zeroCells121 121)).grownBy w1 (some m)) :
    MemAt (fun i => F i ∨ i = W1.heap.size) w1 b n f (c + 1) m D' (updN fr k (some W1.heap.size)) ∧ Chg F W w1 := by
  have hml : m < W.heap.size := h.fl _ h.fm
  have hbm : b ≠ m := by
    rintro rfl
    obtain ⟨es, clock, hb, _⟩ := h.map
    have := hb.symm.trans h.blk
    simp at this
  have hsz := hB.size
  have hold : ∀ i, i < W.heap.size → i ≠ m → w1.heap[i]? = W.heap[i]? := fun i hi hne => by
    rw [hgrow.block i (by simp; omega) (by simpa using hne)]
    show (W1.heap.push _)[i]? = _
    rw [Array.getElem?_push, if_neg (by omega)]
    exact hB.block i hi
  have hnew : w1.heap[W1.heap.size]? = some (.cells Try.zeroCells121 121 (0, 0)) := by
    rw [hgrow.block _ (by simp) (by simp; omega)]
    exact heap_alloc_last W1 _
  have hs1 : W1.heap.size < w1.heap.size := (Array.getElem?_eq_some_iff.1 hnew).1
  have hkl : WideAt.IsKeyLit (.int .i64 (k : Int)) := trivial
  refine ⟨{ h with blk := (hold b h.lt hbm).trans h.blk, map := hown, key := ?_, row := ?_, non := ?_, sep := ?_, fb := .inl h.fb, fm := .inl h.fm, ff := ?_, fl := ?_ }, ?_⟩
  · intro j hj
    subst hD
    by_cases e : j = k
    · subst e
      rw [Maps.atKey_put_same h.map.isMap hkl, updN_at]; rfl
    · rw [Maps.atKey_put_other (fun he => e (by simp at he; omega)), updN_ne _ _ _ e]
      exact h.key j hj
  · intro j g hj hg
    by_cases e : j = k
    · subst e
      rw [updN_at] at hg
      cases hg
      refine ⟨_, hnew, Try.zeroCells121_size, fun i hi => ?_⟩
      rw [zero512_at i hi, h.non j i hj hf hi]; rfl
    · rw [updN_ne _ _ _ e] at hg
      obtain ⟨cs, r1, r2, r3⟩ := h.row j g hj hg
      have hgl := h.fl _ (h.ff j g hj hg)
      have hgm : g ≠ m := by
        rintro rfl
        obtain ⟨es, clock, hb, _⟩ := h.map
        have := hb.symm.trans r1
        simp at this
      exact ⟨cs, (hold g hgl hgm).trans r1, r2, r3⟩
  · intro j i hj hn hi
    by_cases e : j = k
    · subst e; rw [updN_at] at hn; cases hn
    · rw [updN_ne _ _ _ e] at hn
      exact h.non j i hj hn hi
  · intro i j g hi hj hgi hgj
    by_cases e1 : i = k <;> by_cases e2 : j = k
    · rw [e1, e2]
    · subst e1
      rw [updN_at] at hgi; rw [updN_ne _ _ _ e2] at hgj
      cases hgi
      have := h.fl _ (h.ff j _ hj hgj); omega
    · subst e2
      rw [updN_at] at hgj; rw [updN_ne _ _ _ e1] at hgi
      cases hgj
      have := h.fl _ (h.ff i _ hi hgi); omega
    · rw [updN_ne _ _ _ e1] at hgi; rw [updN_ne _ _ _ e2] at hgj
      exact h.sep i j g hi hj hgi hgj
  · intro j g hj hg
    by_cases e : j = k
    · subst e; rw [updN_at] at hg; cases hg; exact .inr rfl
    · rw [updN_ne _ _ _ e] at hg; exact .inl (h.ff j g hj hg)
  · intro i hi
    rcases hi with hi | rfl
    · have := h.fl i hi; omega
    · exact hs1
  · refine ⟨hgrow.os.trans hB.os, hgrow.tape.trans hB.tape, hgrow.output.trans hB.output, by omega, fun i hi hn => hold i hi (fun e => hn (e ▸ h.fm))⟩

theorem mwrite_new (h : MemAt F W b n f c m D fr) (hc : c < 1000000) (X : Nat) (hX : X < 18446744073709551616) (V : Nat) (hV : V < 18446744073709551616) (hk : X / 512 < n) (hf : fr (X / 512) = none) :
    Calls Try.prog 26 #[.pointer (some ⟨b, 0, none⟩), .int .u64 (X : Int), .int .u64 (V : Int)] W fun e w' => e = .returned (.int .i64 0) ∧
      ∃ F' D' fr', MemAt F' w' b n (updN f X V) (c + 1) m D' fr' ∧ Chg F W w' ∧ (∀ i, F' i → F i ∨ W.heap.size ≤ i) := by
  have hb : LtW b W := ⟨h.lt⟩
  have c0 := h.cn
  have c1 := h.cm
  have n64 := h.n64
  have hr : (if X / 512 < n then (0 : Int) else 80) = 0 := if_pos hk
  have hkey := h.key _ hk
  have hmap := h.map
  have hwf : (Lit.int .i64 ((X : Int) / 512)).wf = true := WalkArith.wf_i64 (by omega)
  have HX := Lib.hid hX; have HR := Lib.hid hr
  have hm : LtW m W := ⟨h.fl _ h.fm⟩
  have HF := Lib.hid hf
  rw [hf] at hkey
  have HK := Lib.hid hkey
  have H := Lib.hid h
  clear hX hr h hf hkey
  go_enter Try.func26, Try.ntmps26
  go_wp2_with (first
    | (go_at_call 51; with_reducible refine (mthere_any _ b n n64 X HX.out c0 0 HR.out).mono ?_; rintro e w' ⟨rfl, x, rfl⟩)
    | (at_lookup; refine wpList_lookup_ptr _ rfl _ _ 117 rfl 3 116 keyI Try.underlying117 (zeroF _) m c D rfl (owns_below hmap (ext_below _ _)) _ _ rfl (keyOfI _ hwf) none HK.out ?_; simp only [ptrOf])
    | (at_mapUpdate; refine wpList_mapUpdate_own _ rfl _ _ _ 117 rfl 3 116 keyI Try.underlying117 ptrElem m c D rfl ((owns_below hmap (ext_below _ _)).alloc _) (by unfold maxLen; omega) _ _ _ rfl rfl (keyOfI _ hwf) (.lit (.int .i64 (((ext W x).heap.size : Nat) : Int))) [] rfl ?_; intro w1 hown1 hgrow1
       obtain ⟨hM, hC⟩ := mem_grow H.out (X / 512) hk HF.out _ w1 (ext_below W x) _ (by rw [Int.natCast_ediv]; rfl) hown1 hgrow1
       have hg := ext_size W x
       have c1' := hM.cm
       have hmap' := hM.map
       have hkey' := hM.key _ hk
       have hcw := hM.cw hk (updN_at _ _ _) (X % 512) (Nat.mod_lt _ (by decide))
       have hfz := hM.cf hk (updN_at _ _ _) (X % 512)
       rw [updN_at] at hkey'
       generalize (ext W x).heap.size = g at *
       have HM := Lib.hid hM; have HC := Lib.hid hC; have HK' := Lib.hid hkey'; clear hM hC hgrow1 hkey')
    | (at_lookup; refine wpList_lookup_ptr _ rfl _ _ 117 rfl 3 116 keyI Try.underlying117 (zeroF _) m (c + 1) _ rfl hmap' _ _ rfl (keyOfI _ hwf) (some g) HK'.out ?_; simp only [ptrOf]))
  go_ret
  have hgF : (fun i => F i ∨ i = g) g := .inr rfl
  refine ⟨rfl, _, _, _, mem_set HM.out X V hV hk g (updN_at _ _ _), HC.out.set g _ _ (.inr hg), fun i hi => ?_⟩
  rcases hi with hi | rfl
  · exact .inl hi
  · exact .inr hg

theorem mwrite_any (h : MemAt F W b n f c m D fr) (hc : c < 1000000) (X : Nat) (hX : X < 18446744073709551616) (V : Nat) (hV : V < 18446744073709551616) (hk : X / 512 < n) :
    Calls Try.prog 26 #[.pointer (some ⟨b, 0, none⟩), .int .u64 (X : Int), .int .u64 (V : Int)] W fun e w' => e = .returned (.int .i64 0) ∧
      ∃ F' D' fr', MemAt F' w' b n (updN f X V) (c + 1) m D' fr' ∧ Chg F W w' ∧ (∀ i, F' i → F i ∨ W.heap.size ≤ i) := by
  cases hf : fr (X / 512) with
  | none => exact mwrite_new h hc X hX V hV hk hf
  | some g =>
    refine (mwrite_old h X hX V hk g hf).mono ?_
    rintro e w' ⟨rfl, x, rfl⟩
    have hM := mem_set h X V hV hk g hf
    refine ⟨rfl, F, D, fr, ?_, ?_, fun i hi => .inl hi⟩
    · have := hM.below (ext_below _ x)
      exact { this with map := this.map.mono (Nat.le_succ _) }
    · exact ((Chg.refl F W).set g _ _ (.inl (h.ff _ g hk hf))).ext x
end

theorem mnew_any (n : Nat) (n1 : 1 ≤ n) (n64 : n ≤ 64) (W : World) :
    Calls Try.prog 47 #[.int .i64 (n : Int)] W fun e w' => ∃ b, e = .returned (.tuple #[.pointer (some ⟨b, 0, none⟩), .int .i64 0]) ∧
      ∃ F D m fr, MemAt F w' b n (fun _ => 0) 0 m D fr ∧ (∀ i, F i → W.heap.size ≤ i) ∧ ∃ x, w' = ext W x := by
  have hmm := @run_makeMap Try.prog
  go_enter Try.func47, Try.ntmps47
  go_wp2_with fail
  go_ret2
  refine ⟨_, rfl, fun i => i = W.heap.size ∨ i = W.heap.size + 1, .map [], W.heap.size, fun _ => none, ?_, ?_, up_to⟩
  · exact {
      blk := by
        have := heap_alloc_last (W.alloc (.map #[] 0)) (.cells #[.int .i64 (n : Int), .map (some W.heap.size)] 119 (0, 0))
        simpa using this
      map := (World.ownsMap_made W _ _ _).alloc _
      key := fun k hk => rfl
      row := fun k g hk hg => by cases hg
      non := fun _ _ _ _ _ => rfl
      sep := fun j k g _ _ hg => by cases hg
      fb := .inr rfl
      fm := .inl rfl
      ff := fun k g _ hg => by cases hg
      fl := fun i hi => by rcases hi with rfl | rfl <;> simp <;> omega
      n64 := n64
      val := fun _ => by decide }
  · rintro i (rfl | rfl) <;> omega
end Go.Proofs.Ytcjklghjnbhcdaa
