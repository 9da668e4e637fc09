/- The program's memory: frames of words behind a map. -/
import Derived.Test.YtcjklghjnbhcdaaWRowT
import Derived.Test.YtcjklghjnbhcdaaWChg
import Derived.Maps.Own
import Derived.Maps.OwnOps
import Derived.Maps.OwnSet
import Derived.Maps.Views
namespace Go.Proofs.Ytcjklghjnbhcdaa
open Go.RowKit
open Go.Maps (Keyed)

theorem keyI : Keyed Try.prog 3 := Maps.int_keyed Try.underlying3
theorem keyOfI (k : Int) (h : (Lit.int .i64 k).wf = true) : keyOf Try.prog 3 (.int .i64 k) = some (.int .i64 k) := Maps.keyOf_int_mk Try.underlying3 h
theorem zeroF (w : World) : (zeroValue 116).run Try.prog w = .ok (.pointer none) w := by kernel_rfl

/-- How a pointer among a map's elements reads. -/
def ptrElem (v : Value) : Option (DataW Unit × List MemPlace) :=
  match v with
  | .pointer none => some (.nil, [])
  | .pointer (some ⟨b, 0, none⟩) => some (.lit (.int .i64 (b : Int)), [])
  | _ => none
theorem ptrElem_nil {v : Value} {ps : List MemPlace} (h : ptrElem v = some (.nil, ps)) : v = .pointer none := by
  unfold ptrElem at h
  split at h
  · rfl
  · simp at h
  · cases h
theorem ptrElem_some {v : Value} {g : Nat} {ps : List MemPlace} (h : ptrElem v = some (.lit (.int .i64 (g : Int)), ps)) : v = .pointer (some ⟨g, 0, none⟩) := by
  unfold ptrElem at h
  split at h
  · simp at h
  · rename_i b
    simp at h
    obtain ⟨h, _⟩ := h
    have : b = g := by omega
    rw [this]
  · cases h

def ptrOf (r : Option Nat) : Value := match r with | none => .pointer none | some g => .pointer (some ⟨g, 0, none⟩)
def litOf (r : Option Nat) : DataW Unit := match r with | none => .nil | some g => .lit (.int .i64 (g : Int))
theorem ptrElem_lit {v : Value} {r : Option Nat} {ps : List MemPlace} (h : ptrElem v = some (litOf r, ps)) : v = ptrOf r := by
  cases r with
  | none => exact ptrElem_nil h
  | some g => exact ptrElem_some h
/-- A look-up of a pointer in a map. -/
theorem wpList_lookup_ptr {P : Program} (w : World) {ops : Array Oper} {rest : List Oper} {o : Oper} {a : Act} {Q : Exit → Act → World → Prop}
    (hg : o.guard = none) (m x : Operand) (t : TypeId) (hop : o.op = Op.lookup t m x false)
    (k e : TypeId) (K : Keyed P k) (ht : P.underlying t = some (.map k e)) (hz : (zeroValue e).run P w = .ok (.pointer none) w) (b n : Nat) (D : DataW Unit)
    (hm : a.eval m = .map (some b)) (hown : w.ownsMap P k ptrElem b n D) (key : Value) (kl : Lit) (hx : a.eval x = key) (hkey : keyOf P k key = some kl) (r : Option Nat)
    (hr : D.atKey kl .nil = litOf r) (hK : wpList P ops Q rest (a.put o.dst (ptrOf r)) w) :
    wpList P ops Q (o :: rest) a w := by
  refine wpList_plain hg fun K' hK' => ?_
  obtain ⟨v, ps, hrun, hat⟩ := hown.lookup K ht hz (zd := .nil) (zp := []) rfl hkey
  rw [hr] at hat
  have hv := ptrElem_lit hat
  unfold Oper.wp
  simp [execOp, hop, hm, hx, hrun, Result.andThen]
  exact hK' _ _ (hv ▸ hK)

theorem owns_below {P : Program} {k : TypeId} {R : Value → Option (DataW Unit × List MemPlace)} {w w' : World} {b n : Nat} {D : DataW Unit} (h : w.ownsMap P k R b n D) (hB : Below w.heap.size w w') : w'.ownsMap P k R b n D := by
  obtain ⟨es, clock, hb, r⟩ := h
  exact ⟨es, clock, (hB.block b (Array.getElem?_eq_some_iff.1 hb).1).trans hb, r⟩

/-- The memory at block b: n frames, word k holds f k; its blocks are among F. -/
structure MemAt (F : Nat → Prop) (W : World) (b n : Nat) (f : Nat → Nat) (c m : Nat) (D : DataW Unit) (fr : Nat → Option Nat) : Prop where
  blk : W.heap[b]? = some (.cells #[.int .i64 (n : Int), .map (some m)] 119 (0, 0))
  map : W.ownsMap Try.prog 3 ptrElem m c D
  key : ∀ k, k < n → D.atKey (.int .i64 (k : Int)) .nil = litOf (fr k)
  row : ∀ k g, k < n → fr k = some g → ∃ cs : Array Value, W.heap[g]? = some (.cells cs 121 (0, 0)) ∧ cs.size = 512 ∧ ∀ i, i < 512 → cs[i]? = some (.int .u64 ((f (k * 512 + i) : Nat) : Int))
  non : ∀ k i, k < n → fr k = none → i < 512 → f (k * 512 + i) = 0
  sep : ∀ j k g, j < n → k < n → fr j = some g → fr k = some g → j = k
  fb : F b
  fm : F m
  ff : ∀ k g, k < n → fr k = some g → F g
  fl : ∀ i, F i → i < W.heap.size
  n64 : n ≤ 64
  val : ∀ k, f k < 18446744073709551616

section
variable {F : Nat → Prop} {W : World} {b n c m : Nat} {f : Nat → Nat} {D : DataW Unit} {fr : Nat → Option Nat}
theorem MemAt.chg {G : Nat → Prop} {W' : World} (h : MemAt F W b n f c m D fr) (hC : Chg G W W') (hG : ∀ b, G b → ¬ F b) : MemAt F W' b n f c m D fr :=
  { h with
    blk := (hC.block b (h.fl _ h.fb) (fun hg => hG b hg h.fb)).trans h.blk
    map := by
      obtain ⟨es, clock, hb, r⟩ := h.map
      exact ⟨es, clock, (hC.block m (h.fl _ h.fm) (fun hg => hG m hg h.fm)).trans hb, r⟩
    row := fun k g hk hg => by
      obtain ⟨cs, h1, h2, h3⟩ := h.row k g hk hg
      exact ⟨cs, (hC.block g (h.fl _ (h.ff k g hk hg)) (fun hg' => hG g hg' (h.ff k g hk hg))).trans h1, h2, h3⟩
    fl := fun i hi => Nat.lt_of_lt_of_le (h.fl i hi) hC.size }
theorem MemAt.below {W' : World} (h : MemAt F W b n f c m D fr) (hB : Below W.heap.size W W') : MemAt F W' b n f c m D fr := h.chg (G := fun _ => False) (Chg.of_below hB) (fun _ h => h.elim)
theorem MemAt.cn (h : MemAt F W b n f c m D fr) : W.cell? ⟨b, 0, none⟩ = some (.int .i64 (n : Int)) := by simp [World.cell?, h.blk]
theorem MemAt.cm (h : MemAt F W b n f c m D fr) : W.cell? ⟨b, 1, none⟩ = some (.map (some m)) := by simp [World.cell?, h.blk]
theorem MemAt.cw (h : MemAt F W b n f c m D fr) {k g : Nat} (hk : k < n) (hg : fr k = some g) (i : Nat) (hi : i < 512) : W.cell? ⟨g, i, none⟩ = some (.int .u64 ((f (k * 512 + i) : Nat) : Int)) := by
  obtain ⟨cs, h1, h2, h3⟩ := h.row k g hk hg
  simp only [World.cell?, h1]
  simpa using h3 i hi
theorem MemAt.cf (h : MemAt F W b n f c m D fr) {k g : Nat} (hk : k < n) (hg : fr k = some g) (i : Nat) : W.frozen? ⟨g, i, none⟩ = false := by
  obtain ⟨cs, h1, h2, h3⟩ := h.row k g hk hg
  simp [World.frozen?, h1]
theorem MemAt.lt (h : MemAt F W b n f c m D fr) : b < W.heap.size := h.fl _ h.fb
end

theorem mthere_any (W : World) (b n : Nat) (hn : n ≤ 64) (X : Nat) (hX : X < 18446744073709551616) [LtW b W] (h0 : W.cell? ⟨b, 0, none⟩ = some (.int .i64 (n : Int))) (r : Int) (hr : (if X / 512 < n then (0 : Int) else 80) = r) :
    Calls Try.prog 51 #[.pointer (some ⟨b, 0, none⟩), .int .u64 (X : Int)] W fun e w' => e = .returned (.int .i64 r) ∧ ∃ x, w' = ext W x := by
  go_enter Try.func51, Try.ntmps51
  go_wp2
  · rename_i h
    rw [if_neg (by omega)] at hr
    subst hr
    go_ret
    exact ⟨rfl, up_to⟩
  · rename_i h
    rw [if_pos (by omega)] at hr
    subst hr
    go_ret
    exact ⟨rfl, up_to⟩

theorem mread_bad {F : Nat → Prop} {W : World} {b n c m : Nat} {f : Nat → Nat} {D : DataW Unit} {fr : Nat → Option Nat} (h : MemAt F W b n f c m D fr) (X : Nat) (hX : X < 18446744073709551616) (hk : n ≤ X / 512) :
    Calls Try.prog 25 #[.pointer (some ⟨b, 0, none⟩), .int .u64 (X : Int)] W fun e w' => e = .returned (.tuple #[.int .u64 0, .int .i64 80]) ∧ ∃ x, w' = ext W x := by
  have hb : LtW b W := ⟨h.lt⟩
  have c0 := h.cn
  have n64 := h.n64
  have hr : (if X / 512 < n then (0 : Int) else 80) = 80 := if_neg (by omega)
  have HX := Lib.hid hX; have HR := Lib.hid hr
  clear hX hr h hk
  go_enter Try.func25, Try.ntmps25
  go_wp2_with (go_at_call 51; with_reducible refine (mthere_any _ b n n64 X HX.out c0 80 HR.out).mono ?_; rintro e w' ⟨rfl, x, rfl⟩)
  go_ret2
  exact ⟨rfl, up_to⟩

theorem mread_any {F : Nat → Prop} {W : World} {b n c m : Nat} {f : Nat → Nat} {D : DataW Unit} {fr : Nat → Option Nat} (h : MemAt F W b n f c m D fr) (X : Nat) (hX : X < 18446744073709551616) (hk : X / 512 < n) :
    Calls Try.prog 25 #[.pointer (some ⟨b, 0, none⟩), .int .u64 (X : Int)] W fun e w' => e = .returned (.tuple #[.int .u64 (f X : Int), .int .i64 0]) ∧ ∃ x, w' = ext W x := by
  have hb : LtW b W := ⟨h.lt⟩
  have c0 := h.cn
  have c1 := h.cm
  have n64 := h.n64
  have hr : (if X / 512 < n then (0 : Int) else 80) = 0 := if_pos hk
  have hkey := h.key _ hk
  have hmap := h.map
  have hwf : (Lit.int .i64 ((X : Int) / 512)).wf = true := WalkArith.wf_i64 (by omega)
  have HX := Lib.hid hX; have HR := Lib.hid hr
  have hm : LtW m W := ⟨h.fl _ h.fm⟩
  cases hf : fr (X / 512) with
  | none =>
    have hv := h.non _ (X % 512) hk hf (Nat.mod_lt _ (by decide))
    rw [hf] at hkey
    rw [show X / 512 * 512 + X % 512 = X by omega] at hv
    rw [hv]
    have HK := Lib.hid hkey
    clear hX hr h hf hv hkey
    go_enter Try.func25, Try.ntmps25
    go_wp2_with (first
      | (go_at_call 51; with_reducible refine (mthere_any _ b n n64 X HX.out c0 0 HR.out).mono ?_; rintro e w' ⟨rfl, x, rfl⟩)
      | (at_lookup; refine wpList_lookup_ptr _ rfl _ _ 117 rfl 3 116 keyI Try.underlying117 (zeroF _) m c D rfl (owns_below hmap (ext_below _ _)) _ _ rfl (keyOfI _ hwf) none HK.out ?_; simp only [ptrOf]))
    go_ret2
    exact ⟨rfl, up_to⟩
  | some g =>
    have hv := h.cw hk hf (X % 512) (Nat.mod_lt _ (by decide))
    rw [show X / 512 * 512 + X % 512 = X by omega] at hv
    rw [hf] at hkey
    have HK := Lib.hid hkey
    have hgl : LtW g W := ⟨h.fl _ (h.ff _ g hk hf)⟩
    clear hX hr h hf hkey
    go_enter Try.func25, Try.ntmps25
    go_wp2_with (first
      | (go_at_call 51; with_reducible refine (mthere_any _ b n n64 X HX.out c0 0 HR.out).mono ?_; rintro e w' ⟨rfl, x, rfl⟩)
      | (at_lookup; refine wpList_lookup_ptr _ rfl _ _ 117 rfl 3 116 keyI Try.underlying117 (zeroF _) m c D rfl (owns_below hmap (ext_below _ _)) _ _ rfl (keyOfI _ hwf) (some g) HK.out ?_; simp only [ptrOf]))
    go_ret2
    exact ⟨rfl, up_to⟩
end Go.Proofs.Ytcjklghjnbhcdaa
