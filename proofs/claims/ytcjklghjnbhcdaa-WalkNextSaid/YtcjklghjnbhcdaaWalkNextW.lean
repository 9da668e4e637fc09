/- WalkNext walks to true. -/
import Derived.Test.YtcjklghjnbhcdaaWEq20
import Derived.Test.YtcjklghjnbhcdaaWWakes
namespace Go.Proofs.Ytcjklghjnbhcdaa
open Go.RowKit

set_option maxRecDepth 100000 in
set_option maxHeartbeats 2000000 in
theorem WalkNext_walk (o : Bool) (a p l f word : Int) (_ : (Lit.int .i64 a).wf = true) (wp : (Lit.int .u64 p).wf = true) (_ : (Lit.int .i8 l).wf = true) (_ : (Lit.int .i64 f).wf = true) (ww : (Lit.int .u64 word).wf = true) (w : World) :
    Calls Try.prog 5 #[.agg #[.bool o, .int .i64 a, .int .u64 p, .int .i8 l, .int .i64 f], .int .u64 word] w fun e w' => e = .returned (.bool true) ∧ ∃ x, w' = ext w x := by
  obtain ⟨p0, _⟩ := bd_u64 wp
  obtain ⟨x0, x1⟩ := bd_u64 ww
  obtain ⟨X, rfl⟩ : ∃ X : Nat, word = (X : Int) := ⟨word.toNat, by omega⟩
  obtain ⟨N, hN⟩ : ∃ N, nextC o a p l f X = N := ⟨_, rfl⟩
  obtain ⟨c, hc⟩ : ∃ c, chkW o a p l f = c := ⟨_, rfl⟩
  have Ns := nextC_size o a p l f X
  have No := nextC_one o a p l f X
  have NR := nextC_read o a p l f X
  rw [hN] at Ns No NR
  obtain ⟨b0, i1, i2, i3, i4, b5, i6, i7, i8, i9, b10, i11, i12, i13, b14, b15, i16, i17, b18, i19, n0, n1, n2, n3, n4, n5, n6, n7, n8, n9, n10, n11, n12, n13, n14, n15, n16, n17, n18, n19⟩ := NR.cells
  have HN := Lib.hid hN; have HC := Lib.hid hc; have H0 := Lib.hid p0; have HX := Lib.hid (show X < 18446744073709551616 by omega)
  clear hN hc p0 x0 x1 wp ww
  go_enter Try.func5, Try.ntmps5
  repeat (first
    | (go_at_call 20; with_reducible refine (next_any o a p l f H0.out X HX.out _).mono ?_
       rintro e w1 ⟨e1, z, h1⟩
       rw [HN.out, HC.out] at e1
       have U1 : Up w.heap.size w w1 := (by rw [h1]; exact ((Up.refl w).alloc _).ext _)
       have c0 : w1.cell? ⟨w.heap.size, 0, none⟩ = some (.bool o) := (by subst h1; simp [go_sem])
       have c1 : w1.cell? ⟨w.heap.size, 1, none⟩ = some (.int .i64 a) := (by subst h1; simp [go_sem])
       have c2 : w1.cell? ⟨w.heap.size, 2, none⟩ = some (.int .u64 p) := (by subst h1; simp [go_sem])
       have c3 : w1.cell? ⟨w.heap.size, 3, none⟩ = some (.int .i8 l) := (by subst h1; simp [go_sem])
       have c4 : w1.cell? ⟨w.heap.size, 4, none⟩ = some (.int .i64 f) := (by subst h1; simp [go_sem])
       have L1 : LtW w.heap.size w1 := (by subst h1; infer_instance)
       subst e1; clear h1; simp only [])
    | (go_at_call 21; with_reducible refine (rnext_any o a p l f H0.out X HX.out _).mono ?_
       rintro e w2 ⟨e1, z, h2⟩
       rw [HN.out, HC.out] at e1
       have U2 : Up w.heap.size w w2 := (by rw [h2]; exact (U1.alloc _).ext _)
       have L2 : LtW w1.heap.size w2 := (by subst h2; infer_instance)
       have R2 : RowW w1.heap.size w2 N 58 := (by subst h2; infer_instance)
       subst e1; clear h2; simp only [])
    | (go_at_call 13; with_reducible refine (wakes12 _).mono ?_; rintro e w' ⟨rfl, z, rfl⟩; simp only [])
    | (with_reducible refine at_op (.store 58 (.tmp 5) (.tmp 13)) rfl ?_; intro _; refine step_store20 58 (.tmp 5) (.tmp 13) rfl _ _ rfl rfl _ _ inferInstance (by kernel_rfl) rfl Ns No _ rfl ?_; simp only [setRow_new_tc, setRow_alloc_tc, setRow_drew_tc, setRow_ext])
    | (with_reducible refine at_op (.store 58 (.tmp 7) (.tmp 19)) rfl ?_; intro _; refine step_store20 58 (.tmp 7) (.tmp 19) rfl _ _ rfl rfl _ _ inferInstance (by kernel_rfl) rfl Ns No _ rfl ?_; simp only [setRow_new_tc, setRow_alloc_tc, setRow_drew_tc, setRow_ext])
    | (with_reducible refine at_op (.load 58 (.tmp 5)) rfl ?_; intro _; refine step_load20 58 (.tmp 5) rfl _ rfl _ _ inferInstance _ Try.underlying58 rfl (by kernel_rfl) Ns ?_)
    | (with_reducible refine at_op (.load 58 (.tmp 7)) rfl ?_; intro _; refine step_load20 58 (.tmp 7) rfl _ rfl _ _ inferInstance _ Try.underlying58 rfl (by kernel_rfl) Ns ?_)
    | go_values | go_skip | go_guarded | go_step | go_upon)
  go_ret
  exact ⟨rfl, ((U2.alloc _).ext _).to⟩
end Go.Proofs.Ytcjklghjnbhcdaa
