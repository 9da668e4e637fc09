/- Next of the document: no walk, a miss. Next of the document: no walk, a miss. Next of the document: no walk, a miss. Next of the document: no walk, a miss. Next of the document: no walk, a miss. Next of the document: no walk, a miss. -/
import Derived.Test.YtcjklghjnbhcdaaWWalk
import Derived.Test.YtcjklghjnbhcdaaWNextA
import Derived.Test.YtcjklghjnbhcdaaWRef03b
import Derived.Test.YtcjklghjnbhcdaaWRef03c
import Derived.Test.YtcjklghjnbhcdaaWRowS
namespace Go.Proofs.Ytcjklghjnbhcdaa
open Go.RowKit

set_option maxRecDepth 20000 in
set_option maxHeartbeats 1000000 in
theorem rnext_bad (o : Bool) (a p l f : Int) (X : Nat) (hc : chkW o a p l f = 2) (w : World) :
    Calls Try.prog 21 #[.agg #[.bool o, .int .i64 a, .int .u64 p, .int .i8 l, .int .i64 f], .int .u64 (X : Int)] w fun e w' => e = .returned (.tuple #[.agg #[.bool false, .int .i64 0, .int .u64 0, .int .i8 0, .int .i64 0, .bool false, .int .i64 0, .int .i8 0, .int .u64 0, .int .i64 0, .bool false, .int .i64 0, .int .u64 0, .int .i64 0, .bool false, .bool false, .int .u64 0, .int .i8 0, .bool false, .int .u64 0], .int .i64 2]) ∧ ∃ x, w' = ext w x := by
  have HC := Lib.hid hc; clear hc
  go_enter Try.func21, Try.ntmps21
  repeat (first
    | (go_at_call 19; with_reducible refine (rwcheck_any o a p l f _ 2 HC.out).mono ?_; rintro e w' ⟨rfl, z, rfl⟩; simp only [])
    | (with_reducible refine at_op (.build 58 #[]) rfl ?_; intro _; refine step_build 58 #[] rfl #[.bool false, .int .i64 0, .int .u64 0, .int .i8 0, .int .i64 0, .bool false, .int .i64 0, .int .i8 0, .int .u64 0, .int .i64 0, .bool false, .int .i64 0, .int .u64 0, .int .i64 0, .bool false, .bool false, .int .u64 0, .int .i8 0, .bool false, .int .u64 0] (by kernel_rfl) ?_)
    | (with_reducible refine at_op (.store 58 (.tmp 4) (.tmp 16)) rfl ?_; intro _; refine step_store20 58 (.tmp 4) (.tmp 16) rfl _ _ rfl rfl _ _ inferInstance (by kernel_rfl) rfl rfl (by simp [Value.oneCell']) _ rfl ?_; simp only [setRow_new_tc, setRow_alloc_tc, setRow_drew_tc, setRow_ext])
    | go_values | go_skip | go_guarded | go_step | go_upon)
  refine bodyPost_ret (v := .tuple #[.agg #[.bool false, .int .i64 0, .int .u64 0, .int .i8 0, .int .i64 0, .bool false, .int .i64 0, .int .i8 0, .int .u64 0, .int .i64 0, .bool false, .int .i64 0, .int .u64 0, .int .i64 0, .bool false, .bool false, .int .u64 0, .int .i8 0, .bool false, .int .u64 0], .int .i64 2]) ?_ ?_ ?_
  · exact results20_tmp rfl _ _ _ _ _ _ rfl inferInstance Try.underlying58 rfl (by kernel_rfl) rfl _ rfl
  · rfl
  · exact ⟨rfl, up_to⟩
end Go.Proofs.Ytcjklghjnbhcdaa

namespace Go.Proofs.Ytcjklghjnbhcdaa
open Go.RowKit

set_option maxRecDepth 20000 in
set_option maxHeartbeats 1000000 in
theorem rnext_miss0 (o : Bool) (a p l f : Int) (l0 : 0 ≤ l) (l3 : l ≤ 3) (X : Nat) (hX : X < 18446744073709551616) (hc : chkW o a p l f = 0) (hd : decD X l = d0) (he : decE X l = 0) (w : World) :
    Calls Try.prog 21 #[.agg #[.bool o, .int .i64 a, .int .u64 p, .int .i8 l, .int .i64 f], .int .u64 (X : Int)] w fun e w' => e = .returned (.tuple #[.agg #[.bool false, .int .i64 0, .int .u64 0, .int .i8 0, .int .i64 0, .bool false, .int .i64 0, .int .i8 0, .int .u64 0, .int .i64 0, .bool false, .int .i64 0, .int .u64 0, .int .i64 0, .bool false, .bool true, .int .u64 p, .int .i8 l, .bool false, .int .u64 0], .int .i64 0]) ∧ ∃ x, w' = ext w x := by
  have HC := Lib.hid hc; have HD := Lib.hid hd; have HE := Lib.hid he; have HX := Lib.hid hX; clear hc hd he hX
  go_enter Try.func21, Try.ntmps21
  repeat (first
    | (go_at_call 19; with_reducible refine (rwcheck_any o a p l f _ 0 HC.out).mono ?_; rintro e w' ⟨rfl, z, rfl⟩; simp only [])
    | (go_at_call 44; with_reducible refine (rdecode_any X HX.out l _ _ HD.out 0 HE.out).mono ?_; rintro e w' ⟨rfl, z, rfl⟩; simp only [])
    | (with_reducible refine at_op (.build 58 #[]) rfl ?_; intro _; refine step_build 58 #[] rfl #[.bool false, .int .i64 0, .int .u64 0, .int .i8 0, .int .i64 0, .bool false, .int .i64 0, .int .i8 0, .int .u64 0, .int .i64 0, .bool false, .int .i64 0, .int .u64 0, .int .i64 0, .bool false, .bool false, .int .u64 0, .int .i8 0, .bool false, .int .u64 0] (by kernel_rfl) ?_)
    | (with_reducible refine at_op (.store 58 (.tmp 6) (.tmp 17)) rfl ?_; intro _; refine step_store20 58 (.tmp 6) (.tmp 17) rfl _ _ rfl rfl _ _ inferInstance (by kernel_rfl) rfl rfl (by simp [Value.oneCell']) _ rfl ?_; simp only [setRow_new_tc, setRow_alloc_tc, setRow_drew_tc, setRow_ext])
    | (with_reducible refine at_op (.load 58 (.tmp 6)) rfl ?_; intro _; refine step_load20 58 (.tmp 6) rfl _ rfl _ _ inferInstance _ Try.underlying58 rfl (by kernel_rfl) rfl ?_)
    | (with_reducible refine at_op (.store 58 (.tmp 4) (.tmp 105)) rfl ?_; intro _; refine step_store20 58 (.tmp 4) (.tmp 105) rfl _ _ rfl rfl _ _ inferInstance (by kernel_rfl) rfl rfl (by simp [Value.oneCell']) _ rfl ?_; simp only [setRow_new_tc, setRow_alloc_tc, setRow_drew_tc, setRow_ext])
    | go_values | go_skip | go_guarded | go_step | go_upon)
  refine bodyPost_ret (v := .tuple #[.agg #[.bool false, .int .i64 0, .int .u64 0, .int .i8 0, .int .i64 0, .bool false, .int .i64 0, .int .i8 0, .int .u64 0, .int .i64 0, .bool false, .int .i64 0, .int .u64 0, .int .i64 0, .bool false, .bool true, .int .u64 p, .int .i8 l, .bool false, .int .u64 0], .int .i64 0]) ?_ ?_ ?_
  · exact results20_tmp rfl _ _ _ _ _ _ rfl inferInstance Try.underlying58 rfl (by kernel_rfl) rfl _ rfl
  · rfl
  · exact ⟨rfl, up_to⟩
end Go.Proofs.Ytcjklghjnbhcdaa

namespace Go.Proofs.Ytcjklghjnbhcdaa
open Go.RowKit

set_option maxRecDepth 20000 in
set_option maxHeartbeats 1000000 in
theorem rnext_miss30 (o : Bool) (a p l f : Int) (l0 : 0 ≤ l) (l3 : l ≤ 3) (X : Nat) (hX : X < 18446744073709551616) (hc : chkW o a p l f = 0) (hd : decD X l = d0) (he : decE X l = 30) (w : World) :
    Calls Try.prog 21 #[.agg #[.bool o, .int .i64 a, .int .u64 p, .int .i8 l, .int .i64 f], .int .u64 (X : Int)] w fun e w' => e = .returned (.tuple #[.agg #[.bool false, .int .i64 0, .int .u64 0, .int .i8 0, .int .i64 0, .bool false, .int .i64 0, .int .i8 0, .int .u64 0, .int .i64 0, .bool false, .int .i64 0, .int .u64 0, .int .i64 0, .bool false, .bool true, .int .u64 p, .int .i8 l, .bool false, .int .u64 0], .int .i64 0]) ∧ ∃ x, w' = ext w x := by
  have HC := Lib.hid hc; have HD := Lib.hid hd; have HE := Lib.hid he; have HX := Lib.hid hX; clear hc hd he hX
  go_enter Try.func21, Try.ntmps21
  repeat (first
    | (go_at_call 19; with_reducible refine (rwcheck_any o a p l f _ 0 HC.out).mono ?_; rintro e w' ⟨rfl, z, rfl⟩; simp only [])
    | (go_at_call 44; with_reducible refine (rdecode_any X HX.out l _ _ HD.out 30 HE.out).mono ?_; rintro e w' ⟨rfl, z, rfl⟩; simp only [])
    | (with_reducible refine at_op (.build 58 #[]) rfl ?_; intro _; refine step_build 58 #[] rfl #[.bool false, .int .i64 0, .int .u64 0, .int .i8 0, .int .i64 0, .bool false, .int .i64 0, .int .i8 0, .int .u64 0, .int .i64 0, .bool false, .int .i64 0, .int .u64 0, .int .i64 0, .bool false, .bool false, .int .u64 0, .int .i8 0, .bool false, .int .u64 0] (by kernel_rfl) ?_)
    | (with_reducible refine at_op (.store 58 (.tmp 6) (.tmp 17)) rfl ?_; intro _; refine step_store20 58 (.tmp 6) (.tmp 17) rfl _ _ rfl rfl _ _ inferInstance (by kernel_rfl) rfl rfl (by simp [Value.oneCell']) _ rfl ?_; simp only [setRow_new_tc, setRow_alloc_tc, setRow_drew_tc, setRow_ext])
    | (with_reducible refine at_op (.load 58 (.tmp 6)) rfl ?_; intro _; refine step_load20 58 (.tmp 6) rfl _ rfl _ _ inferInstance _ Try.underlying58 rfl (by kernel_rfl) rfl ?_)
    | (with_reducible refine at_op (.store 58 (.tmp 4) (.tmp 105)) rfl ?_; intro _; refine step_store20 58 (.tmp 4) (.tmp 105) rfl _ _ rfl rfl _ _ inferInstance (by kernel_rfl) rfl rfl (by simp [Value.oneCell']) _ rfl ?_; simp only [setRow_new_tc, setRow_alloc_tc, setRow_drew_tc, setRow_ext])
    | go_values | go_skip | go_guarded | go_step | go_upon)
  refine bodyPost_ret (v := .tuple #[.agg #[.bool false, .int .i64 0, .int .u64 0, .int .i8 0, .int .i64 0, .bool false, .int .i64 0, .int .i8 0, .int .u64 0, .int .i64 0, .bool false, .int .i64 0, .int .u64 0, .int .i64 0, .bool false, .bool true, .int .u64 p, .int .i8 l, .bool false, .int .u64 0], .int .i64 0]) ?_ ?_ ?_
  · exact results20_tmp rfl _ _ _ _ _ _ rfl inferInstance Try.underlying58 rfl (by kernel_rfl) rfl _ rfl
  · rfl
  · exact ⟨rfl, up_to⟩
end Go.Proofs.Ytcjklghjnbhcdaa

namespace Go.Proofs.Ytcjklghjnbhcdaa
open Go.RowKit

set_option maxRecDepth 20000 in
set_option maxHeartbeats 1000000 in
theorem rnext_found_no (o : Bool) (a p f : Int) (X : Nat) (hX : X < 18446744073709551616) (hc : chkW o a p 3 f = 0) (fr : Int) (b1 b2 b4 : Bool) (hd : decD X 3 = ⟨2, fr, b1, b2, false, b4⟩) (he : decE X 3 = 0) (w : World) :
    Calls Try.prog 21 #[.agg #[.bool o, .int .i64 a, .int .u64 p, .int .i8 3, .int .i64 f], .int .u64 (X : Int)] w fun e w' => e = .returned (.tuple #[.agg #[.bool false, .int .i64 0, .int .u64 0, .int .i8 0, .int .i64 0, .bool false, .int .i64 0, .int .i8 0, .int .u64 0, .int .i64 0, .bool false, .int .i64 0, .int .u64 0, .int .i64 0, .bool false, .bool true, .int .u64 p, .int .i8 3, .bool false, .int .u64 0], .int .i64 0]) ∧ ∃ x, w' = ext w x := by
  have HC := Lib.hid hc; have HD := Lib.hid hd; have HE := Lib.hid he; have HX := Lib.hid hX; clear hc hd he hX
  go_enter Try.func21, Try.ntmps21
  repeat (first
    | (go_at_call 19; with_reducible refine (rwcheck_any o a p 3 f _ 0 HC.out).mono ?_; rintro e w' ⟨rfl, z, rfl⟩; simp only [])
    | (go_at_call 44; with_reducible refine (rdecode_any X HX.out 3 _ _ HD.out 0 HE.out).mono ?_; rintro e w' ⟨rfl, z, rfl⟩; simp only [])
    | (with_reducible refine at_op (.build 58 #[]) rfl ?_; intro _; refine step_build 58 #[] rfl #[.bool false, .int .i64 0, .int .u64 0, .int .i8 0, .int .i64 0, .bool false, .int .i64 0, .int .i8 0, .int .u64 0, .int .i64 0, .bool false, .int .i64 0, .int .u64 0, .int .i64 0, .bool false, .bool false, .int .u64 0, .int .i8 0, .bool false, .int .u64 0] (by kernel_rfl) ?_)
    | (with_reducible refine at_op (.store 58 (.tmp 6) (.tmp 17)) rfl ?_; intro _; refine step_store20 58 (.tmp 6) (.tmp 17) rfl _ _ rfl rfl _ _ inferInstance (by kernel_rfl) rfl rfl (by simp [Value.oneCell']) _ rfl ?_; simp only [setRow_new_tc, setRow_alloc_tc, setRow_drew_tc, setRow_ext])
    | (with_reducible refine at_op (.load 58 (.tmp 6)) rfl ?_; intro _; refine step_load20 58 (.tmp 6) rfl _ rfl _ _ inferInstance _ Try.underlying58 rfl (by kernel_rfl) rfl ?_)
    | (with_reducible refine at_op (.store 58 (.tmp 4) (.tmp 105)) rfl ?_; intro _; refine step_store20 58 (.tmp 4) (.tmp 105) rfl _ _ rfl rfl _ _ inferInstance (by kernel_rfl) rfl rfl (by simp [Value.oneCell']) _ rfl ?_; simp only [setRow_new_tc, setRow_alloc_tc, setRow_drew_tc, setRow_ext])
    | go_values | go_skip | go_guarded | go_step | go_upon)
  refine bodyPost_ret (v := .tuple #[.agg #[.bool false, .int .i64 0, .int .u64 0, .int .i8 0, .int .i64 0, .bool false, .int .i64 0, .int .i8 0, .int .u64 0, .int .i64 0, .bool false, .int .i64 0, .int .u64 0, .int .i64 0, .bool false, .bool true, .int .u64 p, .int .i8 3, .bool false, .int .u64 0], .int .i64 0]) ?_ ?_ ?_
  · exact results20_tmp rfl _ _ _ _ _ _ rfl inferInstance Try.underlying58 rfl (by kernel_rfl) rfl _ rfl
  · rfl
  · exact ⟨rfl, up_to⟩
end Go.Proofs.Ytcjklghjnbhcdaa

namespace Go.Proofs.Ytcjklghjnbhcdaa
open Go.RowKit

set_option maxRecDepth 20000 in
set_option maxHeartbeats 1000000 in
theorem rnext_found_y0 (o : Bool) (a p f : Int) (X : Nat) (hX : X < 18446744073709551616) (hc : chkW o a p 3 f = 0) (fr : Int) (b1 b2 b4 : Bool) (hd : decD X 3 = ⟨2, fr, b1, b2, true, b4⟩) (he : decE X 3 = 0) (hb : touchB X = false) (w : World) :
    Calls Try.prog 21 #[.agg #[.bool o, .int .i64 a, .int .u64 p, .int .i8 3, .int .i64 f], .int .u64 (X : Int)] w fun e w' => e = .returned (.tuple #[.agg #[.bool false, .int .i64 0, .int .u64 0, .int .i8 0, .int .i64 0, .bool false, .int .i64 0, .int .i8 0, .int .u64 0, .int .i64 0, .bool true, .int .i64 a, .int .u64 p, .int .i64 fr, .bool b2, .bool false, .int .u64 0, .int .i8 0, .bool false, .int .u64 0], .int .i64 0]) ∧ ∃ x, w' = ext w x := by
  obtain ⟨v, hv⟩ : ∃ v, touchV X = v := ⟨_, rfl⟩
  have HC := Lib.hid hc; have HD := Lib.hid hd; have HE := Lib.hid he; have HX := Lib.hid hX; have HT := Lib.hid hb; have HV := Lib.hid hv; clear hc hd he hX hb hv
  go_enter Try.func21, Try.ntmps21
  repeat (first
    | (go_at_call 19; with_reducible refine (rwcheck_any o a p 3 f _ 0 HC.out).mono ?_; rintro e w1 ⟨rfl, z1, h1⟩; have U1 : Up w.heap.size w w1 := (by subst h1; exact ((((Up.refl w).alloc _).alloc _).ext _)); have L2 : LtW w.heap.size w1 := (by subst h1; infer_instance); have L4 : LtW (w.heap.size + 1) w1 := (by subst h1; infer_instance); have R4 : RowW (w.heap.size + 1) w1 #[.bool false, .int .i64 0, .int .u64 0, .int .i8 0, .int .i64 0, .bool false, .int .i64 0, .int .i8 0, .int .u64 0, .int .i64 0, .bool false, .int .i64 0, .int .u64 0, .int .i64 0, .bool false, .bool false, .int .u64 0, .int .i8 0, .bool false, .int .u64 0] 58 := (by subst h1; infer_instance); have c0 : w1.cell? ⟨w.heap.size, 0, none⟩ = some (.bool o) := (by subst h1; simp [go_sem]); have c1 : w1.cell? ⟨w.heap.size, 1, none⟩ = some (.int .i64 a) := (by subst h1; simp [go_sem]); have c2 : w1.cell? ⟨w.heap.size, 2, none⟩ = some (.int .u64 p) := (by subst h1; simp [go_sem]); have c3 : w1.cell? ⟨w.heap.size, 3, none⟩ = some (.int .i8 3) := (by subst h1; simp [go_sem]); have c4 : w1.cell? ⟨w.heap.size, 4, none⟩ = some (.int .i64 f) := (by subst h1; simp [go_sem]); clear h1; simp only [])
    | (go_at_call 44; with_reducible refine (rdecode_any X HX.out 3 _ _ HD.out 0 HE.out).mono ?_; rintro e w2 ⟨rfl, z2, h2⟩; have U2 : Up w.heap.size w w2 := (by subst h2; exact (U1.alloc _).ext _); have M2 : LtW w.heap.size w2 := (by subst h2; infer_instance); have M4 : LtW (w.heap.size + 1) w2 := (by subst h2; infer_instance); have M6 : LtW w1.heap.size w2 := (by subst h2; infer_instance); have S4 : RowW (w.heap.size + 1) w2 #[.bool false, .int .i64 0, .int .u64 0, .int .i8 0, .int .i64 0, .bool false, .int .i64 0, .int .i8 0, .int .u64 0, .int .i64 0, .bool false, .int .i64 0, .int .u64 0, .int .i64 0, .bool false, .bool false, .int .u64 0, .int .i8 0, .bool false, .int .u64 0] 58 := (by subst h2; infer_instance); have S6 : RowW w1.heap.size w2 #[.bool false, .int .i64 0, .int .u64 0, .int .i8 0, .int .i64 0, .bool false, .int .i64 0, .int .i8 0, .int .u64 0, .int .i64 0, .bool false, .int .i64 0, .int .u64 0, .int .i64 0, .bool false, .bool false, .int .u64 0, .int .i8 0, .bool false, .int .u64 0] 58 := (by subst h2; infer_instance); have N46 : NeW (w.heap.size + 1) w1.heap.size := ⟨Nat.ne_of_lt L4.lt⟩; have d0 : w2.cell? ⟨w.heap.size, 0, none⟩ = some (.bool o) := (by subst h2; simp [go_sem, c0]); have d1 : w2.cell? ⟨w.heap.size, 1, none⟩ = some (.int .i64 a) := (by subst h2; simp [go_sem, c1]); have d2 : w2.cell? ⟨w.heap.size, 2, none⟩ = some (.int .u64 p) := (by subst h2; simp [go_sem, c2]); have d3 : w2.cell? ⟨w.heap.size, 3, none⟩ = some (.int .i8 3) := (by subst h2; simp [go_sem, c3]); have d4 : w2.cell? ⟨w.heap.size, 4, none⟩ = some (.int .i64 f) := (by subst h2; simp [go_sem, c4]); clear h2; simp only [])
    | (go_at_call 46; with_reducible refine (rtouch_any X HX.out _ v HV.out false HT.out).mono ?_; rintro e w' ⟨rfl, z, rfl⟩; simp only [])
    | (with_reducible refine at_op (.build 58 #[]) rfl ?_; intro _; refine step_build 58 #[] rfl #[.bool false, .int .i64 0, .int .u64 0, .int .i8 0, .int .i64 0, .bool false, .int .i64 0, .int .i8 0, .int .u64 0, .int .i64 0, .bool false, .int .i64 0, .int .u64 0, .int .i64 0, .bool false, .bool false, .int .u64 0, .int .i8 0, .bool false, .int .u64 0] (by kernel_rfl) ?_)
    | (with_reducible refine at_op (.store 58 (.tmp 6) (.tmp 17)) rfl ?_; intro _; refine step_store20 58 (.tmp 6) (.tmp 17) rfl _ _ rfl rfl _ _ inferInstance (by kernel_rfl) rfl rfl (by first | (simp [Value.oneCell']; done) | kernel_rfl) _ rfl ?_; simp only [setRow_new_tc, setRow_alloc_tc, setRow_drew_tc, setRow_ext])
    | (with_reducible refine at_op (.load 58 (.tmp 6)) rfl ?_; intro _; refine step_load20 58 (.tmp 6) rfl _ rfl _ _ inferInstance _ Try.underlying58 rfl (by kernel_rfl) rfl ?_)
    | (with_reducible refine at_op (.store 58 (.tmp 4) (.tmp 98)) rfl ?_; intro _; refine step_store20 58 (.tmp 4) (.tmp 98) rfl _ _ rfl rfl _ _ inferInstance (by kernel_rfl) rfl rfl (by first | (simp [Value.oneCell']; done) | kernel_rfl) _ rfl ?_; simp only [setRow_new_tc, setRow_alloc_tc, setRow_drew_tc, setRow_ext])
    | go_values | go_skip | go_guarded | go_step | go_upon)
  refine bodyPost_ret (v := .tuple #[.agg #[.bool false, .int .i64 0, .int .u64 0, .int .i8 0, .int .i64 0, .bool false, .int .i64 0, .int .i8 0, .int .u64 0, .int .i64 0, .bool true, .int .i64 a, .int .u64 p, .int .i64 fr, .bool b2, .bool false, .int .u64 0, .int .i8 0, .bool false, .int .u64 0], .int .i64 0]) ?_ ?_ ?_
  · exact results20_tmp rfl _ _ _ _ _ _ rfl inferInstance Try.underlying58 rfl (by kernel_rfl) rfl _ rfl
  · rfl
  · exact ⟨rfl, up_to (h := by (repeat (first | with_reducible exact U2 | with_reducible apply Up.drew | with_reducible apply Up.alloc | with_reducible apply Up.ext | with_reducible refine Up.setCell _ _ _ U1.le ?_ | with_reducible refine Up.setRow _ _ (Nat.le_succ _) ?_)))⟩
end Go.Proofs.Ytcjklghjnbhcdaa

namespace Go.Proofs.Ytcjklghjnbhcdaa
open Go.RowKit

set_option maxRecDepth 20000 in
set_option maxHeartbeats 1000000 in
theorem rnext_found_y1 (o : Bool) (a p f : Int) (X : Nat) (hX : X < 18446744073709551616) (hc : chkW o a p 3 f = 0) (fr : Int) (b1 b2 b4 : Bool) (hd : decD X 3 = ⟨2, fr, b1, b2, true, b4⟩) (he : decE X 3 = 0) (hb : touchB X = true) (v : Int) (hv : touchV X = v) (w : World) :
    Calls Try.prog 21 #[.agg #[.bool o, .int .i64 a, .int .u64 p, .int .i8 3, .int .i64 f], .int .u64 (X : Int)] w fun e w' => e = .returned (.tuple #[.agg #[.bool false, .int .i64 0, .int .u64 0, .int .i8 0, .int .i64 0, .bool false, .int .i64 0, .int .i8 0, .int .u64 0, .int .i64 0, .bool true, .int .i64 a, .int .u64 p, .int .i64 fr, .bool b2, .bool false, .int .u64 0, .int .i8 0, .bool true, .int .u64 v], .int .i64 0]) ∧ ∃ x, w' = ext w x := by
  have HC := Lib.hid hc; have HD := Lib.hid hd; have HE := Lib.hid he; have HX := Lib.hid hX; have HT := Lib.hid hb; have HV := Lib.hid hv; clear hc hd he hX hb hv
  go_enter Try.func21, Try.ntmps21
  repeat (first
    | (go_at_call 19; with_reducible refine (rwcheck_any o a p 3 f _ 0 HC.out).mono ?_; rintro e w1 ⟨rfl, z1, h1⟩; have U1 : Up w.heap.size w w1 := (by subst h1; exact ((((Up.refl w).alloc _).alloc _).ext _)); have L2 : LtW w.heap.size w1 := (by subst h1; infer_instance); have L4 : LtW (w.heap.size + 1) w1 := (by subst h1; infer_instance); have R4 : RowW (w.heap.size + 1) w1 #[.bool false, .int .i64 0, .int .u64 0, .int .i8 0, .int .i64 0, .bool false, .int .i64 0, .int .i8 0, .int .u64 0, .int .i64 0, .bool false, .int .i64 0, .int .u64 0, .int .i64 0, .bool false, .bool false, .int .u64 0, .int .i8 0, .bool false, .int .u64 0] 58 := (by subst h1; infer_instance); have c0 : w1.cell? ⟨w.heap.size, 0, none⟩ = some (.bool o) := (by subst h1; simp [go_sem]); have c1 : w1.cell? ⟨w.heap.size, 1, none⟩ = some (.int .i64 a) := (by subst h1; simp [go_sem]); have c2 : w1.cell? ⟨w.heap.size, 2, none⟩ = some (.int .u64 p) := (by subst h1; simp [go_sem]); have c3 : w1.cell? ⟨w.heap.size, 3, none⟩ = some (.int .i8 3) := (by subst h1; simp [go_sem]); have c4 : w1.cell? ⟨w.heap.size, 4, none⟩ = some (.int .i64 f) := (by subst h1; simp [go_sem]); clear h1; simp only [])
    | (go_at_call 44; with_reducible refine (rdecode_any X HX.out 3 _ _ HD.out 0 HE.out).mono ?_; rintro e w2 ⟨rfl, z2, h2⟩; have U2 : Up w.heap.size w w2 := (by subst h2; exact (U1.alloc _).ext _); have M2 : LtW w.heap.size w2 := (by subst h2; infer_instance); have M4 : LtW (w.heap.size + 1) w2 := (by subst h2; infer_instance); have M6 : LtW w1.heap.size w2 := (by subst h2; infer_instance); have S4 : RowW (w.heap.size + 1) w2 #[.bool false, .int .i64 0, .int .u64 0, .int .i8 0, .int .i64 0, .bool false, .int .i64 0, .int .i8 0, .int .u64 0, .int .i64 0, .bool false, .int .i64 0, .int .u64 0, .int .i64 0, .bool false, .bool false, .int .u64 0, .int .i8 0, .bool false, .int .u64 0] 58 := (by subst h2; infer_instance); have S6 : RowW w1.heap.size w2 #[.bool false, .int .i64 0, .int .u64 0, .int .i8 0, .int .i64 0, .bool false, .int .i64 0, .int .i8 0, .int .u64 0, .int .i64 0, .bool false, .int .i64 0, .int .u64 0, .int .i64 0, .bool false, .bool false, .int .u64 0, .int .i8 0, .bool false, .int .u64 0] 58 := (by subst h2; infer_instance); have N46 : NeW (w.heap.size + 1) w1.heap.size := ⟨Nat.ne_of_lt L4.lt⟩; have d0 : w2.cell? ⟨w.heap.size, 0, none⟩ = some (.bool o) := (by subst h2; simp [go_sem, c0]); have d1 : w2.cell? ⟨w.heap.size, 1, none⟩ = some (.int .i64 a) := (by subst h2; simp [go_sem, c1]); have d2 : w2.cell? ⟨w.heap.size, 2, none⟩ = some (.int .u64 p) := (by subst h2; simp [go_sem, c2]); have d3 : w2.cell? ⟨w.heap.size, 3, none⟩ = some (.int .i8 3) := (by subst h2; simp [go_sem, c3]); have d4 : w2.cell? ⟨w.heap.size, 4, none⟩ = some (.int .i64 f) := (by subst h2; simp [go_sem, c4]); clear h2; simp only [])
    | (go_at_call 46; with_reducible refine (rtouch_any X HX.out _ v HV.out true HT.out).mono ?_; rintro e w' ⟨rfl, z, rfl⟩; simp only [])
    | (with_reducible refine at_op (.build 58 #[]) rfl ?_; intro _; refine step_build 58 #[] rfl #[.bool false, .int .i64 0, .int .u64 0, .int .i8 0, .int .i64 0, .bool false, .int .i64 0, .int .i8 0, .int .u64 0, .int .i64 0, .bool false, .int .i64 0, .int .u64 0, .int .i64 0, .bool false, .bool false, .int .u64 0, .int .i8 0, .bool false, .int .u64 0] (by kernel_rfl) ?_)
    | (with_reducible refine at_op (.store 58 (.tmp 6) (.tmp 17)) rfl ?_; intro _; refine step_store20 58 (.tmp 6) (.tmp 17) rfl _ _ rfl rfl _ _ inferInstance (by kernel_rfl) rfl rfl (by first | (simp [Value.oneCell']; done) | kernel_rfl) _ rfl ?_; simp only [setRow_new_tc, setRow_alloc_tc, setRow_drew_tc, setRow_ext])
    | (with_reducible refine at_op (.load 58 (.tmp 6)) rfl ?_; intro _; refine step_load20 58 (.tmp 6) rfl _ rfl _ _ inferInstance _ Try.underlying58 rfl (by kernel_rfl) rfl ?_)
    | (with_reducible refine at_op (.store 58 (.tmp 4) (.tmp 98)) rfl ?_; intro _; refine step_store20 58 (.tmp 4) (.tmp 98) rfl _ _ rfl rfl _ _ inferInstance (by kernel_rfl) rfl rfl (by first | (simp [Value.oneCell']; done) | kernel_rfl) _ rfl ?_; simp only [setRow_new_tc, setRow_alloc_tc, setRow_drew_tc, setRow_ext])
    | go_values | go_skip | go_guarded | go_step | go_upon)
  refine bodyPost_ret (v := .tuple #[.agg #[.bool false, .int .i64 0, .int .u64 0, .int .i8 0, .int .i64 0, .bool false, .int .i64 0, .int .i8 0, .int .u64 0, .int .i64 0, .bool true, .int .i64 a, .int .u64 p, .int .i64 fr, .bool b2, .bool false, .int .u64 0, .int .i8 0, .bool true, .int .u64 v], .int .i64 0]) ?_ ?_ ?_
  · exact results20_tmp rfl _ _ _ _ _ _ rfl inferInstance Try.underlying58 rfl (by kernel_rfl) rfl _ rfl
  · rfl
  · exact ⟨rfl, up_to (h := by (repeat (first | with_reducible exact U2 | with_reducible apply Up.drew | with_reducible apply Up.alloc | with_reducible apply Up.ext | with_reducible refine Up.setCell _ _ _ U1.le ?_ | with_reducible refine Up.setRow _ _ (Nat.le_succ _) ?_)))⟩
end Go.Proofs.Ytcjklghjnbhcdaa
