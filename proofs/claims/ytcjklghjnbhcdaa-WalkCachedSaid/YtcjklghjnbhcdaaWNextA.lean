/- Next of package walk: the walk that may not be. Next of package walk: a miss. Next of package walk: a miss. Next of package walk: one level on. Next of package walk: an entry. -/
import Derived.Test.YtcjklghjnbhcdaaWWalk
import Derived.Test.YtcjklghjnbhcdaaWWalkA
import Derived.Test.YtcjklghjnbhcdaaWDec
import Derived.StillTailTactics
import Derived.Laws.ResultCell
namespace Go.Proofs.Ytcjklghjnbhcdaa
open Go.RowKit

/-- A region that draws its order and ends in a forced tail, its world spelled 'w.drew'. -/
theorem still_tail {P : Program} {id : Nat} {Q : Exit → Act → World → Prop} {a : Act} {w : World} {l : List Oper} (n : Nat) (hm : P.follows .mixedOrders = true) (hB : Region.lexTailB .any l.toArray n = true)
    (h : wpStill P l.toArray w.drew (fun a' => wpList P l.toArray Q (l.drop n) a' w.drew) (l.take n) a) : (Code.region id l.toArray true).wp P Q a w := wp_region_still_tail n hm hB h
/-- A value of n cells stored as one step. -/
theorem step_storeN {P : Program} {o : Oper} {a : Act} {w : World} {K : Act → World → Prop} {Q : Exit → Act → World → Prop} (n : Nat) (ty : TypeId) (x y : Operand) (ho : o.op = .store ty x y)
    (g : Nat) (cells : Array Value) (hx : a.eval x = .pointer (some ⟨g, 0, none⟩)) (hy : a.eval y = .agg cells) (c : Array Value) (t : TypeId) (hr : RowW g w c t)
    (hi : (P.info? ty).map (·.size) = some n) (hc : c.size = n) (hc' : cells.size = n) (h1 : cells.all (·.oneCell') = true) (W : World) (hW : w.setRow g cells = W) (h : K (a.put o.dst undef) W) : o.wp P a w K Q :=
  wp_store_row ty x y ho g cells hx hy t c hr.row (by rw [hi, hc']) (by rw [hc, hc']) h1 (hW ▸ h)
/-- A result of twenty cells and another. -/
theorem results20_tmp {P : Program} {fn : Func} {p u : Tmp} {ty : TypeId} (h : fn.results = #[.cell p ty, .tmp u]) (tmps : Array Value) (w : World) (g : Nat) (c : Array Value) (t : TypeId) (d : TypeDesc)
    (hp : tmps.getD p undef = .pointer (some ⟨g, 0, none⟩)) (hr : RowW g w c t) (hu : P.underlying ty = some d) (hd : (match d with | .struct _ | .array _ _ => true | _ => false) = true) (hi : (P.info? ty).map (·.size) = some 20) (hc : c.size = 20)
    (v : Value) (hv : tmps.getD u undef = v) : (results fn tmps).run P w = .ok (.tuple #[.agg c, v]) w := by
  rw [results_cell_tmp h, hp, hv]
  simp [asAddr, Result.andThen, run_loadVar_row w g t ty c (0, 0) d hr.row hu hd (by rw [hi, hc])]

set_option maxRecDepth 20000 in
set_option maxHeartbeats 1000000 in
theorem next_bad (o : Bool) (a p l f : Int) (X : Nat) (hc : chkW o a p l f = 2) (w : World) :
    Calls Try.prog 20 #[.agg #[.bool o, .int .i64 a, .int .u64 p, .int .i8 l, .int .i64 f], .int .u64 (X : Int)] w fun e w' => e = .returned (.tuple #[.agg #[.bool false, .int .i64 0, .int .u64 0, .int .i8 0, .int .i64 0, .bool false, .int .i64 0, .int .i8 0, .int .u64 0, .int .i64 0, .bool false, .int .i64 0, .int .u64 0, .int .i64 0, .bool false, .bool false, .int .u64 0, .int .i8 0, .bool false, .int .u64 0], .int .i64 2]) ∧ ∃ x, w' = ext w x := by
  have HC := Lib.hid hc; clear hc
  go_enter Try.func20, Try.ntmps20
  repeat (first
    | (go_at_call 18; with_reducible refine (wcheck_any o a p l f _ 2 HC.out).mono ?_; rintro e w' ⟨rfl, z, rfl⟩; simp only [])
    | (with_reducible refine at_op (.build 58 #[]) rfl ?_; intro _; refine step_build 58 #[] rfl #[.bool false, .int .i64 0, .int .u64 0, .int .i8 0, .int .i64 0, .bool false, .int .i64 0, .int .i8 0, .int .u64 0, .int .i64 0, .bool false, .int .i64 0, .int .u64 0, .int .i64 0, .bool false, .bool false, .int .u64 0, .int .i8 0, .bool false, .int .u64 0] (by kernel_rfl) ?_)
    | (with_reducible refine at_op (.store 58 (.tmp 4) (.tmp 14)) rfl ?_; intro _; refine step_store20 58 (.tmp 4) (.tmp 14) rfl _ _ rfl rfl _ _ inferInstance (by kernel_rfl) rfl rfl (by simp [Value.oneCell']) _ rfl ?_; simp only [setRow_new_tc, setRow_alloc_tc, setRow_drew_tc, setRow_ext])
    | go_values | go_skip | go_guarded | go_step | go_upon)
  refine bodyPost_ret (v := .tuple #[.agg #[.bool false, .int .i64 0, .int .u64 0, .int .i8 0, .int .i64 0, .bool false, .int .i64 0, .int .i8 0, .int .u64 0, .int .i64 0, .bool false, .int .i64 0, .int .u64 0, .int .i64 0, .bool false, .bool false, .int .u64 0, .int .i8 0, .bool false, .int .u64 0], .int .i64 2]) ?_ ?_ ?_
  · exact results20_tmp rfl _ _ _ _ _ _ rfl inferInstance Try.underlying58 rfl (by kernel_rfl) rfl _ rfl
  · rfl
  · exact ⟨rfl, up_to⟩
end Go.Proofs.Ytcjklghjnbhcdaa

namespace Go.Proofs.Ytcjklghjnbhcdaa
open Go.RowKit

set_option maxRecDepth 20000 in
set_option maxHeartbeats 1000000 in
theorem next_miss0 (o : Bool) (a p l f : Int) (l0 : 0 ≤ l) (l3 : l ≤ 3) (X : Nat) (hX : X < 18446744073709551616) (hc : chkW o a p l f = 0) (hd : decD X l = d0) (he : decE X l = 0) (w : World) :
    Calls Try.prog 20 #[.agg #[.bool o, .int .i64 a, .int .u64 p, .int .i8 l, .int .i64 f], .int .u64 (X : Int)] w fun e w' => e = .returned (.tuple #[.agg #[.bool false, .int .i64 0, .int .u64 0, .int .i8 0, .int .i64 0, .bool false, .int .i64 0, .int .i8 0, .int .u64 0, .int .i64 0, .bool false, .int .i64 0, .int .u64 0, .int .i64 0, .bool false, .bool true, .int .u64 p, .int .i8 l, .bool false, .int .u64 0], .int .i64 0]) ∧ ∃ x, w' = ext w x := by
  have HC := Lib.hid hc; have HD := Lib.hid hd; have HE := Lib.hid he; have HX := Lib.hid hX; clear hc hd he hX
  go_enter Try.func20, Try.ntmps20
  repeat (first
    | (go_at_call 18; with_reducible refine (wcheck_any o a p l f _ 0 HC.out).mono ?_; rintro e w' ⟨rfl, z, rfl⟩; simp only [])
    | (go_at_call 43; with_reducible refine (decode_any X HX.out l _ _ HD.out 0 HE.out).mono ?_; rintro e w' ⟨rfl, z, rfl⟩; simp only [])
    | (with_reducible refine at_op (.store _ (.tmp 7) (.tmp 16)) rfl ?_; intro _; refine step_storeN 3 _ (.tmp 7) (.tmp 16) rfl _ _ rfl rfl _ _ inferInstance (by kernel_rfl) rfl rfl (by simp [Value.oneCell']) _ rfl ?_; simp only [setRow_new_tc, setRow_alloc_tc, setRow_drew_tc, setRow_ext])
    | go_values | go_skip | go_guarded | go_step | go_upon)
  refine still_tail 7 (by kernel_rfl) (by kernel_rfl) ?_
  simp only [List.take_succ_cons, List.take_zero, List.drop_succ_cons, List.drop_zero]
  repeat still_step
  refine wpStill_nil ?_
  repeat (first
    | (go_at_call 40; with_reducible refine (missed_any _ _ _ _ _ _ _ _ _ _ _ _ _).mono ?_; rintro e w' ⟨rfl, z, rfl⟩; simp only [])
    | (with_reducible refine at_op (.store 58 (.tmp 4) (.tmp 35)) rfl ?_; intro _; refine step_store20 58 (.tmp 4) (.tmp 35) rfl _ _ rfl rfl _ _ inferInstance (by kernel_rfl) rfl rfl (by simp [Value.oneCell']) _ rfl ?_; simp only [setRow_new_tc, setRow_alloc_tc, setRow_drew_tc, setRow_ext])
    | go_values | go_skip | go_guarded | go_step | go_upon)
  refine bodyPost_ret (v := .tuple #[.agg #[.bool false, .int .i64 0, .int .u64 0, .int .i8 0, .int .i64 0, .bool false, .int .i64 0, .int .i8 0, .int .u64 0, .int .i64 0, .bool false, .int .i64 0, .int .u64 0, .int .i64 0, .bool false, .bool true, .int .u64 p, .int .i8 l, .bool false, .int .u64 0], .int .i64 0]) ?_ ?_ ?_
  · exact results20_tmp rfl _ _ _ _ _ _ rfl inferInstance Try.underlying58 rfl (by kernel_rfl) rfl _ rfl
  · rfl
  · exact ⟨rfl, up_to⟩
end Go.Proofs.Ytcjklghjnbhcdaa

namespace Go.Proofs.Ytcjklghjnbhcdaa
open Go.RowKit

set_option maxRecDepth 20000 in
set_option maxHeartbeats 1000000 in
theorem next_miss30 (o : Bool) (a p l f : Int) (l0 : 0 ≤ l) (l3 : l ≤ 3) (X : Nat) (hX : X < 18446744073709551616) (hc : chkW o a p l f = 0) (hd : decD X l = d0) (he : decE X l = 30) (w : World) :
    Calls Try.prog 20 #[.agg #[.bool o, .int .i64 a, .int .u64 p, .int .i8 l, .int .i64 f], .int .u64 (X : Int)] w fun e w' => e = .returned (.tuple #[.agg #[.bool false, .int .i64 0, .int .u64 0, .int .i8 0, .int .i64 0, .bool false, .int .i64 0, .int .i8 0, .int .u64 0, .int .i64 0, .bool false, .int .i64 0, .int .u64 0, .int .i64 0, .bool false, .bool true, .int .u64 p, .int .i8 l, .bool false, .int .u64 0], .int .i64 0]) ∧ ∃ x, w' = ext w x := by
  have HC := Lib.hid hc; have HD := Lib.hid hd; have HE := Lib.hid he; have HX := Lib.hid hX; clear hc hd he hX
  go_enter Try.func20, Try.ntmps20
  repeat (first
    | (go_at_call 18; with_reducible refine (wcheck_any o a p l f _ 0 HC.out).mono ?_; rintro e w' ⟨rfl, z, rfl⟩; simp only [])
    | (go_at_call 43; with_reducible refine (decode_any X HX.out l _ _ HD.out 30 HE.out).mono ?_; rintro e w' ⟨rfl, z, rfl⟩; simp only [])
    | (with_reducible refine at_op (.store _ (.tmp 7) (.tmp 16)) rfl ?_; intro _; refine step_storeN 3 _ (.tmp 7) (.tmp 16) rfl _ _ rfl rfl _ _ inferInstance (by kernel_rfl) rfl rfl (by simp [Value.oneCell']) _ rfl ?_; simp only [setRow_new_tc, setRow_alloc_tc, setRow_drew_tc, setRow_ext])
    | go_values | go_skip | go_guarded | go_step | go_upon)
  refine still_tail 7 (by kernel_rfl) (by kernel_rfl) ?_
  simp only [List.take_succ_cons, List.take_zero, List.drop_succ_cons, List.drop_zero]
  repeat still_step
  refine wpStill_nil ?_
  repeat (first
    | (go_at_call 40; with_reducible refine (missed_any _ _ _ _ _ _ _ _ _ _ _ _ _).mono ?_; rintro e w' ⟨rfl, z, rfl⟩; simp only [])
    | (with_reducible refine at_op (.store 58 (.tmp 4) (.tmp 35)) rfl ?_; intro _; refine step_store20 58 (.tmp 4) (.tmp 35) rfl _ _ rfl rfl _ _ inferInstance (by kernel_rfl) rfl rfl (by simp [Value.oneCell']) _ rfl ?_; simp only [setRow_new_tc, setRow_alloc_tc, setRow_drew_tc, setRow_ext])
    | go_values | go_skip | go_guarded | go_step | go_upon)
  refine bodyPost_ret (v := .tuple #[.agg #[.bool false, .int .i64 0, .int .u64 0, .int .i8 0, .int .i64 0, .bool false, .int .i64 0, .int .i8 0, .int .u64 0, .int .i64 0, .bool false, .int .i64 0, .int .u64 0, .int .i64 0, .bool false, .bool true, .int .u64 p, .int .i8 l, .bool false, .int .u64 0], .int .i64 0]) ?_ ?_ ?_
  · exact results20_tmp rfl _ _ _ _ _ _ rfl inferInstance Try.underlying58 rfl (by kernel_rfl) rfl _ rfl
  · rfl
  · exact ⟨rfl, up_to⟩
end Go.Proofs.Ytcjklghjnbhcdaa

namespace Go.Proofs.Ytcjklghjnbhcdaa
open Go.RowKit

set_option maxRecDepth 20000 in
set_option maxHeartbeats 1000000 in
theorem next_on (o : Bool) (a p l f : Int) (X : Nat) (hX : X < 18446744073709551616) (hc : chkW o a p l f = 0) (p0 : 0 ≤ p) (p1 : p < 34359738368) (hl : l = 0 ∨ l = 1 ∨ l = 2) (fr : Int) (hd : decD X l = ⟨1, fr, false, false, false, false⟩) (q : Int) (hq : prefixV p (l + 1) = q) (l1 : Int) (hl1 : l + 1 = l1) (he : decE X l = 0) (w : World) :
    Calls Try.prog 20 #[.agg #[.bool o, .int .i64 a, .int .u64 p, .int .i8 l, .int .i64 f], .int .u64 (X : Int)] w fun e w' => e = .returned (.tuple #[.agg #[.bool o, .int .i64 a, .int .u64 p, .int .i8 l1, .int .i64 fr, .bool true, .int .i64 a, .int .i8 l1, .int .u64 q, .int .i64 fr, .bool false, .int .i64 0, .int .u64 0, .int .i64 0, .bool false, .bool false, .int .u64 0, .int .i8 0, .bool false, .int .u64 0], .int .i64 0]) ∧ ∃ x, w' = ext w x := by
  have HC := Lib.hid hc; have HD := Lib.hid hd; have HE := Lib.hid he; have HX := Lib.hid hX; clear hc hd he hX
  have HQ := Lib.hid hq; have H0 := Lib.hid p0; have H1 := Lib.hid p1; have HL := Lib.hid hl; have HL1 := Lib.hid hl1; have l0 : 0 ≤ l := by omega
  have l3 : l ≤ 3 := by omega
  clear hq p0 p1 hl hl1
  go_enter Try.func20, Try.ntmps20
  repeat (first
    | (go_at_call 18; with_reducible refine (wcheck_any o a p l f _ 0 HC.out).mono ?_; rintro e w' ⟨rfl, z, rfl⟩; simp only [])
    | (go_at_call 43; with_reducible refine (decode_any X HX.out l _ _ HD.out 0 HE.out).mono ?_; rintro e w' ⟨rfl, z, rfl⟩; simp only [])
    | (with_reducible refine at_op (.store _ (.tmp 7) (.tmp 16)) rfl ?_; intro _; refine step_storeN 3 _ (.tmp 7) (.tmp 16) rfl _ _ rfl rfl _ _ inferInstance (by kernel_rfl) rfl rfl (by simp [Value.oneCell']) _ rfl ?_; simp only [setRow_new_tc, setRow_alloc_tc, setRow_drew_tc, setRow_ext])
    | go_values | go_skip | go_guarded | go_step | go_upon)
  refine still_tail 7 (by kernel_rfl) (by kernel_rfl) ?_
  simp only [List.take_succ_cons, List.take_zero, List.drop_succ_cons, List.drop_zero]
  repeat still_step
  refine wpStill_nil ?_
  repeat (first
    | (go_at_call 41; with_reducible refine (on_any o a p l f H0.out H1.out HL.out _ _ _ _ _ _ _ _ q HQ.out l1 HL1.out).mono ?_; rintro e w' ⟨rfl, z, rfl⟩; simp only [])
    | (with_reducible refine at_op (.store 58 (.tmp 4) (.tmp 35)) rfl ?_; intro _; refine step_store20 58 (.tmp 4) (.tmp 35) rfl _ _ rfl rfl _ _ inferInstance (by kernel_rfl) rfl rfl (by simp [Value.oneCell']) _ rfl ?_; simp only [setRow_new_tc, setRow_alloc_tc, setRow_drew_tc, setRow_ext])
    | go_values | go_skip | go_guarded | go_step | go_upon)
  refine bodyPost_ret (v := .tuple #[.agg #[.bool o, .int .i64 a, .int .u64 p, .int .i8 l1, .int .i64 fr, .bool true, .int .i64 a, .int .i8 l1, .int .u64 q, .int .i64 fr, .bool false, .int .i64 0, .int .u64 0, .int .i64 0, .bool false, .bool false, .int .u64 0, .int .i8 0, .bool false, .int .u64 0], .int .i64 0]) ?_ ?_ ?_
  · exact results20_tmp rfl _ _ _ _ _ _ rfl inferInstance Try.underlying58 rfl (by kernel_rfl) rfl _ rfl
  · rfl
  · exact ⟨rfl, up_to⟩
end Go.Proofs.Ytcjklghjnbhcdaa

namespace Go.Proofs.Ytcjklghjnbhcdaa
open Go.RowKit

set_option maxRecDepth 20000 in
set_option maxHeartbeats 1000000 in
theorem next_found_yes (o : Bool) (a p f : Int) (X : Nat) (hX : X < 18446744073709551616) (hc : chkW o a p 3 f = 0) (fr : Int) (b1 b2 b4 : Bool) (hd : decD X 3 = ⟨2, fr, b1, b2, true, b4⟩) (v : Int) (hv : (if touchB X then (X : Int) + 1024 else 0) = v) (b : Bool) (hb : touchB X = b) (he : decE X 3 = 0) (w : World) :
    Calls Try.prog 20 #[.agg #[.bool o, .int .i64 a, .int .u64 p, .int .i8 3, .int .i64 f], .int .u64 (X : Int)] w fun e w' => e = .returned (.tuple #[.agg #[.bool false, .int .i64 0, .int .u64 0, .int .i8 0, .int .i64 0, .bool false, .int .i64 0, .int .i8 0, .int .u64 0, .int .i64 0, .bool true, .int .i64 a, .int .u64 p, .int .i64 fr, .bool b2, .bool false, .int .u64 0, .int .i8 0, .bool b, .int .u64 v], .int .i64 0]) ∧ ∃ x, w' = ext w x := by
  have HC := Lib.hid hc; have HD := Lib.hid hd; have HE := Lib.hid he; have HX := Lib.hid hX; clear hc hd he hX
  have HV := Lib.hid hv; have HB := Lib.hid hb; clear hv hb
  go_enter Try.func20, Try.ntmps20
  repeat (first
    | (go_at_call 18; with_reducible refine (wcheck_any o a p 3 f _ 0 HC.out).mono ?_; rintro e w' ⟨rfl, z, rfl⟩; simp only [])
    | (go_at_call 43; with_reducible refine (decode_any X HX.out 3 _ _ HD.out 0 HE.out).mono ?_; rintro e w' ⟨rfl, z, rfl⟩; simp only [])
    | (with_reducible refine at_op (.store _ (.tmp 7) (.tmp 16)) rfl ?_; intro _; refine step_storeN 3 _ (.tmp 7) (.tmp 16) rfl _ _ rfl rfl _ _ inferInstance (by kernel_rfl) rfl rfl (by simp [Value.oneCell']) _ rfl ?_; simp only [setRow_new_tc, setRow_alloc_tc, setRow_drew_tc, setRow_ext])
    | go_values | go_skip | go_guarded | go_step | go_upon)
  refine still_tail 7 (by kernel_rfl) (by kernel_rfl) ?_
  simp only [List.take_succ_cons, List.take_zero, List.drop_succ_cons, List.drop_zero]
  repeat still_step
  refine wpStill_nil ?_
  repeat (first
    | (go_at_call 42; with_reducible refine (found_any o a p 3 f _ _ _ _ _ _ X HX.out _ v HV.out b HB.out (.agg #[.bool false, .int .i64 0, .int .u64 0, .int .i8 0, .int .i64 0, .bool false, .int .i64 0, .int .i8 0, .int .u64 0, .int .i64 0, .bool true, .int .i64 a, .int .u64 p, .int .i64 fr, .bool b2, .bool false, .int .u64 0, .int .i8 0, .bool b, .int .u64 v]) (by simp)).mono ?_; rintro e w' ⟨rfl, z, rfl⟩; simp only [])
    | (with_reducible refine at_op (.store 58 (.tmp 4) (.tmp 35)) rfl ?_; intro _; refine step_store20 58 (.tmp 4) (.tmp 35) rfl _ _ rfl rfl _ _ inferInstance (by kernel_rfl) rfl rfl (by simp [Value.oneCell']) _ rfl ?_; simp only [setRow_new_tc, setRow_alloc_tc, setRow_drew_tc, setRow_ext])
    | go_values | go_skip | go_guarded | go_step | go_upon)
  refine bodyPost_ret (v := .tuple #[.agg #[.bool false, .int .i64 0, .int .u64 0, .int .i8 0, .int .i64 0, .bool false, .int .i64 0, .int .i8 0, .int .u64 0, .int .i64 0, .bool true, .int .i64 a, .int .u64 p, .int .i64 fr, .bool b2, .bool false, .int .u64 0, .int .i8 0, .bool b, .int .u64 v], .int .i64 0]) ?_ ?_ ?_
  · exact results20_tmp rfl _ _ _ _ _ _ rfl inferInstance Try.underlying58 rfl (by kernel_rfl) rfl _ rfl
  · rfl
  · exact ⟨rfl, up_to⟩
set_option maxRecDepth 20000 in
set_option maxHeartbeats 1000000 in
theorem next_found_no (o : Bool) (a p f : Int) (X : Nat) (hX : X < 18446744073709551616) (hc : chkW o a p 3 f = 0) (fr : Int) (b1 b2 b4 : Bool) (hd : decD X 3 = ⟨2, fr, b1, b2, false, b4⟩) (v : Int) (hv : (if touchB X then (X : Int) + 1024 else 0) = v) (b : Bool) (hb : touchB X = b) (he : decE X 3 = 0) (w : World) :
    Calls Try.prog 20 #[.agg #[.bool o, .int .i64 a, .int .u64 p, .int .i8 3, .int .i64 f], .int .u64 (X : Int)] w fun e w' => e = .returned (.tuple #[.agg #[.bool false, .int .i64 0, .int .u64 0, .int .i8 0, .int .i64 0, .bool false, .int .i64 0, .int .i8 0, .int .u64 0, .int .i64 0, .bool false, .int .i64 0, .int .u64 0, .int .i64 0, .bool false, .bool true, .int .u64 p, .int .i8 3, .bool false, .int .u64 0], .int .i64 0]) ∧ ∃ x, w' = ext w x := by
  have HC := Lib.hid hc; have HD := Lib.hid hd; have HE := Lib.hid he; have HX := Lib.hid hX; clear hc hd he hX
  have HV := Lib.hid hv; have HB := Lib.hid hb; clear hv hb
  go_enter Try.func20, Try.ntmps20
  repeat (first
    | (go_at_call 18; with_reducible refine (wcheck_any o a p 3 f _ 0 HC.out).mono ?_; rintro e w' ⟨rfl, z, rfl⟩; simp only [])
    | (go_at_call 43; with_reducible refine (decode_any X HX.out 3 _ _ HD.out 0 HE.out).mono ?_; rintro e w' ⟨rfl, z, rfl⟩; simp only [])
    | (with_reducible refine at_op (.store _ (.tmp 7) (.tmp 16)) rfl ?_; intro _; refine step_storeN 3 _ (.tmp 7) (.tmp 16) rfl _ _ rfl rfl _ _ inferInstance (by kernel_rfl) rfl rfl (by simp [Value.oneCell']) _ rfl ?_; simp only [setRow_new_tc, setRow_alloc_tc, setRow_drew_tc, setRow_ext])
    | go_values | go_skip | go_guarded | go_step | go_upon)
  refine still_tail 7 (by kernel_rfl) (by kernel_rfl) ?_
  simp only [List.take_succ_cons, List.take_zero, List.drop_succ_cons, List.drop_zero]
  repeat still_step
  refine wpStill_nil ?_
  repeat (first
    | (go_at_call 42; with_reducible refine (found_any o a p 3 f _ _ _ _ _ _ X HX.out _ v HV.out b HB.out (.agg #[.bool false, .int .i64 0, .int .u64 0, .int .i8 0, .int .i64 0, .bool false, .int .i64 0, .int .i8 0, .int .u64 0, .int .i64 0, .bool false, .int .i64 0, .int .u64 0, .int .i64 0, .bool false, .bool true, .int .u64 p, .int .i8 3, .bool false, .int .u64 0]) (by simp)).mono ?_; rintro e w' ⟨rfl, z, rfl⟩; simp only [])
    | (with_reducible refine at_op (.store 58 (.tmp 4) (.tmp 35)) rfl ?_; intro _; refine step_store20 58 (.tmp 4) (.tmp 35) rfl _ _ rfl rfl _ _ inferInstance (by kernel_rfl) rfl rfl (by simp [Value.oneCell']) _ rfl ?_; simp only [setRow_new_tc, setRow_alloc_tc, setRow_drew_tc, setRow_ext])
    | go_values | go_skip | go_guarded | go_step | go_upon)
  refine bodyPost_ret (v := .tuple #[.agg #[.bool false, .int .i64 0, .int .u64 0, .int .i8 0, .int .i64 0, .bool false, .int .i64 0, .int .i8 0, .int .u64 0, .int .i64 0, .bool false, .int .i64 0, .int .u64 0, .int .i64 0, .bool false, .bool true, .int .u64 p, .int .i8 3, .bool false, .int .u64 0], .int .i64 0]) ?_ ?_ ?_
  · exact results20_tmp rfl _ _ _ _ _ _ rfl inferInstance Try.underlying58 rfl (by kernel_rfl) rfl _ rfl
  · rfl
  · exact ⟨rfl, up_to⟩
end Go.Proofs.Ytcjklghjnbhcdaa
