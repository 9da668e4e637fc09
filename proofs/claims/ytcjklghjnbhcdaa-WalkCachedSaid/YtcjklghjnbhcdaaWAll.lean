/- From the root to the end: package walk's All. -/
import Derived.Test.YtcjklghjnbhcdaaWNextU
import Derived.Test.YtcjklghjnbhcdaaWBegin
import Derived.Test.YtcjklghjnbhcdaaWMem
import Derived.Test.YtcjklghjnbhcdaaWRowT
import Derived.WalkMore
namespace Go.Proofs.Ytcjklghjnbhcdaa
open Go.RowKit

def wordN (p l f : Int) : Nat := (f * 512 + indexV p l).toNat
/-- A walk from level l in frame f on, in a memory m of n frames. -/
def walkGo (m : Nat → Nat) (n : Nat) (a p : Int) : Nat → Int → Int → Option (Array Value × Int)
  | 0, _, _ => none
  | k + 1, l, f =>
    if wordN p l f / 512 < n then
      (if (decD (m (wordN p l f)) l).kind = 1 then walkGo m n a p k (l + 1) (decD (m (wordN p l f)) l).frame else some (nextC true a p l f (m (wordN p l f)), l + 1))
    else none
def allV (r : Option (Array Value × Int)) : Value := match r with
  | some (C, k) => .tuple #[.agg C, .int .i64 k, .int .i64 0]
  | none => .tuple #[.agg zero20, .int .i64 0, .int .i64 80]

theorem has_nilS (w : World) : Has S.enc w (.slice none 0 0) [] := .inl ⟨rfl, .inl rfl⟩
theorem begin_nil_ok {root a p : Int} (h : beginOk root a p []) : beginC root a p [] = #[.bool true, .int .i64 a, .int .u64 p, .int .i8 0, .int .i64 root] ∧ beginE root a p [] = 0 := by
  have hb : (bestR a p []).l = 0 := by rw [bestR, if_pos h.2.2]; rfl
  constructor
  · rw [beginC, if_pos h, if_neg (by omega)]
  · rw [beginE, if_pos h]

theorem results20_tmp2 {P : Program} {fn : Func} {p u u2 : Tmp} {ty : TypeId} (h : fn.results = #[.cell p ty, .tmp u, .tmp u2]) (tmps : Array Value) (w : World) (g : Nat) (c : Array Value) (t : TypeId) (d : TypeDesc)
    (hp : tmps.getD p undef = .pointer (some ⟨g, 0, none⟩)) (hr : RowW g w c t) (hu : P.underlying ty = some d) (hd : (match d with | .struct _ | .array _ _ => true | _ => false) = true) (hi : (P.info? ty).map (·.size) = some 20) (hc : c.size = 20)
    (v v2 : Value) (hv : tmps.getD u undef = v) (hv2 : tmps.getD u2 undef = v2) : (results fn tmps).run P w = .ok (.tuple #[.agg c, v, v2]) w := by
  have e : (results fn tmps).run P w = ((asAddr (tmps.getD p undef)).run P w).andThen fun a w₁ => ((loadVar ty a).run P w₁).andThen fun v w₂ => .ok (.tuple #[v, tmps.getD u undef, tmps.getD u2 undef]) w₂ := by
    simp only [results, h]
    simp [Sem.run_bind, Result.andThen]
  rw [e, hp, hv, hv2]
  simp [asAddr, Result.andThen, run_loadVar_row w g t ty c (0, 0) d hr.row hu hd (by rw [hi, hc])]
theorem nextC_go {a p l f : Int} {X : Nat} (h : chkW true a p l f = 0) (hk : (decD X l).kind = 1) :
    (nextC true a p l f X)[0]? = some (.bool true) ∧ (nextC true a p l f X)[1]? = some (.int .i64 a) ∧ (nextC true a p l f X)[2]? = some (.int .u64 p) ∧ (nextC true a p l f X)[3]? = some (.int .i8 (l + 1)) ∧ (nextC true a p l f X)[4]? = some (.int .i64 (decD X l).frame) := by
  unfold nextC; rw [if_neg (by omega), if_pos hk]
  exact ⟨rfl, rfl, rfl, rfl, rfl⟩
theorem nextC_end {a p l f : Int} {X : Nat} (h : chkW true a p l f = 0) (hk : ¬ (decD X l).kind = 1) :
    (nextC true a p l f X)[0]? = some (.bool false) ∧ (nextC true a p l f X)[1]? = some (.int .i64 0) ∧ (nextC true a p l f X)[2]? = some (.int .u64 0) ∧ (nextC true a p l f X)[3]? = some (.int .i8 0) ∧ (nextC true a p l f X)[4]? = some (.int .i64 0) := by
  unfold nextC; rw [if_neg (by omega), if_neg hk]
  split <;> exact ⟨rfl, rfl, rfl, rfl, rfl⟩
theorem kind_on {X : Nat} {l : Int} (l0 : 0 ≤ l) (l3 : l ≤ 3) (hk : (decD X l).kind = 1) : l ≤ 2 ∧ 0 ≤ (decD X l).frame ∧ (decD X l).frame < 64 := by
  rcases dec_cases X l l0 l3 with ⟨h, _⟩ | ⟨h, _⟩ | ⟨h2, _, h⟩ | ⟨_, _, h⟩
  · rw [h] at hk; simp at hk
  · rw [h] at hk; simp at hk
  · rw [h]; refine ⟨h2, ?_, ?_⟩ <;> simp only <;> omega
  · rw [h] at hk; simp at hk

theorem get_of {N : Array Value} {i : Nat} {v : Value} (h : N[i]? = some v) : ∀ hi : i < N.size, N[i] = v := fun hi => by
  rw [Array.getElem?_eq_getElem hi] at h; exact Option.some.inj h

/-- How the two boxes of a walk under way lie. -/
structure AllAt (W wr : World) (q : Nat) (a p l f : Int) : Prop where
  up : Up W.heap.size W wr
  le : W.heap.size < q
  lt : q < wr.heap.size
  box : ∃ C : Array Value, C.size = 20 ∧ RowW W.heap.size wr C 58
  walk : RowW q wr #[.bool true, .int .i64 a, .int .u64 p, .int .i8 l, .int .i64 f] 39

section
variable {F : Nat → Prop} {W : World} {b n c m : Nat} {f : Nat → Nat} {D : DataW Unit} {fr : Nat → Option Nat}
set_option maxRecDepth 20000 in
set_option maxHeartbeats 2000000 in
theorem all_any (h : MemAt F W b n f c m D fr) (root a p : Int) (p0 : 0 ≤ p) (hb : beginOk root a p []) (R : Option (Array Value × Int)) (hR : walkGo f n a p 4 0 root = R) :
    Calls Try.prog 24 #[.pointer (some ⟨b, 0, none⟩), .int .i64 root, .int .i64 a, .int .u64 p] W fun e w' => e = .returned (allV R) ∧ ∃ x, w' = ext W x := by
  obtain ⟨hC, hE⟩ := begin_nil_ok hb
  have HRR : Hid (walkGo f n a p 4 0 root = R) := Lib.hid hR
  have HH := Lib.hid h; have HB := Lib.hid hb; have HC := Lib.hid hC; have HE := Lib.hid hE; have H0 := Lib.hid p0
  clear h hb hC hE p0 hR
  go_enter Try.func24, Try.ntmps24
  repeat (first
    | (go_at_call 14; with_reducible refine (begin_any root a p [] _ _ (has_nilS _)).mono ?_
       rintro e w1 ⟨e1, z, e2⟩
       rw [HC.out, HE.out] at e1
       subst e1
       have U1 : Up W.heap.size W w1 := (by rw [e2]; repeat (first | with_reducible exact Up.refl _ | with_reducible apply Up.drew | with_reducible apply Up.alloc | with_reducible apply Up.ext))
       have L8 : LtW W.heap.size w1 := (by subst e2; infer_instance)
       have Q8 : RowW W.heap.size w1 zero20 58 := (by subst e2; unfold zero20; infer_instance)
       clear e2; simp only [])
    | go_values | go_skip | go_guarded | go_step | go_upon | go_step3)
  obtain ⟨_, c2, _⟩ := HB.out
  obtain ⟨_, _, _, r0, r1, a1, a2, p1⟩ := chk_zero c2
  have HA : Hid (AllAt W (w1.alloc (.cells #[.bool true, .int .i64 a, .int .u64 p, .int .i8 0, .int .i64 root] 39)) w1.heap.size a p 0 root) :=
    Lib.hid ⟨U1.alloc _, L8.lt, by simp, ⟨zero20, rfl, inferInstance⟩, inferInstance⟩
  have HP : Hid (1 ≤ a ∧ a ≤ 255 ∧ p < 34359738368) := Lib.hid ⟨a1, a2, p1⟩
  clear U1 L8 Q8 c2 a1 a2 p1
  generalize w1.heap.size = q at *
  generalize w1.alloc _ = w2 at *
  go_loopw [9] (fun k wr => ∃ l fr : Int, 0 ≤ l ∧ l ≤ 3 ∧ 0 ≤ fr ∧ fr < 64 ∧ k = .int .i64 l ∧ Hid (walkGo f n a p (4 - l).toNat l fr = R) ∧ Hid (AllAt W wr q a p l fr)) (fun k _ => (4 - intOf k).toNat)
  case atStart => exact ⟨0, root, by omega, by omega, r0, r1, rfl, HRR, HA⟩
  case round =>
    clear HA HRR r0 r1
    obtain ⟨l, fr, l0, l3, f0, f1, rfl, HG, HA⟩ := hrel
    have hck : chkW true a p l fr = 0 := by obtain ⟨q1, q2, q3⟩ := HP.out; unfold chkW; rw [if_pos ⟨rfl, l0, l3, f0, f1, q1, q2, q3⟩]
    have HCK := Lib.hid hck
    obtain ⟨i0, i1⟩ := index_bounds p l H0.out
    obtain ⟨X, hX⟩ : ∃ X, wordN p l fr = X := ⟨_, rfl⟩
    have hXv : wordV true a p l fr = (X : Int) := by rw [wordV, if_pos hck, ← hX]; unfold wordN; omega
    have hXb : X < 18446744073709551616 := by rw [← hX]; unfold wordN; omega
    have HWV := Lib.hid hXv; have HXB := Lib.hid hXb; have HXE := Lib.hid hX
    obtain ⟨C, hCs, hRC⟩ := HA.out.box
    have hRQ := HA.out.walk
    have hq1 : NeW q W.heap.size := ⟨by have := HA.out.le; omega⟩
    have hq2 : NeW W.heap.size q := ⟨by have := HA.out.le; omega⟩
    have hlq : LtW q wr := ⟨HA.out.lt⟩
    have hl8 : LtW W.heap.size wr := ⟨Nat.lt_trans HA.out.le HA.out.lt⟩
    have HM := Lib.hid (HH.out.below HA.out.up.below)
    have HUP := Lib.hid HA.out.up; have HLE := Lib.hid HA.out.le
    obtain ⟨kk, hkk⟩ : ∃ kk, (4 - l).toNat = kk + 1 := ⟨(3 - l).toNat, by omega⟩
    have hgo := HG.out
    rw [hkk] at hgo
    unfold walkGo at hgo
    rw [hX] at hgo
    clear hX hXv hXb i0 i1 hck HA HG
    by_cases hn : X / 512 < n
    · rw [if_pos hn] at hgo
      obtain ⟨N, hN⟩ : ∃ N, nextC true a p l fr (f X) = N := ⟨_, rfl⟩
      have hNs := nextC_size true a p l fr (f X)
      have hN1 := nextC_one true a p l fr (f X)
      have HFX : Hid (f X < 18446744073709551616) := Lib.hid (HM.out.val X)
      by_cases hk : (decD (f X) l).kind = 1
      · rw [if_pos hk] at hgo
        obtain ⟨n0, n1, n2, n3, n4⟩ := nextC_go HCK.out hk
        obtain ⟨l2, g0, g1⟩ := kind_on l0 l3 hk
        generalize (decD (f X) l).frame = fr2 at *
        rw [hN] at n0 n1 n2 n3 n4 hNs hN1
        have m0 := get_of n0; have m1 := get_of n1; have m2 := get_of n2; have m3 := get_of n3; have m4 := get_of n4
        have HN := Lib.hid hN; have HGO := Lib.hid hgo; have HK := Lib.hid hkk
        clear hN hk hgo hkk
        repeat (first
          | (go_at_call 16; with_reducible refine (word_any true a p l fr H0.out _ _ HWV.out 0 HCK.out).mono ?_; rintro e w' ⟨rfl, y, rfl⟩; simp only [])
          | (go_at_call 25; with_reducible refine (mread_any (HM.out.below (ext_below _ _)) X HXB.out hn).mono ?_; rintro e w' ⟨rfl, y, rfl⟩; simp only [ext_ext'])
          | (go_at_call 20; with_reducible refine (next_any true a p l fr H0.out (f X) HFX.out _).mono ?_; rintro e w' ⟨e1, y, rfl⟩; rw [HN.out, HCK.out] at e1; subst e1; simp only [ext_ext'])
          | (with_reducible refine at_op (.store 58 (.tmp 8) (.tmp 45)) rfl ?_; intro _; refine step_store20 58 (.tmp 8) (.tmp 45) rfl _ _ rfl rfl _ _ inferInstance (by kernel_rfl) hCs hNs hN1 _ rfl ?_; simp only [setRow_new_tc, setRow_alloc_tc, setRow_drew_tc, setRow_ext])
          | go_values | go_skip | go_guarded | go_step | go_upon | go_step3)
        go_roundw
        case rel =>
          exact ⟨l + 1, fr2, by omega, by omega, g0, g1, rfl, by rw [show (4 - (l + 1)).toNat = kk by have := HK.out; omega]; exact HGO, Lib.hid ⟨(by (repeat (first | with_reducible exact HUP.out | with_reducible apply Up.drew | with_reducible apply Up.alloc | with_reducible apply Up.ext | with_reducible refine Up.setRow _ _ (Nat.le_refl _) ?_ | with_reducible refine Up.setRow _ _ (Nat.le_of_lt HLE.out) ?_))), HLE.out, (inferInstance : LtW q _).lt, ⟨N, hNs, inferInstance⟩, inferInstance⟩⟩
        case measure => simp [intOf]; omega
      · rw [if_neg hk] at hgo
        obtain ⟨n0, n1, n2, n3, n4⟩ := nextC_end HCK.out hk
        rw [hN] at n0 n1 n2 n3 n4 hNs hN1 hgo
        have m0 := get_of n0; have m1 := get_of n1; have m2 := get_of n2; have m3 := get_of n3; have m4 := get_of n4
        have HN := Lib.hid hN; have HGO := Lib.hid hgo; have HK := Lib.hid hkk
        clear hN hk hgo hkk
        repeat (first
          | (go_at_call 16; with_reducible refine (word_any true a p l fr H0.out _ _ HWV.out 0 HCK.out).mono ?_; rintro e w' ⟨rfl, y, rfl⟩; simp only [])
          | (go_at_call 25; with_reducible refine (mread_any (HM.out.below (ext_below _ _)) X HXB.out hn).mono ?_; rintro e w' ⟨rfl, y, rfl⟩; simp only [ext_ext'])
          | (go_at_call 20; with_reducible refine (next_any true a p l fr H0.out (f X) HFX.out _).mono ?_; rintro e w' ⟨e1, y, rfl⟩; rw [HN.out, HCK.out] at e1; subst e1; simp only [ext_ext'])
          | (with_reducible refine at_op (.store 58 (.tmp 8) (.tmp 45)) rfl ?_; intro _; refine step_store20 58 (.tmp 8) (.tmp 45) rfl _ _ rfl rfl _ _ inferInstance (by kernel_rfl) hCs hNs hN1 _ rfl ?_; simp only [setRow_new_tc, setRow_alloc_tc, setRow_drew_tc, setRow_ext])
          | (with_reducible refine at_op (.store 58 (.tmp 8) (.tmp 54)) rfl ?_; intro _; refine step_store20 58 (.tmp 8) (.tmp 54) rfl _ _ rfl rfl _ _ inferInstance (by kernel_rfl) hNs hNs hN1 _ rfl ?_; simp only [setRow_new_tc, setRow_alloc_tc, setRow_drew_tc, setRow_ext])
          | (with_reducible refine at_op (.load 58 (.tmp 8)) rfl ?_; intro _; refine step_load20 58 (.tmp 8) rfl _ rfl _ _ inferInstance _ Try.underlying58 rfl (by kernel_rfl) hNs ?_)
          | go_values | go_skip | go_guarded | go_step | go_upon | go_step3)
        rw [Exit.noGoto_ret]
        have hfin := HGO.out
        subst hfin
        refine bodyPost_ret (v := .tuple #[.agg N, .int .i64 (l + 1), .int .i64 0]) ?_ ?_ ?_
        · exact results20_tmp2 rfl _ _ _ _ _ _ rfl inferInstance Try.underlying58 rfl (by kernel_rfl) hNs _ _ rfl rfl
        · rfl
        · exact ⟨rfl, up_to (h := (by (repeat (first | with_reducible exact HUP.out | with_reducible apply Up.drew | with_reducible apply Up.alloc | with_reducible apply Up.ext | with_reducible refine Up.setRow _ _ (Nat.le_refl _) ?_ | with_reducible refine Up.setRow _ _ (Nat.le_of_lt HLE.out) ?_))))⟩
    · rw [if_neg hn] at hgo
      have hn' : n ≤ X / 512 := by omega
      have HGO := Lib.hid hgo
      clear hgo hn hkk
      have hz1 : (zero20.all fun x => x.oneCell') = true := by simp [zero20, Value.oneCell']
      repeat (first
          | (go_at_call 16; with_reducible refine (word_any true a p l fr H0.out _ _ HWV.out 0 HCK.out).mono ?_; rintro e w' ⟨rfl, y, rfl⟩; simp only [])
          | (go_at_call 25; with_reducible refine (mread_bad (HM.out.below (ext_below _ _)) X HXB.out hn').mono ?_; rintro e w' ⟨rfl, y, rfl⟩; simp only [ext_ext'])
          | (with_reducible refine at_op (.build 58 #[]) rfl ?_; intro _; refine step_build 58 #[] rfl zero20 (by kernel_rfl) ?_)
          | (with_reducible refine at_op (.store 58 (.tmp 8) (.tmp 40)) rfl ?_; intro _; refine step_store20 58 (.tmp 8) (.tmp 40) rfl _ _ rfl rfl _ _ inferInstance (by kernel_rfl) hCs rfl hz1 _ rfl ?_; simp only [setRow_new_tc, setRow_alloc_tc, setRow_drew_tc, setRow_ext])
          | go_values | go_skip | go_guarded | go_step | go_upon | go_step3)
      rw [Exit.noGoto_ret]
      have hfin := HGO.out
      subst hfin
      refine bodyPost_ret (v := .tuple #[.agg zero20, .int .i64 0, .int .i64 80]) ?_ ?_ ?_
      · exact results20_tmp2 rfl _ _ _ _ _ _ rfl inferInstance Try.underlying58 rfl (by kernel_rfl) rfl _ _ rfl rfl
      · rfl
      · exact ⟨rfl, up_to (h := (by (repeat (first | with_reducible exact HUP.out | with_reducible apply Up.drew | with_reducible apply Up.alloc | with_reducible apply Up.ext | with_reducible refine Up.setRow _ _ (Nat.le_refl _) ?_ | with_reducible refine Up.setRow _ _ (Nat.le_of_lt HLE.out) ?_))))⟩
end
end Go.Proofs.Ytcjklghjnbhcdaa
