/- Encode, Decode, and that InvalBack walks to true. -/
import Derived.Test.YtoibeflmldiehaaInv
namespace Go.Proofs.Ytoibeflmldiehaa
open Go.RowKit

def encV (k a p : Int) : Value := if mayB k a p then .tuple #[.int .u64 (a * 281474976710656 + p), .int .i64 0] else .tuple #[.int .u64 0, .int .i64 2]
def decV (k v : Int) : Value := if mayB k (v / 281474976710656) (v % 281474976710656) then .tuple #[tlbi k (v / 281474976710656) (v % 281474976710656), .int .i64 0] else .tuple #[tlbi 0 0 0, .int .i64 2]

theorem or48 (a p : Int) (a1 : 0 ≤ a) (a2 : a ≤ 255) (p0 : 0 ≤ p) (p1 : p < 34359738368) : bits .or .u64 (a * 281474976710656) p = a * 281474976710656 + p := by
  obtain ⟨A, rfl⟩ := Int.eq_ofNat_of_zero_le a1
  obtain ⟨B, rfl⟩ := Int.eq_ofNat_of_zero_le p0
  have h := Nat.shiftLeft_add_eq_or_of_lt (b := B) (i := 48) (by omega) A
  rw [Nat.shiftLeft_eq] at h
  have e : ((A : Int) * 281474976710656) = ((A * 281474976710656 : Nat) : Int) := by simp
  rw [e, bits_or_u64_nat _ _ (by omega) (by omega)]
  have h' : A * 281474976710656 ||| B = A * 281474976710656 + B := h.symm
  rw [h']; simp

theorem low48 (v : Int) : IntKind.u64.wrap (v * 65536) / 65536 = v % 281474976710656 := by
  rw [IntKind.wrap_u64]; omega

theorem Encode_to (k a p : Int) (hp0 : 0 ≤ p) (r : Value) (hr : encV k a p = r) (w : World) :
    Calls Try.prog 18 #[tlbi k a p] w fun e w' => e = .returned r ∧ ∃ x, w' = ext w x := by
  have H : Hid (encV k a p = r) := hr
  clear hr
  by_cases h : mayB k a p = true
  · have hm := h
    simp only [mayB, decide_eq_true_eq] at hm
    obtain ⟨a1, a2, a3, _⟩ := hm
    go_enter Try.func18, Try.ntmps18
    go_wp2_with (go_at_call 56; refine (may_any _ _ _ _).mono ?_; rintro e w' ⟨rfl, x, rfl⟩)
    go_ret2
    refine ⟨?_, up_to⟩
    rw [← H.out, encV, if_pos h]
    simp [or48 a p a1 a2 hp0 a3]
  · have h : mayB k a p = false := by simpa using h
    go_enter Try.func18, Try.ntmps18
    go_wp2_with (go_at_call 56; refine (may_any _ _ _ _).mono ?_; rintro e w' ⟨rfl, x, rfl⟩)
    go_ret2
    refine ⟨?_, up_to⟩
    rw [← H.out, encV, if_neg (by simpa using h)]
    simp

theorem Decode_to (k v : Int) (h0 : 0 ≤ v) (h1 : v < 18446744073709551616) (r : Value) (hr : decV k v = r) (w : World) :
    Calls Try.prog 19 #[.int .i8 k, .int .u64 v] w fun e w' => e = .returned r ∧ ∃ x, w' = ext w x := by
  have H : Hid (decV k v = r) := hr
  clear hr
  have e := low48 v
  by_cases h : mayB k (v / 281474976710656) (v % 281474976710656) = true
  · go_enter Try.func19, Try.ntmps19
    go_wp2_with (go_at_call 56; refine (may_any _ _ _ _).mono ?_; rintro e w' ⟨rfl, x, rfl⟩)
    refine bodyPost_ret (v := .tuple #[tlbi k (v / 281474976710656) (v % 281474976710656), .int .i64 0]) (by simp [results, Try.results19, go_sem]) rfl ⟨?_, up_to⟩
    rw [← H.out, decV, if_pos h]
  · have h : mayB k (v / 281474976710656) (v % 281474976710656) = false := by simpa using h
    go_enter Try.func19, Try.ntmps19
    go_wp2_with (go_at_call 56; refine (may_any _ _ _ _).mono ?_; rintro e w' ⟨rfl, x, rfl⟩)
    refine bodyPost_ret (v := .tuple #[tlbi 0 0 0, .int .i64 2]) (by simp [results, Try.results19, go_sem]) rfl ⟨?_, up_to⟩
    rw [← H.out, decV, if_neg (by simpa using h)]

theorem enc_no {k a p : Int} (h : mayB k a p = false) : encV k a p = .tuple #[.int .u64 0, .int .i64 2] := by simp [encV, h]
theorem enc_yes {k a p : Int} (h : mayB k a p = true) : encV k a p = .tuple #[.int .u64 (a * 281474976710656 + p), .int .i64 0] := by simp [encV, h]
theorem dec_back {k a p : Int} (h : mayB k a p = true) (hp : 0 ≤ p) : decV k (a * 281474976710656 + p) = .tuple #[tlbi k a p, .int .i64 0] := by
  have hm := h
  simp only [mayB, decide_eq_true_eq] at hm
  have e1 : (a * 281474976710656 + p) / 281474976710656 = a := by omega
  have e2 : (a * 281474976710656 + p) % 281474976710656 = p := by omega
  simp [decV, e1, e2, h]
theorem dec_no {k v : Int} (h : mayB k (v / 281474976710656) (v % 281474976710656) = false) : decV k v = .tuple #[tlbi 0 0 0, .int .i64 2] := by simp [decV, h]
theorem dec_yes {k v : Int} (h : mayB k (v / 281474976710656) (v % 281474976710656) = true) : decV k v = .tuple #[tlbi k (v / 281474976710656) (v % 281474976710656), .int .i64 0] := by simp [decV, h]
theorem enc_back {k v : Int} (h : mayB k (v / 281474976710656) (v % 281474976710656) = true) : encV k (v / 281474976710656) (v % 281474976710656) = .tuple #[.int .u64 v, .int .i64 0] := by
  have e : v / 281474976710656 * 281474976710656 + v % 281474976710656 = v := by omega
  simp [encV, h, e]
theorem enc_bound {k a p : Int} (h : mayB k a p = true) (hp : 0 ≤ p) : 0 ≤ a * 281474976710656 + p ∧ a * 281474976710656 + p < 18446744073709551616 := by
  simp only [mayB, decide_eq_true_eq] at h
  omega

theorem InvalBack_walk (k a p v : Int) (_ : (Lit.int .i8 k).wf = true) (_ : (Lit.int .i64 a).wf = true) (w2 : (Lit.int .u64 p).wf = true) (w3 : (Lit.int .u64 v).wf = true) (w : World) :
    Calls Try.prog 4 #[tlbi k a p, .int .u64 v] w fun e w' => e = .returned (.bool true) ∧ ∃ x, w' = ext w x := by
  obtain ⟨p0, p1⟩ := bd_u64 w2
  obtain ⟨v0, v1⟩ := bd_u64 w3
  have v2 : 0 ≤ v % 281474976710656 := by omega
  have hA : (∃ r, encV k a p = r ∧ r = .tuple #[.int .u64 0, .int .i64 2]) ∨ (0 ≤ a * 281474976710656 + p ∧ a * 281474976710656 + p < 18446744073709551616 ∧ encV k a p = .tuple #[.int .u64 (a * 281474976710656 + p), .int .i64 0] ∧ decV k (a * 281474976710656 + p) = .tuple #[tlbi k a p, .int .i64 0]) := by
    by_cases h : mayB k a p = true
    · exact .inr ⟨(enc_bound h p0).1, (enc_bound h p0).2, enc_yes h, dec_back h p0⟩
    · exact .inl ⟨_, rfl, enc_no (by simpa using h)⟩
  have hB : (∃ r, decV k v = r ∧ r = .tuple #[tlbi 0 0 0, .int .i64 2]) ∨ (decV k v = .tuple #[tlbi k (v / 281474976710656) (v % 281474976710656), .int .i64 0] ∧ encV k (v / 281474976710656) (v % 281474976710656) = .tuple #[.int .u64 v, .int .i64 0]) := by
    by_cases h : mayB k (v / 281474976710656) (v % 281474976710656) = true
    · exact .inr ⟨dec_yes h, enc_back h⟩
    · exact .inl ⟨_, rfl, dec_no (by simpa using h)⟩
  rcases hA with ⟨_, hA1, rfl⟩ | ⟨b1, b2, hA1, hA2⟩ <;> rcases hB with ⟨_, hB1, rfl⟩ | ⟨hB1, hB2⟩
  all_goals
    go_enter Try.func4, Try.ntmps4
    go_wp2_with (first | (go_at_call 18; refine (Encode_to _ _ _ (by assumption) _ (by assumption) _).mono ?_; rintro e w' ⟨rfl, x, rfl⟩) | (go_at_call 19; refine (Decode_to _ _ (by assumption) (by assumption) _ (by assumption) _).mono ?_; rintro e w' ⟨rfl, x, rfl⟩) | (go_at_call 15; refine (wakes5 _).mono ?_; rintro e w' ⟨rfl, x, rfl⟩))
    go_ret; exact ⟨rfl, up_to⟩
end Go.Proofs.Ytoibeflmldiehaa
