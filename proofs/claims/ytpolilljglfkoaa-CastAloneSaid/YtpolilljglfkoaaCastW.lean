/- What the document says of three cores: the cast laws' wakes. -/
import Derived.Test.YtpolilljglfkoaaCastH
namespace Go.Proofs.Ytpolilljglfkoaa
open Go.RowKit

abbrev w0r : Nat → List P4 := fun _ => []
abbrev w1r : Nat → List P4 := sent w0r 1 ⟨1, 0, 0, 0⟩ 4
theorem w_send : sendE 3 w0r 1 0 0 0 = 0 := by
  rw [sendE, if_pos ⟨by decide, by decide, by decide⟩, if_neg]
  rintro ⟨j, _, _, _, h⟩
  simp at h
theorem w_sendR : sendR 3 w0r 1 0 0 0 = w1r := by rw [sendR, if_pos w_send]; rfl
abbrev w2r : Nat → List P4 := upd w1r 2 []
abbrev w3r : Nat → List P4 := upd w2r 3 []

set_option maxHeartbeats 2000000 in
theorem wakes13 (w : World) : Calls Try.prog 10 #[] w fun e w' => e = .returned (.bool true) ∧ ∃ x, w' = ext w x := by
  go_enter Try.func10, Try.ntmps10
  go_wp2_with fail
  refine (new_yes 3 _ (by decide) (by decide)).mono ?_
  rintro e w1 ⟨rfl, h1⟩
  have H1 := Lib.hid h1; clear h1
  go_wp2_with fail
  refine (send_of H1.out 1 0 0 0 0 w_send w1r w_sendR).mono ?_
  rintro e w2 ⟨rfl, h2, _⟩
  have H2 := Lib.hid h2; clear h2
  go_wp2_with fail
  refine (ack_of H2.out 2 0 rfl ⟨1, 0, 0, 0⟩ rfl w2r rfl).mono ?_
  rintro e w3 ⟨rfl, h3, _⟩
  have H3 := Lib.hid h3; clear h3
  go_wp2_with fail
  refine (done_of (H3.out.below up_below) 1 false (by decide)).mono ?_
  rintro e w4 ⟨rfl, z, rfl⟩
  go_wp2_with fail
  refine (ack_of (H3.out.below up_below) 3 0 rfl ⟨1, 0, 0, 0⟩ rfl w3r rfl).mono ?_
  rintro e w5 ⟨rfl, h5, _⟩
  have H5 := Lib.hid h5; clear h5
  go_wp2_with fail
  refine (ack_of (H5.out.below up_below) 1 4 rfl ⟨0, 0, 0, 0⟩ rfl (upd w3r 1 []) rfl).mono ?_
  rintro e w6 ⟨rfl, h6, _⟩
  have H6 := Lib.hid h6; clear h6
  go_wp2_with fail
  refine (done_of (H6.out.below up_below) 1 true (by decide)).mono ?_
  rintro e w7 ⟨rfl, z2, rfl⟩
  go_wp2_with fail
  go_ret
  exact ⟨rfl, ((H6.out.up.alloc _).ext _).to⟩
end Go.Proofs.Ytpolilljglfkoaa
