/- The contract of the statements' helper 'known'. -/
import Derived.Test.YtkghogfcfocmpaaLUse
namespace Go.Proofs.Ytkghogfcfocmpaa
open Go.RowKit

theorem lit_x (w : World) : BytesAt (w.alloc (.cells #[.int .u8 120] 5 (1, 2))) (fun k => k = w.heap.size) (.slice (some ⟨w.heap.size, 0, none⟩) 1 1) [120] := bytes_lit w #[.int .u8 120] [120] (1, 2) rfl (by simp)
set_option maxRecDepth 100000 in
set_option maxHeartbeats 2000000 in
theorem known_any (w : World) : Calls Try.prog 11 #[] w (SameEnd w) := by
  have kc := const_rule
  have L0 := Lib.hid (LearnIn.new w 3)
  go_enter Try.func11, Try.ntmps11
  go_wp2_with fail
  refine (new_ok 3 w rfl).mono ?_
  rintro e w1 ⟨rfl, hw1⟩
  rw [hw1] at L0
  clear hw1
  go_wp2_with fail
  refine (take_of 0 1 0 _ [120] (fun k => k = w1.heap.size) L0.out ((Below.refl _ _).alloc (Nat.le_refl _) (.cells #[.int .u8 120] 5 (1, 2))) rfl (by omega) (by omega) (by unfold InReach; omega) (by simp) (by simp) (by simp) (by simp) (lit_x w1) (fun k hk => by subst hk; simp)).mono ?_
  rintro e w2 ⟨T, _, rfl, h2⟩
  rw [took_1] at h2
  rw [took_1]
  have L2 := Lib.hid h2
  clear h2 L0
  go_wp2_with fail
  refine (take_of 0 1 2 _ [120] (fun k => k = w2.heap.size) L2.out ((Below.refl _ _).alloc (Nat.le_refl _) (.cells #[.int .u8 120] 5 (1, 2))) rfl (by omega) (by omega) (by unfold InReach; omega) (by simp) (by simp) (by simp) (by simp) (lit_x w2) (fun k hk => by subst hk; simp)).mono ?_
  rintro e w3 ⟨T', _, rfl, h3⟩
  rw [took_2] at h3
  rw [took_2]
  have L3 := Lib.hid (h3.below ((Below.refl _ _).alloc (Nat.le_refl _) (.cells #[.int .u8 120] 5 (1, 2))))
  clear h3 L2
  go_wp2_with fail
  refine (take_not 0 1 3 _ L3.out (by omega) (by omega) (by unfold InReach; omega)).mono ?_
  rintro e w4 ⟨rfl, h4⟩
  have L4 := Lib.hid h4
  clear h4 L3
  go_wp2_with fail
  refine (decided_of 0 L4.out (by simp) (by simp)).mono ?_
  intro e w5 h5
  have b5 := h5.below
  rw [(val_1 T).1] at h5
  obtain ⟨A1, c1, rfl, ho, _⟩ := h5
  have hx := Owns.slice (S' := fun k => k < w5.heap.size) RByte.kept (owns_bytes (S := fun _ => False) ho) (fun _ g => g.elim) (fun k e => (ho.lt k e).2)
  have L5 := Lib.hid (L4.out.below b5)
  have Hx := Lib.hid hx
  clear b5 ho hx L4
  go_wp2_with fail
  refine (decided_of 1 L5.out (by simp) (by simp)).mono ?_
  intro e w6 h6
  rw [(val_1 T).2] at h6
  obtain ⟨rfl, rfl⟩ := h6
  have kx : (convert 32 9 (.slice A1 1 c1)).run Try.prog w5 = .ok (.string ⟨#[120]⟩) w5 := conv_bytes Hx.out Try.underlying32 Try.underlying5 Try.underlying9 (fun _ _ => rfl)
  have Hend := Lib.hid L5.out.sub
  go_wp2_with fail
  refine (new_bad 2 w5 rfl).mono ?_
  rintro e w7 ⟨rfl, rfl⟩
  go_wp2_with fail
  go_ret
  exact ⟨rfl, Hend.out⟩
end Go.Proofs.Ytkghogfcfocmpaa
