/- The walk of LearnPlays: it returns true. -/
import Derived.Test.YtkghogfcfocmpaaLDo
import Derived.Test.YtkghogfcfocmpaaLKnown
import Derived.Test.YtkghogfcfocmpaaLFirm
namespace Go.Proofs.Ytkghogfcfocmpaa
open Go.RowKit

theorem TwoAny.new (W1 : World) (k : Int) : TwoAny W1 W1.heap.size (W1.heap.size + 1) k 0 ((W1.alloc (.cells #[.int .i64 k, .int .i64 0, .slice none 0 0, .slice none 0 0] 50)).alloc (.cells #[.int .i64 k, .int .i64 0, .slice none 0 0, .slice none 0 0] 42)) := by
  have hL := (LearnF.new W1 k).more (F' := fun g => g = W1.heap.size + 1 ∨ False) (w' := (W1.alloc (.cells #[.int .i64 k, .int .i64 0, .slice none 0 0, .slice none 0 0] 50)).alloc (.cells #[.int .i64 k, .int .i64 0, .slice none 0 0, .slice none 0 0] 42)) ((Below.refl _ _).alloc (Nat.le_refl _) _) (fun g hg => .inr (by simp at hg ⊢; omega))
  have hB := Blk.new (W1.alloc (.cells #[.int .i64 k, .int .i64 0, .slice none 0 0, .slice none 0 0] 50)) 42 #[.int .i64 k, .int .i64 0, .slice none 0 0, .slice none 0 0]
  rw [World.size_alloc] at hB
  exact ⟨0, [], [], [], [], fun _ => False, _, _, hL, ⟨hB, Owns.nil _ _ _ _ _ _, Owns.nil _ _ _ _ _ _, fun k e => by simp [Value.ownBlock] at e, fun k e => by simp [Value.ownBlock] at e, fun k e => e.elim⟩, by omega, Joint.nil _ _, by simp, by simp, by simp, by simp, by simp, by simp, by omega, by omega⟩
theorem TwoAny.sub {w0 wr : World} {D M N : Nat} {n : Int} (h : TwoAny w0 D M n N wr) : Below w0.heap.size w0 wr := by
  obtain ⟨_, _, _, _, _, _, _, _, h⟩ := h
  exact h.lrn.sub
theorem TwoAny.below {w0 wr w' : World} {D M N : Nat} {n : Int} (h : TwoAny w0 D M n N wr) (hb : Below wr.heap.size wr w') : TwoAny w0 D M n N w' := by
  obtain ⟨_, _, _, _, _, _, _, _, h⟩ := h
  exact ⟨_, _, _, _, _, _, _, _, h.below hb⟩
theorem TwoAny.more {w0 wr : World} {D M N N' : Nat} {n : Int} (h : TwoAny w0 D M n N wr) (hN : N ≤ N') : TwoAny w0 D M n N' wr := by
  obtain ⟨_, _, _, _, _, _, _, _, h⟩ := h
  exact ⟨_, _, _, _, _, _, _, _, h.more hN⟩
set_option maxRecDepth 100000 in
set_option maxHeartbeats 8000000 in
theorem plays_any (n : Int) (v : Value) (l : List LAskT) (w : World) (hn1 : -9223372036854775808 ≤ n) (hn2 : n ≤ 9223372036854775807) (h : SliceOf RLAsk 6 w (fun k => k < w.heap.size) v l) : Calls Try.prog 5 #[.int .i64 n, v] w (SameEnd w) := by
  have H := Lib.hid h
  obtain ⟨A, cap, rfl, hc0, hcm, _⟩ := h
  have hmax : l.length ≤ 9223372036854775807 := by unfold maxLen at hcm; omega
  obtain ⟨r, hr3, hrm⟩ := pick_odd n
  obtain ⟨k, hk, hkc⟩ := odd_cell w r hr3
  have hkr : isRight k = true := by rcases hk with rfl | rfl | rfl <;> rfl
  have hr0 : (0 : Int) ≤ r := by omega
  have hr3' : (r : Int) < 3 := by omega
  have Hkr := Lib.hid hkr
  obtain ⟨W1, hW1⟩ : ∃ W1, W1 = w.alloc (.cells #[.int .i64 1, .int .i64 3, .int .i64 5] 3) := ⟨_, rfl⟩
  have b1 : Below w.heap.size w W1 := by rw [hW1]; exact (Below.refl _ _).alloc (Nat.le_refl _) _
  rw [← hW1] at hkc
  have hnew := TwoAny.new W1 k
  have Hnew := Lib.hid hnew
  have HW1 := Lib.hid hW1
  have B1 := Lib.hid b1
  have Hrm := Lib.hid hrm
  clear hc0 hcm hk hkr hW1 b1 hrm hnew
  go_enter Try.func5, Try.ntmps5
  go_wp2_with fail
  rw [← HW1.out]
  refine (within_any n 0 1048576 _ hn1 hn2 (by omega) (by omega) (by omega)).mono ?_
  rintro e w' ⟨rfl, rfl⟩
  have hrm := Hrm.out
  generalize within n 0 1048576 = rw at *
  go_wp2_with fail
  refine (new_ok k W1 Hkr.out).mono ?_
  rintro e w1 ⟨rfl, hw1⟩
  rw [hw1] at Hnew
  have hz1 : w1.heap.size = W1.heap.size + 1 := by rw [← hw1]; simp
  obtain ⟨D, hD⟩ : ∃ D, W1.heap.size = D := ⟨_, rfl⟩
  rw [hD] at Hnew hz1
  rw [hD]
  have HD := Lib.hid hD
  clear hD hw1
  go_wp2_with fail
  go_loopw [8] (fun i wr => ∃ i' : Nat, i' ≤ l.length ∧ i' ≤ 80 ∧ i = .int .i64 i' ∧ TwoAny W1 D (D + 1) k i' wr) (fun i _ => 80 - (intOf i).toNat)
  case atStart => exact ⟨0, Nat.zero_le _, by omega, rfl, Hnew.out⟩
  case round =>
    obtain ⟨i, hi, hi80, rfl, hT⟩ := hrel
    have hbb := B1.out.trans (hT.sub.mono B1.out.size)
    have Hbb := Lib.hid hbb
    have HT := Lib.hid hT
    clear hbb hT
    by_cases hlt : i < l.length ∧ i < 80
    · obtain ⟨hlt, hlt8⟩ := hlt
      have g1 : (i : Int) < l.length := by omega
      have g2 : (i : Int) < 80 := by omega
      have g3 : (0 : Int) ≤ i := by omega
      obtain ⟨a, ha⟩ : ∃ a, l[i]? = some a := ⟨l[i], List.getElem?_eq_getElem (by omega)⟩
      have hsl := SliceOf.below (S' := fun k => k < w.heap.size) RLAsk.kept H.out Hbb.out (fun k h => h) (fun _ h => h)
      obtain ⟨bl, ol, rfl, hbl, c0, c1, c2, c3, c4, c5, _, i1, i2, i3, i4⟩ := ask_at hsl ha
      have hdo := do_any a HT.out Hkr.out (by omega) i1 i2 i3 i4
      obtain ⟨akind, aslot, aballot, afrm, av, araw⟩ := a
      simp only at c0 c1 c2 c3 c4 c5
      have Hdo := Lib.hid hdo
      clear hdo hsl ha i1 i2 i3 i4
      go_wp2_with fail
      refine Hdo.out.mono ?_
      rintro e w2 ⟨rfl, hT2⟩
      have HT2 := Lib.hid hT2
      clear hT2
      go_wp2_with fail
      go_roundw
      case rel => exact ⟨i + 1, by omega, by omega, by go_num, HT2.out⟩
      case measure => simp [intOf]; omega
    · have g0 : ((i : Int) < l.length ∧ ¬ (i : Int) < 80) ∨ ¬ (i : Int) < l.length := by omega
      clear hlt
      rcases g0 with ⟨g1, g2⟩ | g1
      all_goals
        go_wp2_with fail
        refine (known_any wr).mono ?_
        rintro e w' ⟨rfl, hb⟩
        go_wp2_with fail
        go_ret
        exact ⟨rfl, Hbb.out.trans (hb.mono Hbb.out.size)⟩
end Go.Proofs.Ytkghogfcfocmpaa
