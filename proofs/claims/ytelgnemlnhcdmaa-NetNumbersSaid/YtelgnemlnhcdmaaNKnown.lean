/- The contract of the statements' helper 'known'. -/
import Derived.Test.YtelgnemlnhcdmaaNTake
namespace Go.Proofs.Ytelgnemlnhcdmaa
open Go.RowKit

/-- A net of the call's own. -/
def NetIn (w0 : World) (D : Nat) (room : Int) (ms : List MsgT) (wr : World) : Prop := ∃ F, NetAt wr w0.heap.size F D room ms ∧ Below w0.heap.size w0 wr
theorem NetIn.of {w0 wr w' : World} {F : Nat → Prop} {D : Nat} {room : Int} {ms ms' : List MsgT} (h : NetAt wr w0.heap.size F D room ms) (hb : Below w0.heap.size w0 wr) (ht : NetTurned wr w0.heap.size F D room ms' w') : NetIn w0 D room ms' w' := by
  obtain ⟨F', h1, h2, h3⟩ := ht
  have hl := h.lt
  have := hl.2 D hl.1
  exact ⟨F', h1, hb.trans (h3.below (fun k hk => (hl.2 k hk).1) (by omega))⟩
theorem NetIn.below {w0 wr w' : World} {D : Nat} {room : Int} {ms : List MsgT} (h : NetIn w0 D room ms wr) (hb : Below wr.heap.size wr w') : NetIn w0 D room ms w' := by
  obtain ⟨F, h1, h2⟩ := h
  exact ⟨F, h1.below hb, h2.trans (hb.mono h2.size)⟩
theorem NetIn.new (w : World) (room : Int) : NetIn w w.heap.size room [] (w.alloc (.cells #[.int .i64 room, .slice none 0 0] 45)) :=
  ⟨_, NetAt.new w w.heap.size room (Nat.le_refl _), (Below.refl _ _).alloc (Nat.le_refl _) _⟩
def SameEnd (w : World) (e : Ending) (w' : World) : Prop := e = .returned (.bool true) ∧ Below w.heap.size w w'
/-- A message of a kind and a number alone. -/
abbrev msgOf (k q : Int) : MsgT := ⟨k, 0, 0, 0, 0, 0, 0, q, [], []⟩
theorem msgOf_small (k q : Int) : Small (msgOf k q) := ⟨by simp, by simp, fun v hv => by cases hv⟩

theorem send_of {w0 wr : World} {D : Nat} {room : Int} {ms : List MsgT} (k q : Int) (h : NetIn w0 D room ms wr) (hr : (ms.length : Int) < room) (hr2 : room ≤ 1000) :
    Calls Try.prog 7 #[.pointer (some ⟨D, 0, none⟩), .agg #[.int .i64 k, .int .i64 0, .int .i64 0, .int .i64 0, .int .i64 0, .int .i64 0, .int .i64 0, .int .i64 q, .slice none 0 0, .slice none 0 0]] wr fun e w' => e = .returned (.bool true) ∧ NetIn w0 D room (ms ++ [msgOf k q]) w' := by
  obtain ⟨F, h1, h2⟩ := h
  refine (send_ok (msgOf k q) (.slice none 0 0) (.slice none 0 0) (fun _ => False) h1 hr hr2 (SliceOf.nil RByte 1 _ _) (SliceOf.nil RVote 3 _ _) (fun _ g => g.elim) (msgOf_small k q)).mono ?_
  rintro e w' ⟨rfl, ht⟩
  exact ⟨rfl, NetIn.of h1 h2 ht⟩
theorem take_of {w0 wr : World} {D : Nat} {room : Int} {ms : List MsgT} {x : MsgT} (k : Nat) (h : NetIn w0 D room ms wr) (hx : ms[k]? = some x) (hml : ms.length ≤ 1000) :
    Calls Try.prog 10 #[.pointer (some ⟨D, 0, none⟩), .int .i64 k] wr fun e w' => (∃ A n c A' n' c', e = .returned (.tuple #[.agg (msgCells x (.slice A n c) (.slice A' n' c')), .bool true])) ∧ NetIn w0 D room (ms.eraseIdx k) w' := by
  obtain ⟨F, h1, h2⟩ := h
  refine (take_at k h1 hx hml).mono ?_
  rintro e w' ⟨⟨bv, lv, rfl, hb, hl⟩, ht⟩
  obtain ⟨A, c, rfl⟩ := slice_shape hb
  obtain ⟨A', c', rfl⟩ := slice_shape hl
  exact ⟨⟨_, _, _, _, _, _, rfl⟩, NetIn.of h1 h2 ht⟩
theorem take_none {w0 wr : World} {D : Nat} {room : Int} {ms : List MsgT} (i : Int) (h : NetIn w0 D room ms wr) (hi : ¬ (0 ≤ i ∧ i < ms.length)) :
    Calls Try.prog 10 #[.pointer (some ⟨D, 0, none⟩), .int .i64 i] wr fun e w' => e = .returned (.tuple #[.agg #[.int .i64 0, .int .i64 0, .int .i64 0, .int .i64 0, .int .i64 0, .int .i64 0, .int .i64 0, .int .i64 0, .slice none 0 0, .slice none 0 0], .bool false]) ∧ NetIn w0 D room ms w' := by
  have hn := h
  obtain ⟨F, h1, h2⟩ := h
  refine (take_no i h1 hi).mono ?_
  rintro e w' ⟨rfl, ht, hb⟩
  exact ⟨rfl, hn.below hb⟩
theorem len_of {w0 wr : World} {D : Nat} {room : Int} {ms : List MsgT} (h : NetIn w0 D room ms wr) : Calls Try.prog 11 #[.pointer (some ⟨D, 0, none⟩)] wr fun e w' => e = .returned (.int .i64 ms.length) ∧ wr = w' := by
  obtain ⟨F, h1, h2⟩ := h
  exact len_any h1

set_option maxHeartbeats 1000000 in
theorem known_any (w : World) : Calls Try.prog 12 #[] w (SameEnd w) := by
  have H0 := Lib.hid (NetIn.new w 4)
  go_enter Try.func12, Try.ntmps12
  go_wp2_with fail
  refine (new_ok 4 w (by omega) (by omega)).mono ?_
  rintro e w1 ⟨rfl, rfl⟩
  go_wp2_with fail
  refine (new_bad 0 _ (by omega)).mono ?_
  rintro e w1 ⟨rfl, rfl⟩
  go_wp2_with fail
  refine (send_of 1 0 H0.out (by simp) (by omega)).mono ?_
  rintro e w1 ⟨rfl, h1⟩
  have H1 := Lib.hid h1
  clear h1 H0
  go_wp2_with fail
  refine (send_of 2 0 H1.out (by simp) (by omega)).mono ?_
  rintro e w2 ⟨rfl, h2⟩
  have H2 := Lib.hid h2
  clear h2 H1
  go_wp2_with fail
  refine (take_of (x := msgOf 2 0) 1 H2.out rfl (by simp)).mono ?_
  rintro e w3 ⟨⟨A, n, c, A', n', c', rfl⟩, h3⟩
  have H3 := Lib.hid (h3.below ((Below.refl _ _).alloc (Nat.le_refl _) (.cells (msgCells (msgOf 2 0) (.slice A n c) (.slice A' n' c')) 31)))
  clear h3 H2
  go_wp2_with fail
  refine (len_of H3.out).mono ?_
  rintro e w4 ⟨rfl, rfl⟩
  go_wp2_with fail
  obtain ⟨F, h4, h5⟩ := H3.out
  refine (double_no 5 h4 (by simp)).mono ?_
  rintro e w4 ⟨rfl, rfl⟩
  have Hend := Lib.hid h5
  clear h4 h5 H3
  go_wp2_with fail
  go_ret
  exact ⟨rfl, Hend.out⟩
end Go.Proofs.Ytelgnemlnhcdmaa
