/- The statement PickNumbers: it returns true. -/
import Derived.Test.YtpnecbhbdfdijaaPickLaw1
namespace Go.Proofs.Ytpnecbhbdfdijaa
open Go.RowKit

theorem ChooseEnd.nil (w : World) (f : Int) (ls : List (List VoteT)) (hf : f < 0) : ChooseEnd w f ls (.returned (.slice none 0 0)) w :=
  ⟨_, rfl, by unfold choose; rw [if_pos hf]; exact SliceOf.nil RVote 3 _ _, Below.refl _ _⟩
theorem choose_all (f : Int) (v : Value) (ls : List (List VoteT)) (S : Nat → Prop) (w : World) (hf2 : f ≤ 1000000000) (h : SliceOf RVotes 1 w S v ls) (hS : ∀ k, S k → k < w.heap.size) (hok : ∀ l ∈ ls, ∀ x ∈ l, VoteOk x) (hll : ∀ l ∈ ls, l.length ≤ 1000000000) : Calls Try.prog 8 #[.int .i64 f, v] w (ChooseEnd w f ls) := by
  by_cases hf : f < 0
  · refine (choose_neg f v w hf).mono ?_
    rintro e w' ⟨rfl, rfl⟩
    exact ChooseEnd.nil w f ls hf
  · exact choose_any f v ls S w (by omega) hf2 h hS hok hll
theorem rchoose_all (f : Int) (v : Value) (ls : List (List VoteT)) (S : Nat → Prop) (w : World) (hf2 : f ≤ 1000000000) (h : SliceOf RVotes 1 w S v ls) (hS : ∀ k, S k → k < w.heap.size) (hok : ∀ l ∈ ls, ∀ x ∈ l, VoteOk x) (hll : ∀ l ∈ ls, l.length ≤ 1000000000) : Calls Try.prog 9 #[.int .i64 f, v] w (ChooseEnd w f ls) := by
  by_cases hf : f < 0
  · refine (rchoose_neg f v w hf).mono ?_
    rintro e w' ⟨rfl, rfl⟩
    exact ChooseEnd.nil w f ls hf
  · exact rchoose_any f v ls S w (by omega) hf2 h hS hok hll
theorem below_drewN {B : Nat} {w w' : World} (h : Below B w w') (n : Nat) : Below B w (w'.drewN n) := by
  induction n with
  | zero => exact h
  | succ n ih => exact Below.drew ih

/-- The votes of one round of PickNumbers. -/
abbrev numLists (s b : Int) : List (List VoteT) := [[⟨s, b, [97]⟩, ⟨2, 1, [98]⟩], [⟨2, 1, [99]⟩, ⟨s + 2, 0, []⟩], []]
theorem num_lit (w : World) (s b : Int) : SliceOf RVotes 1 ((((((w.alloc (.cells #[.int .u8 97] 5 (1, 2))).alloc (.cells #[.int .u8 98] 5 (1, 2))).alloc (.cells #[.int .i64 s, .int .i64 b, .slice (some ⟨w.heap.size, 0, none⟩) 1 1, .int .i64 2, .int .i64 1, .slice (some ⟨w.heap.size + 1, 0, none⟩) 1 1] 24)).alloc (.cells #[.int .u8 99] 5 (1, 2))).alloc (.cells #[.int .i64 2, .int .i64 1, .slice (some ⟨w.heap.size + 3, 0, none⟩) 1 1, .int .i64 (s + 2), .int .i64 0, .slice none 0 0] 24)).alloc (.cells #[.slice (some ⟨w.heap.size + 2, 0, none⟩) 2 2, .slice (some ⟨w.heap.size + 4, 0, none⟩) 2 2, .slice none 0 0] 25)) (fun k => k < w.heap.size + 6) (.slice (some ⟨w.heap.size + 5, 0, none⟩) 3 3) (numLists s b) := by
  have a1 := (bytes_lit1 w 97 97 _ (w.heap.size + 1) rfl rfl rfl).up RByte.kept (N := w.heap.size + 2) (by simp) (by omega) (.cells #[.int .u8 98] 5 (1, 2))
  have a2 := bytes_lit1 (w.alloc (.cells #[.int .u8 97] 5 (1, 2))) 98 98 (w.heap.size + 1) (w.heap.size + 2) rfl (by simp) rfl
  have a3 := votes_lit2 (s := s) (b := b) (s' := 2) (b' := 1) (N := w.heap.size + 3) a1 a2 (by simp) rfl
  have a4 := a3.up RVote.kept (N := w.heap.size + 4) (by simp) (by omega) (.cells #[.int .u8 99] 5 (1, 2))
  have b1 := bytes_lit1 ((((w.alloc (.cells #[.int .u8 97] 5 (1, 2))).alloc (.cells #[.int .u8 98] 5 (1, 2))).alloc (.cells #[.int .i64 s, .int .i64 b, .slice (some ⟨w.heap.size, 0, none⟩) 1 1, .int .i64 2, .int .i64 1, .slice (some ⟨w.heap.size + 1, 0, none⟩) 1 1] 24))) 99 99 (w.heap.size + 3) (w.heap.size + 4) rfl (by simp) rfl
  have b2 := votes_lit2 (s := 2) (b := 1) (s' := s + 2) (b' := 0) (N := w.heap.size + 5) b1 (SliceOf.nil RByte 1 _ _) (by simp) rfl
  have a5 := a4.up RVote.kept (N := w.heap.size + 5) (by simp) (by omega) (.cells #[.int .i64 2, .int .i64 1, .slice (some ⟨w.heap.size + 3, 0, none⟩) 1 1, .int .i64 (s + 2), .int .i64 0, .slice none 0 0] 24)
  exact lists_lit3 a5 b2 (SliceOf.nil RVote 3 _ _) (by simp) rfl
theorem num_below {w0 w : World} {B : Nat} (h : Below B w0 w) (hz : B ≤ w.heap.size) (s b : Int) : Below B w0 ((((((w.alloc (.cells #[.int .u8 97] 5 (1, 2))).alloc (.cells #[.int .u8 98] 5 (1, 2))).alloc (.cells #[.int .i64 s, .int .i64 b, .slice (some ⟨w.heap.size, 0, none⟩) 1 1, .int .i64 2, .int .i64 1, .slice (some ⟨w.heap.size + 1, 0, none⟩) 1 1] 24)).alloc (.cells #[.int .u8 99] 5 (1, 2))).alloc (.cells #[.int .i64 2, .int .i64 1, .slice (some ⟨w.heap.size + 3, 0, none⟩) 1 1, .int .i64 (s + 2), .int .i64 0, .slice none 0 0] 24)).alloc (.cells #[.slice (some ⟨w.heap.size + 2, 0, none⟩) 2 2, .slice (some ⟨w.heap.size + 4, 0, none⟩) 2 2, .slice none 0 0] 25)) := by
  exact (((((h.alloc hz _).alloc (by simp; omega) _).alloc (by simp; omega) _).alloc (by simp; omega) _).alloc (by simp; omega) _).alloc (by simp; omega) _
theorem num_ok (s b : Int) (h1 : -10 ≤ s) (h2 : s ≤ 100) (h3 : -10 ≤ b) (h4 : b ≤ 100) : (∀ l ∈ numLists s b, ∀ x ∈ l, VoteOk x) ∧ ∀ l ∈ numLists s b, l.length ≤ 1000000000 := by
  constructor
  · intro l hl x hx
    simp at hl
    rcases hl with rfl | rfl | rfl
    · simp at hx
      rcases hx with rfl | rfl
      · refine ⟨?_, ?_, ?_, ?_, ?_⟩ <;> simp <;> omega
      · refine ⟨?_, ?_, ?_, ?_, ?_⟩ <;> simp
    · simp at hx
      rcases hx with rfl | rfl
      · refine ⟨?_, ?_, ?_, ?_, ?_⟩ <;> simp
      · refine ⟨?_, ?_, ?_, ?_, ?_⟩ <;> simp <;> omega
    · simp at hx
  · intro l hl
    simp at hl
    rcases hl with rfl | rfl | rfl <;> simp

set_option maxRecDepth 100000 in
set_option maxHeartbeats 1000000 in
theorem numbers_any (w : World) : Calls Try.prog 3 #[] w (SameEnd w) := by
  have kc := const_rule
  go_enter Try.func3, Try.ntmps3
  go_wp2_with fail
  go_loopw [1] (fun x wr => ∃ f : Int, -1 ≤ f ∧ f ≤ 4 ∧ x = .int .i64 f ∧ Below w.heap.size w wr) (fun x _ => (4 - intOf x).toNat)
  case atStart => exact ⟨-1, by omega, by omega, rfl, Below.refl _ _⟩
  case round =>
    obtain ⟨f, hf1, hf2, rfl, hb⟩ := hrel
    have Hb := Lib.hid hb
    clear hb
    by_cases hf : f < 4
    · go_wp2_with fail
      go_loopw [2] (fun x wr => ∃ s : Int, -1 ≤ s ∧ s ≤ 24 ∧ x = .int .i64 s ∧ Below w.heap.size w wr) (fun x _ => (24 - intOf x).toNat)
      case atStart => exact ⟨-1, by omega, by omega, rfl, Hb.out⟩
      case round =>
        obtain ⟨s, hs1, hs2, rfl, hb⟩ := hrel
        have Hb := Lib.hid hb
        clear hb
        by_cases hs : s < 24
        · go_wp2_with fail
          go_loopw [3] (fun x wr => ∃ b : Int, -1 ≤ b ∧ b ≤ 3 ∧ x = .int .i64 b ∧ Below w.heap.size w wr) (fun x _ => (3 - intOf x).toNat)
          case atStart => exact ⟨-1, by omega, by omega, rfl, Hb.out⟩
          case round =>
            obtain ⟨b, hb1, hb2, rfl, hb⟩ := hrel
            have Hb := Lib.hid hb
            clear hb
            by_cases hb3 : b < 3
            · have L0 := Lib.hid (num_lit wr s b)
              have B0 := Lib.hid (num_below Hb.out Hb.out.size s b)
              obtain ⟨ok1, ok2⟩ := num_ok s b (by omega) (by omega) (by omega) (by omega)
              have O1 := Lib.hid ok1
              have O2 := Lib.hid ok2
              clear ok1 ok2
              go_wp2_with fail
              refine (choose_all f _ (numLists s b) (fun k => k < wr.heap.size + 6) _ (by omega) L0.out (fun k h => by simpa using h) O1.out O2.out).mono ?_
              rintro e w1 ⟨v1, rfl, h1, b1⟩
              have l1 := SliceOf.below RVotes.kept L0.out b1 (fun k h => by simpa using h) (fun _ h => h)
              have bw1 := B0.out.trans (b1.mono B0.out.size)
              have hz1 := b1.size
              simp only [World.size_alloc] at hz1
              have H1 := Lib.hid h1
              have L1 := Lib.hid l1
              have BW1 := Lib.hid bw1
              clear h1 b1 l1 bw1 L0 B0
              go_wp2_with fail
              refine (rchoose_all f _ (numLists s b) (fun k => k < wr.heap.size + 6) _ (by omega) L1.out (fun k h => by omega) O1.out O2.out).mono ?_
              rintro e w2 ⟨v2, rfl, h2, b2⟩
              have l2 := SliceOf.below RVote.kept H1.out b2 (fun k h => h.2) (fun _ h => h)
              have bw2 := BW1.out.trans (b2.mono BW1.out.size)
              have H2 := Lib.hid h2
              have L2 := Lib.hid l2
              have BW2 := Lib.hid bw2
              clear h2 b2 l2 bw2 L1 BW1 H1
              go_wp2_with fail
              refine (same_any _ _ _ _ _ w2 L2.out H2.out).mono ?_
              rintro e w3 ⟨rfl, n, rfl⟩
              clear L2 H2
              go_wp2_with fail
              go_roundw
              case rel => exact ⟨b + 1, by omega, by omega, by go_num, below_drewN BW2.out n⟩
              case measure => simp [intOf]; omega
            · go_wp2_with fail
              go_roundw
              case rel => exact ⟨s + 1, by omega, by omega, by go_num, Hb.out⟩
              case measure => simp [intOf]; omega
        · go_wp2_with fail
          go_roundw
          case rel => exact ⟨f + 1, by omega, by omega, by go_num, Hb.out⟩
          case measure => simp [intOf]; omega
    · go_wp2_with fail
      refine (known_any wr).mono ?_
      rintro e w1 ⟨rfl, b1⟩
      have hend := Lib.hid (Hb.out.trans (b1.mono Hb.out.size))
      clear b1
      go_wp2_with fail
      go_ret
      exact ⟨rfl, hend.out⟩
end Go.Proofs.Ytpnecbhbdfdijaa
