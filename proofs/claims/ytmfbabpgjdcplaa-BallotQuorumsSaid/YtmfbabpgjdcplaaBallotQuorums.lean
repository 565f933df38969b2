/- The statement BallotQuorums returns true for every n, a, b. No condition. -/
import Derived.Test.YtmfbabpgjdcplaaRows
import Derived.Test.YtmfbabpgjdcplaaD
import Derived.WalkKit
import Derived.ProofKit
import Derived.OpenShut
import Derived.ShutString
import Derived.ChangeOld
import Derived.Below
import Derived.Deep.Slices
import Derived.WalkSmall
namespace Go.Proofs.Ytmfbabpgjdcplaa.ballotQuorums
open Go.ChangeShapes Go.WideShapes Go.ChangeAt Go.RowKit Go.Deep
set_option linter.unusedVariables false

theorem own : ownKnob Try.prog.godebug = none := by kernel_rfl
theorem laidOut : laidOutB Try.prog = true := by kernel_rfl

/-- What a slice of bools that came in is: empty, or 'len' cells from a place on. -/
def IsBools (w : World) (a : Option Addr) (len : Nat) (f : Nat → Bool) : Prop :=
  len = 0 ∨ ∃ b off, a = some ⟨b, off, none⟩ ∧ b < w.heap.size ∧ len ≤ maxLen ∧ ∀ i, i < len → w.cell? ⟨b, off + i, none⟩ = some (.bool (f i))

theorem open_bools {H : Type} {enc : TypeId × Value → H} {w : World} {base : Nat} {spare : Nat → Bool} {held : Bool} {fuel len cap : Nat} {a : Option Addr} {x : DataW H × List MemPlace}
    (h : DataW.trod enc Try.prog w base spare held fuel 22 [.slice a len cap] = some x) : ∃ f, IsBools w a len f := by
  by_cases hz : len = 0
  · exact ⟨fun _ => false, .inl hz⟩
  rcases open_slice1 Try.underlying22 (by kernel_rfl) h with ⟨hcs, _⟩ | ⟨a', len', cap', m, n, V, D, Pl, hcs, _, hl, hm, hmm, _, hV⟩
  · simp only [List.cons.injEq, Value.slice.injEq, and_true] at hcs
    exact absurd hcs.2.1 hz
  · simp only [List.cons.injEq, Value.slice.injEq, and_true] at hcs
    obtain ⟨rfl, rfl, _⟩ := hcs
    have hle : len ≤ m := by rw [hmm]; split <;> omega
    have h0 := (hV 0 (by omega)).1
    obtain ⟨b, off, sp⟩ := a'
    have hsp : sp = none := by simpa [Addr.add] using World.cell?_spot h0
    subst hsp
    have hb : ∀ i, i < len → ∃ x, V i = .bool x := fun i hi => by
      obtain ⟨x, hx, _⟩ := DataW.trod_bool Try.underlying4 (hV i (by omega)).2
      exact ⟨x, by simpa using hx⟩
    obtain ⟨f, hf⟩ := choose_lt (α := Bool) (p := fun i x => V i = .bool x) hb
    refine ⟨f, .inr ⟨b, off, rfl, ?_, by omega, fun i hi => ?_⟩⟩
    · rw [WideShapes.add_plain] at h0; exact World.block_lt_of_cell? (w := w) (a := ⟨b, off + 0, none⟩) h0
    · rw [← hf i hi, ← WideShapes.add_plain]; exact (hV i (by omega)).1

/-- How many of the first k. -/
def cnt (f : Nat → Bool) : Nat → Nat
  | 0 => 0
  | k + 1 => cnt f k + if f k then 1 else 0
theorem cnt_le (f : Nat → Bool) (k : Nat) : cnt f k ≤ k := by
  induction k with
  | zero => exact Nat.le_refl _
  | succ k ih => unfold cnt; split <;> omega
theorem cnt_both (f g : Nat → Bool) (k : Nat) : cnt f k + cnt g k ≤ k + cnt (fun i => f i && g i) k := by
  induction k with
  | zero => exact Nat.le_refl _
  | succ k ih =>
    have e1 : cnt f (k + 1) = cnt f k + if f k then 1 else 0 := rfl
    have e2 : cnt g (k + 1) = cnt g k + if g k then 1 else 0 := rfl
    have e3 : cnt (fun i => f i && g i) (k + 1) = cnt (fun i => f i && g i) k + if (f k && g k) then 1 else 0 := rfl
    rw [e1, e2, e3]
    cases f k <;> cases g k <;> simp <;> omega
theorem cnt_t {f : Nat → Bool} {k : Nat} (h : f k = true) : cnt f (k + 1) = cnt f k + 1 := by
  have e1 : cnt f (k + 1) = cnt f k + if f k then 1 else 0 := rfl
  rw [e1, h]; rfl
theorem cnt_f {f : Nat → Bool} {k : Nat} (h : f k = false) : cnt f (k + 1) = cnt f k := by
  have e1 : cnt f (k + 1) = cnt f k + if f k then 1 else 0 := rfl
  rw [e1, h]; rfl
/-- Is there an i-th, and is it true? -/
def has (len : Nat) (f : Nat → Bool) (i : Nat) : Bool := decide (i < len) && f i
theorem has_lt {len : Nat} {f : Nat → Bool} {i : Nat} (h : i < len) : has len f i = f i := by unfold has; rw [decide_eq_true h]; rfl
theorem has_ge {len : Nat} {f : Nat → Bool} {i : Nat} (h : ¬ i < len) : has len f i = false := by unfold has; rw [decide_eq_false h]; rfl

theorem known_q (w : World) (n : Nat) : Calls Try.prog 9 #[] (w.drewN n) fun e w' => e = .returned (.bool true) ∧ w' = w.drewN n :=
  (known_any (w.drewN n)).mono fun _ _ ⟨he, hw⟩ => ⟨he, hw.symm⟩

set_option maxHeartbeats 1000000 in
theorem walk_1 (n N Q : Int) (a0 a1 : Option Addr) (la ca lb cb : Nat) (f g : Nat → Bool) (w : World) (b0 : -9223372036854775808 ≤ n ∧ n ≤ 9223372036854775807)
    (hN : within n 0 1048576 = N) (n1 : 0 ≤ N) (n2 : N ≤ 1048576) (hm : N % 3 = 0) (hQ : quorum 1 = Q) (q1 : 1 < 2 * Q) (hf : IsBools w a0 la f) (hg : IsBools w a1 lb g) (ma : la ≤ maxLen) (mb : lb ≤ maxLen) :
    Calls Try.prog 3 #[.int .i64 n, .slice a0 la ca, .slice a1 lb cb] w fun e w' => e = .returned (.bool true) ∧ Below w.heap.size w w' := by
  unfold maxLen at ma mb
  have HN := Lib.hid hN
  have HQ := Lib.hid hQ
  have Hf := Lib.hid hf
  have Hg := Lib.hid hg
  clear hN hQ hf hg
  go_enter Try.func3, Try.ntmps3
  go_wp2_with (go_at_call 7; refine (within_any _ _ _ _ (by omega) (by omega) (by omega) (by omega) (by omega)).mono ?_; rw [HN.out]; rintro e w' ⟨rfl, rfl⟩)
  clear hm
  go_loopw [8, 9, 10, 11, 12, 13] (fun c d both i p q wr => ∃ k : Nat, k ≤ 1 ∧ i = .int .i64 k ∧ c = .int .i64 (cnt (has la f) k) ∧ d = .int .i64 (cnt (has lb g) k) ∧ both = .int .i64 (cnt (fun i => has la f i && has lb g i) k) ∧ Below w.heap.size w wr) (fun _ _ _ i _ _ _ => (1 - intOf i).toNat)
  case atStart => exact ⟨0, by omega, rfl, rfl, rfl, rfl, (Below.refl _ _).alloc (Nat.le_refl _) _⟩
  case round =>
    obtain ⟨k, hk, rfl, rfl, rfl, rfl, hb⟩ := hrel
    have c1 := cnt_le (has la f) k
    have c2 := cnt_le (has lb g) k
    have c3 := cnt_le (fun i => has la f i && has lb g i) k
    have c4 := cnt_both (has la f) (has lb g) k
    by_cases hlt : k < 1
    · have step : ∀ P Q : Bool, has la f k = P → has lb g k = Q → Hid (cnt (has la f) (k + 1) = cnt (has la f) k + (if P then 1 else 0) ∧ cnt (has lb g) (k + 1) = cnt (has lb g) k + (if Q then 1 else 0) ∧ cnt (fun i => has la f i && has lb g i) (k + 1) = cnt (fun i => has la f i && has lb g i) k + if (P && Q) then 1 else 0) := by
        rintro P Q rfl rfl; exact ⟨rfl, rfl, rfl⟩
      generalize cnt (has la f) k = C1 at *
      generalize cnt (has lb g) k = C2 at *
      generalize cnt (fun i => has la f i && has lb g i) k = C3 at *
      have P1 : (k < la → ∃ b off, a0 = some ⟨b, off, none⟩ ∧ wr.cell? ⟨b, off + k, none⟩ = some (.bool (has la f k))) := fun h => by
        rcases Hf.out with h0 | ⟨b, off, e, hlt', _, hc⟩
        · omega
        · exact ⟨b, off, e, by rw [has_lt h, ← hc k h]; exact hb.cell hlt'⟩
      have P2 : (k < lb → ∃ b off, a1 = some ⟨b, off, none⟩ ∧ wr.cell? ⟨b, off + k, none⟩ = some (.bool (has lb g k))) := fun h => by
        rcases Hg.out with h0 | ⟨b, off, e, hlt', _, hc⟩
        · omega
        · exact ⟨b, off, e, by rw [has_lt h, ← hc k h]; exact hb.cell hlt'⟩
      have R1 := fun h => has_ge (len := la) (f := f) (i := k) h
      have R2 := fun h => has_ge (len := lb) (f := g) (i := k) h
      generalize hP : has la f k = P at *
      generalize hQ : has lb g k = Q' at *
      have st := step P Q' rfl rfl
      clear step hP hQ
      by_cases ha : k < la
      · obtain ⟨ba, oa, rfl, hca⟩ := P1 ha
        by_cases hbb : k < lb
        · obtain ⟨bb, ob, rfl, hcb⟩ := P2 hbb
          clear P1 P2 R1 R2
          cases P <;> cases Q' <;>
          · go_wp2
            go_quiet (fail)
            go_wp2
            go_roundw
            case rel => exact ⟨k + 1, by omega, by go_num, by rw [st.out.1]; go_num, by rw [st.out.2.1]; go_num, by rw [st.out.2.2]; go_num, below_drewN hb _⟩
            case measure => simp [intOf]; omega
        · obtain rfl := R2 hbb
          have hd : decide ((k : Int) < (lb : Int)) = false := decide_eq_false (by omega)
          clear P1 P2 R1 R2
          cases P <;>
          · go_wp2
            go_quiet (fail)
            go_wp2
            go_roundw
            case rel => exact ⟨k + 1, by omega, by go_num, by rw [st.out.1]; go_num, by rw [st.out.2.1]; go_num, by rw [st.out.2.2]; go_num, below_drewN hb _⟩
            case measure => simp [intOf]; omega
      · obtain rfl := R1 ha
        have hd' : decide ((k : Int) < (la : Int)) = false := decide_eq_false (by omega)
        by_cases hbb : k < lb
        · obtain ⟨bb, ob, rfl, hcb⟩ := P2 hbb
          clear P1 P2 R1 R2
          cases Q' <;>
          · go_wp2
            go_quiet (fail)
            go_wp2
            go_roundw
            case rel => exact ⟨k + 1, by omega, by go_num, by rw [st.out.1]; go_num, by rw [st.out.2.1]; go_num, by rw [st.out.2.2]; go_num, below_drewN hb _⟩
            case measure => simp [intOf]; omega
        · obtain rfl := R2 hbb
          have hd : decide ((k : Int) < (lb : Int)) = false := decide_eq_false (by omega)
          clear P1 P2 R1 R2
          go_wp2
          go_quiet (fail)
          go_wp2
          go_roundw
          case rel => exact ⟨k + 1, by omega, by go_num, by rw [st.out.1]; go_num, by rw [st.out.2.1]; go_num, by rw [st.out.2.2]; go_num, below_drewN hb _⟩
          case measure => simp [intOf]; omega
    · obtain rfl : k = 1 := by omega
      generalize cnt (has la f) 1 = C1 at *
      generalize cnt (has lb g) 1 = C2 at *
      generalize cnt (fun i => has la f i && has lb g i) 1 = C3 at *
      clear hk hlt c1 c2 c3
      by_cases h1 : (C1 : Int) < Q
      · go_wp2_with (first | (go_at_call 8; refine (quorum_any _ _).mono ?_; rw [HQ.out]; rintro e w' ⟨rfl, rfl⟩) | (go_at_call 9; refine (known_any _).mono ?_; rintro e w' ⟨rfl, rfl⟩))
        go_ret
        exact ⟨rfl, hb⟩
      · by_cases h2 : (C2 : Int) < Q
        · go_wp2_with (first | (go_at_call 8; refine (quorum_any _ _).mono ?_; rw [HQ.out]; rintro e w' ⟨rfl, rfl⟩) | (go_at_call 9; refine (known_any _).mono ?_; rintro e w' ⟨rfl, rfl⟩))
          go_ret
          exact ⟨rfl, hb⟩
        · have h3 : (0 : Int) < C3 := by omega
          go_wp2_with (first | (go_at_call 8; refine (quorum_any _ _).mono ?_; rw [HQ.out]; rintro e w' ⟨rfl, rfl⟩) | (go_at_call 9; refine (known_any _).mono ?_; rintro e w' ⟨rfl, rfl⟩))
          go_ret
          exact ⟨ret_bool (by simp; omega), hb⟩

set_option maxHeartbeats 1000000 in
theorem walk_3 (n N Q : Int) (a0 a1 : Option Addr) (la ca lb cb : Nat) (f g : Nat → Bool) (w : World) (b0 : -9223372036854775808 ≤ n ∧ n ≤ 9223372036854775807)
    (hN : within n 0 1048576 = N) (n1 : 0 ≤ N) (n2 : N ≤ 1048576) (hm : N % 3 = 1) (hQ : quorum 3 = Q) (q1 : 3 < 2 * Q) (hf : IsBools w a0 la f) (hg : IsBools w a1 lb g) (ma : la ≤ maxLen) (mb : lb ≤ maxLen) :
    Calls Try.prog 3 #[.int .i64 n, .slice a0 la ca, .slice a1 lb cb] w fun e w' => e = .returned (.bool true) ∧ Below w.heap.size w w' := by
  unfold maxLen at ma mb
  have HN := Lib.hid hN
  have HQ := Lib.hid hQ
  have Hf := Lib.hid hf
  have Hg := Lib.hid hg
  clear hN hQ hf hg
  go_enter Try.func3, Try.ntmps3
  go_wp2_with (go_at_call 7; refine (within_any _ _ _ _ (by omega) (by omega) (by omega) (by omega) (by omega)).mono ?_; rw [HN.out]; rintro e w' ⟨rfl, rfl⟩)
  clear hm
  go_loopw [8, 9, 10, 11, 12, 13] (fun c d both i p q wr => ∃ k : Nat, k ≤ 3 ∧ i = .int .i64 k ∧ c = .int .i64 (cnt (has la f) k) ∧ d = .int .i64 (cnt (has lb g) k) ∧ both = .int .i64 (cnt (fun i => has la f i && has lb g i) k) ∧ Below w.heap.size w wr) (fun _ _ _ i _ _ _ => (3 - intOf i).toNat)
  case atStart => exact ⟨0, by omega, rfl, rfl, rfl, rfl, (Below.refl _ _).alloc (Nat.le_refl _) _⟩
  case round =>
    obtain ⟨k, hk, rfl, rfl, rfl, rfl, hb⟩ := hrel
    have c1 := cnt_le (has la f) k
    have c2 := cnt_le (has lb g) k
    have c3 := cnt_le (fun i => has la f i && has lb g i) k
    have c4 := cnt_both (has la f) (has lb g) k
    by_cases hlt : k < 3
    · have step : ∀ P Q : Bool, has la f k = P → has lb g k = Q → Hid (cnt (has la f) (k + 1) = cnt (has la f) k + (if P then 1 else 0) ∧ cnt (has lb g) (k + 1) = cnt (has lb g) k + (if Q then 1 else 0) ∧ cnt (fun i => has la f i && has lb g i) (k + 1) = cnt (fun i => has la f i && has lb g i) k + if (P && Q) then 1 else 0) := by
        rintro P Q rfl rfl; exact ⟨rfl, rfl, rfl⟩
      generalize cnt (has la f) k = C1 at *
      generalize cnt (has lb g) k = C2 at *
      generalize cnt (fun i => has la f i && has lb g i) k = C3 at *
      have P1 : (k < la → ∃ b off, a0 = some ⟨b, off, none⟩ ∧ wr.cell? ⟨b, off + k, none⟩ = some (.bool (has la f k))) := fun h => by
        rcases Hf.out with h0 | ⟨b, off, e, hlt', _, hc⟩
        · omega
        · exact ⟨b, off, e, by rw [has_lt h, ← hc k h]; exact hb.cell hlt'⟩
      have P2 : (k < lb → ∃ b off, a1 = some ⟨b, off, none⟩ ∧ wr.cell? ⟨b, off + k, none⟩ = some (.bool (has lb g k))) := fun h => by
        rcases Hg.out with h0 | ⟨b, off, e, hlt', _, hc⟩
        · omega
        · exact ⟨b, off, e, by rw [has_lt h, ← hc k h]; exact hb.cell hlt'⟩
      have R1 := fun h => has_ge (len := la) (f := f) (i := k) h
      have R2 := fun h => has_ge (len := lb) (f := g) (i := k) h
      generalize hP : has la f k = P at *
      generalize hQ : has lb g k = Q' at *
      have st := step P Q' rfl rfl
      clear step hP hQ
      by_cases ha : k < la
      · obtain ⟨ba, oa, rfl, hca⟩ := P1 ha
        by_cases hbb : k < lb
        · obtain ⟨bb, ob, rfl, hcb⟩ := P2 hbb
          clear P1 P2 R1 R2
          cases P <;> cases Q' <;>
          · go_wp2
            go_quiet (fail)
            go_wp2
            go_roundw
            case rel => exact ⟨k + 1, by omega, by go_num, by rw [st.out.1]; go_num, by rw [st.out.2.1]; go_num, by rw [st.out.2.2]; go_num, below_drewN hb _⟩
            case measure => simp [intOf]; omega
        · obtain rfl := R2 hbb
          have hd : decide ((k : Int) < (lb : Int)) = false := decide_eq_false (by omega)
          clear P1 P2 R1 R2
          cases P <;>
          · go_wp2
            go_quiet (fail)
            go_wp2
            go_roundw
            case rel => exact ⟨k + 1, by omega, by go_num, by rw [st.out.1]; go_num, by rw [st.out.2.1]; go_num, by rw [st.out.2.2]; go_num, below_drewN hb _⟩
            case measure => simp [intOf]; omega
      · obtain rfl := R1 ha
        have hd' : decide ((k : Int) < (la : Int)) = false := decide_eq_false (by omega)
        by_cases hbb : k < lb
        · obtain ⟨bb, ob, rfl, hcb⟩ := P2 hbb
          clear P1 P2 R1 R2
          cases Q' <;>
          · go_wp2
            go_quiet (fail)
            go_wp2
            go_roundw
            case rel => exact ⟨k + 1, by omega, by go_num, by rw [st.out.1]; go_num, by rw [st.out.2.1]; go_num, by rw [st.out.2.2]; go_num, below_drewN hb _⟩
            case measure => simp [intOf]; omega
        · obtain rfl := R2 hbb
          have hd : decide ((k : Int) < (lb : Int)) = false := decide_eq_false (by omega)
          clear P1 P2 R1 R2
          go_wp2
          go_quiet (fail)
          go_wp2
          go_roundw
          case rel => exact ⟨k + 1, by omega, by go_num, by rw [st.out.1]; go_num, by rw [st.out.2.1]; go_num, by rw [st.out.2.2]; go_num, below_drewN hb _⟩
          case measure => simp [intOf]; omega
    · obtain rfl : k = 3 := by omega
      generalize cnt (has la f) 3 = C1 at *
      generalize cnt (has lb g) 3 = C2 at *
      generalize cnt (fun i => has la f i && has lb g i) 3 = C3 at *
      clear hk hlt c1 c2 c3
      by_cases h1 : (C1 : Int) < Q
      · go_wp2_with (first | (go_at_call 8; refine (quorum_any _ _).mono ?_; rw [HQ.out]; rintro e w' ⟨rfl, rfl⟩) | (go_at_call 9; refine (known_any _).mono ?_; rintro e w' ⟨rfl, rfl⟩))
        go_ret
        exact ⟨rfl, hb⟩
      · by_cases h2 : (C2 : Int) < Q
        · go_wp2_with (first | (go_at_call 8; refine (quorum_any _ _).mono ?_; rw [HQ.out]; rintro e w' ⟨rfl, rfl⟩) | (go_at_call 9; refine (known_any _).mono ?_; rintro e w' ⟨rfl, rfl⟩))
          go_ret
          exact ⟨rfl, hb⟩
        · have h3 : (0 : Int) < C3 := by omega
          go_wp2_with (first | (go_at_call 8; refine (quorum_any _ _).mono ?_; rw [HQ.out]; rintro e w' ⟨rfl, rfl⟩) | (go_at_call 9; refine (known_any _).mono ?_; rintro e w' ⟨rfl, rfl⟩))
          go_ret
          exact ⟨ret_bool (by simp; omega), hb⟩

set_option maxHeartbeats 1000000 in
theorem walk_5 (n N Q : Int) (a0 a1 : Option Addr) (la ca lb cb : Nat) (f g : Nat → Bool) (w : World) (b0 : -9223372036854775808 ≤ n ∧ n ≤ 9223372036854775807)
    (hN : within n 0 1048576 = N) (n1 : 0 ≤ N) (n2 : N ≤ 1048576) (hm : N % 3 = 2) (hQ : quorum 5 = Q) (q1 : 5 < 2 * Q) (hf : IsBools w a0 la f) (hg : IsBools w a1 lb g) (ma : la ≤ maxLen) (mb : lb ≤ maxLen) :
    Calls Try.prog 3 #[.int .i64 n, .slice a0 la ca, .slice a1 lb cb] w fun e w' => e = .returned (.bool true) ∧ Below w.heap.size w w' := by
  unfold maxLen at ma mb
  have HN := Lib.hid hN
  have HQ := Lib.hid hQ
  have Hf := Lib.hid hf
  have Hg := Lib.hid hg
  clear hN hQ hf hg
  go_enter Try.func3, Try.ntmps3
  go_wp2_with (go_at_call 7; refine (within_any _ _ _ _ (by omega) (by omega) (by omega) (by omega) (by omega)).mono ?_; rw [HN.out]; rintro e w' ⟨rfl, rfl⟩)
  clear hm
  go_loopw [8, 9, 10, 11, 12, 13] (fun c d both i p q wr => ∃ k : Nat, k ≤ 5 ∧ i = .int .i64 k ∧ c = .int .i64 (cnt (has la f) k) ∧ d = .int .i64 (cnt (has lb g) k) ∧ both = .int .i64 (cnt (fun i => has la f i && has lb g i) k) ∧ Below w.heap.size w wr) (fun _ _ _ i _ _ _ => (5 - intOf i).toNat)
  case atStart => exact ⟨0, by omega, rfl, rfl, rfl, rfl, (Below.refl _ _).alloc (Nat.le_refl _) _⟩
  case round =>
    obtain ⟨k, hk, rfl, rfl, rfl, rfl, hb⟩ := hrel
    have c1 := cnt_le (has la f) k
    have c2 := cnt_le (has lb g) k
    have c3 := cnt_le (fun i => has la f i && has lb g i) k
    have c4 := cnt_both (has la f) (has lb g) k
    by_cases hlt : k < 5
    · have step : ∀ P Q : Bool, has la f k = P → has lb g k = Q → Hid (cnt (has la f) (k + 1) = cnt (has la f) k + (if P then 1 else 0) ∧ cnt (has lb g) (k + 1) = cnt (has lb g) k + (if Q then 1 else 0) ∧ cnt (fun i => has la f i && has lb g i) (k + 1) = cnt (fun i => has la f i && has lb g i) k + if (P && Q) then 1 else 0) := by
        rintro P Q rfl rfl; exact ⟨rfl, rfl, rfl⟩
      generalize cnt (has la f) k = C1 at *
      generalize cnt (has lb g) k = C2 at *
      generalize cnt (fun i => has la f i && has lb g i) k = C3 at *
      have P1 : (k < la → ∃ b off, a0 = some ⟨b, off, none⟩ ∧ wr.cell? ⟨b, off + k, none⟩ = some (.bool (has la f k))) := fun h => by
        rcases Hf.out with h0 | ⟨b, off, e, hlt', _, hc⟩
        · omega
        · exact ⟨b, off, e, by rw [has_lt h, ← hc k h]; exact hb.cell hlt'⟩
      have P2 : (k < lb → ∃ b off, a1 = some ⟨b, off, none⟩ ∧ wr.cell? ⟨b, off + k, none⟩ = some (.bool (has lb g k))) := fun h => by
        rcases Hg.out with h0 | ⟨b, off, e, hlt', _, hc⟩
        · omega
        · exact ⟨b, off, e, by rw [has_lt h, ← hc k h]; exact hb.cell hlt'⟩
      have R1 := fun h => has_ge (len := la) (f := f) (i := k) h
      have R2 := fun h => has_ge (len := lb) (f := g) (i := k) h
      generalize hP : has la f k = P at *
      generalize hQ : has lb g k = Q' at *
      have st := step P Q' rfl rfl
      clear step hP hQ
      by_cases ha : k < la
      · obtain ⟨ba, oa, rfl, hca⟩ := P1 ha
        by_cases hbb : k < lb
        · obtain ⟨bb, ob, rfl, hcb⟩ := P2 hbb
          clear P1 P2 R1 R2
          cases P <;> cases Q' <;>
          · go_wp2
            go_quiet (fail)
            go_wp2
            go_roundw
            case rel => exact ⟨k + 1, by omega, by go_num, by rw [st.out.1]; go_num, by rw [st.out.2.1]; go_num, by rw [st.out.2.2]; go_num, below_drewN hb _⟩
            case measure => simp [intOf]; omega
        · obtain rfl := R2 hbb
          have hd : decide ((k : Int) < (lb : Int)) = false := decide_eq_false (by omega)
          clear P1 P2 R1 R2
          cases P <;>
          · go_wp2
            go_quiet (fail)
            go_wp2
            go_roundw
            case rel => exact ⟨k + 1, by omega, by go_num, by rw [st.out.1]; go_num, by rw [st.out.2.1]; go_num, by rw [st.out.2.2]; go_num, below_drewN hb _⟩
            case measure => simp [intOf]; omega
      · obtain rfl := R1 ha
        have hd' : decide ((k : Int) < (la : Int)) = false := decide_eq_false (by omega)
        by_cases hbb : k < lb
        · obtain ⟨bb, ob, rfl, hcb⟩ := P2 hbb
          clear P1 P2 R1 R2
          cases Q' <;>
          · go_wp2
            go_quiet (fail)
            go_wp2
            go_roundw
            case rel => exact ⟨k + 1, by omega, by go_num, by rw [st.out.1]; go_num, by rw [st.out.2.1]; go_num, by rw [st.out.2.2]; go_num, below_drewN hb _⟩
            case measure => simp [intOf]; omega
        · obtain rfl := R2 hbb
          have hd : decide ((k : Int) < (lb : Int)) = false := decide_eq_false (by omega)
          clear P1 P2 R1 R2
          go_wp2
          go_quiet (fail)
          go_wp2
          go_roundw
          case rel => exact ⟨k + 1, by omega, by go_num, by rw [st.out.1]; go_num, by rw [st.out.2.1]; go_num, by rw [st.out.2.2]; go_num, below_drewN hb _⟩
          case measure => simp [intOf]; omega
    · obtain rfl : k = 5 := by omega
      generalize cnt (has la f) 5 = C1 at *
      generalize cnt (has lb g) 5 = C2 at *
      generalize cnt (fun i => has la f i && has lb g i) 5 = C3 at *
      clear hk hlt c1 c2 c3
      by_cases h1 : (C1 : Int) < Q
      · go_wp2_with (first | (go_at_call 8; refine (quorum_any _ _).mono ?_; rw [HQ.out]; rintro e w' ⟨rfl, rfl⟩) | (go_at_call 9; refine (known_any _).mono ?_; rintro e w' ⟨rfl, rfl⟩))
        go_ret
        exact ⟨rfl, hb⟩
      · by_cases h2 : (C2 : Int) < Q
        · go_wp2_with (first | (go_at_call 8; refine (quorum_any _ _).mono ?_; rw [HQ.out]; rintro e w' ⟨rfl, rfl⟩) | (go_at_call 9; refine (known_any _).mono ?_; rintro e w' ⟨rfl, rfl⟩))
          go_ret
          exact ⟨rfl, hb⟩
        · have h3 : (0 : Int) < C3 := by omega
          go_wp2_with (first | (go_at_call 8; refine (quorum_any _ _).mono ?_; rw [HQ.out]; rintro e w' ⟨rfl, rfl⟩) | (go_at_call 9; refine (known_any _).mono ?_; rintro e w' ⟨rfl, rfl⟩))
          go_ret
          exact ⟨ret_bool (by simp; omega), hb⟩

theorem walk (n : Int) (a0 a1 : Option Addr) (la ca lb cb : Nat) (f g : Nat → Bool) (w : World) (wn : (Lit.int .i64 n).wf = true) (hf : IsBools w a0 la f) (hg : IsBools w a1 lb g) (ma : la ≤ maxLen) (mb : lb ≤ maxLen) :
    Calls Try.prog 3 #[.int .i64 n, .slice a0 la ca, .slice a1 lb cb] w fun e w' => e = .returned (.bool true) ∧ Below w.heap.size w w' := by
  obtain ⟨n1, n2⟩ := within_bd n 0 1048576 (by omega)
  have hm : within n 0 1048576 % 3 = 0 ∨ within n 0 1048576 % 3 = 1 ∨ within n 0 1048576 % 3 = 2 := by omega
  rcases hm with hm | hm | hm
  · exact walk_1 n _ _ a0 a1 la ca lb cb f g w (bounds_i64 wn) rfl n1 n2 hm rfl (by decide) hf hg ma mb
  · exact walk_3 n _ _ a0 a1 la ca lb cb f g w (bounds_i64 wn) rfl n1 n2 hm rfl (by decide) hf hg ma mb
  · exact walk_5 n _ _ a0 a1 la ca lb cb f g w (bounds_i64 wn) rfl n1 n2 hm rfl (by decide) hf hg ma mb

/-! ### From the walk to the statement -/
set_option maxRecDepth 100000 in
theorem lifted (os : Os) (started : os.Started) (H : Type) (enc : TypeId × Value → H) :
    ReturnsInHanded {} Try.checked os 3 .any (Rows.ballotQuorumsSpec.pre6 enc Try.prog Try.f3 Rows.ballotQuorumsRow.domain false) (Rows.ballotQuorumsSpec.post enc Try.prog Try.f3 false true false false) := by
  refine returnsInHanded_of_change (C := Try.checked) own started (by kernel_rfl) Try.func3
    (ChangeSpec.witness6 (enc := enc) (C := Try.checked) false ⟨#[], #[.int .i64 0, .slice none 0 0, .slice none 0 0], []⟩ 8 (by kernel_rfl) (by kernel_rfl) (by kernel_rfl) (by kernel_rfl)) ?_
  intro W base args ds gs before hval0 hW hcnd hsz
  have hval : ∀ (j : Nat) t v, Try.f3.params[j]? = some t → args[j]? = some v → Value.okWide Try.prog W .any base t v := hval0
  have hW' := hW
  obtain ⟨p, q, hA0, hV, rfl, hfz, hnd⟩ := hW
  have hA : DataW.TrodAll enc Try.prog W 0 (fun _ => true) true Try.f3.params.toList args.toList ds p := hA0
  rw [Try.params3] at hA hval
  obtain ⟨v0, vs0, d0, ds0, p0, q0, hargs, rfl, rfl, h0, r0⟩ := trodAll_cons hA
  obtain ⟨v1, vs1, d1, ds1, p1, q1, rfl, rfl, rfl, h1, r1⟩ := trodAll_cons r0
  obtain ⟨v2, vs2, d2, ds2, p2, q2, rfl, rfl, rfl, h2, r2⟩ := trodAll_cons r1
  obtain ⟨rfl, rfl, rfl⟩ := trodAll_nil r2
  obtain rfl : args = #[v0, v1, v2] := by cases args; simp_all
  obtain ⟨rfl, rfl⟩ := trodVars_none hV
  obtain ⟨a0, rfl, rfl, rfl, w0⟩ := open_int Try.underlying3 (hval 0 3 v0 rfl rfl) h0
  obtain ⟨a1, len1, cap1, rfl⟩ := okWide_slice Try.underlying22 (hval 1 22 v1 rfl rfl)
  have k1 := h1
  have lt1 : ∀ x ∈ p1, x.block < W.heap.size := by obtain ⟨m, hm⟩ := k1; exact DataW.trod_lt m _ _ _ hm
  obtain ⟨a2, len2, cap2, rfl⟩ := okWide_slice Try.underlying22 (hval 2 22 v2 rfl rfl)
  have k2 := h2
  have lt2 : ∀ x ∈ p2, x.block < W.heap.size := by obtain ⟨m, hm⟩ := k2; exact DataW.trod_lt m _ _ _ hm
  clear hA0 hval0
  obtain ⟨f, hf⟩ : ∃ f, IsBools W a1 len1 f := by obtain ⟨fuel, hx⟩ := h1; exact open_bools (by simpa [Value.cells] using hx)
  obtain ⟨g, hg⟩ : ∃ g, IsBools W a2 len2 g := by obtain ⟨fuel, hx⟩ := h2; exact open_bools (by simpa [Value.cells] using hx)
  have m1 : len1 ≤ maxLen := (by rcases hf with h | ⟨_, _, _, _, h, _⟩; (· rw [h]; exact Nat.zero_le _); (· exact h))
  have m2 : len2 ≤ maxLen := (by rcases hg with h | ⟨_, _, _, _, h, _⟩; (· rw [h]; exact Nat.zero_le _); (· exact h))
  refine (walk a0 a1 a2 len1 cap1 len2 cap2 f g W w0 hf hg m1 m2).mono fun e W' ⟨he, bel⟩ => ?_
  subst he
  exact ⟨_, rfl, _, _, _, [], _, [], hW', trodAll_mk1 (shut_bool Try.underlying4 _), (trodAll_cons_mk (shut_int Try.underlying3 w0) (trodAll_cons_mk (Below.trod laidOut (by kernel_rfl) (of_decide_eq_true (by kernel_rfl)) k1 bel lt1) (trodAll_cons_mk (Below.trod laidOut (by kernel_rfl) (of_decide_eq_true (by kernel_rfl)) k2 bel lt2) trodAll_mk0))), rfl, bel.frame _, fun h => by cases h⟩

theorem over : Rows.ballotQuorumsRow.holds Try.pinned (OpenSpec.ofChange Rows.ballotQuorumsSpec) :=
  OpenClaim.holds_of_wide 3 Try.f3 rfl rfl rfl rfl rfl rfl rfl ⟨rfl, rfl, rfl, rfl, rfl⟩ rfl rfl rfl rfl rfl (by kernel_rfl) Try.func3 (by kernel_rfl)
    (of_decide_eq_true (by kernel_rfl)) (by unfold Func.isWrapper; first | (rw [if_pos (by decide +kernel)]; kernel_rfl) | (rw [if_neg (by decide +kernel)]; exact ⟨rfl, rfl⟩))
    (fun os started H enc _ => lifted os started H enc)

/-- The statement. -/
theorem proved : Rows.BallotQuorumsSaid :=
  over
#print axioms proved
end Go.Proofs.Ytmfbabpgjdcplaa.ballotQuorums
