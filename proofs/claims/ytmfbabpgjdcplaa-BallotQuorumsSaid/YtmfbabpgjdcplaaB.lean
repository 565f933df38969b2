/- Contracts of ballot's Next and Patience and of their references, and of the statements' own helpers 'known' and 'same'. -/
import Derived.Test.YtmfbabpgjdcplaaA
namespace Go.Proofs.Ytmfbabpgjdcplaa
open Go.RowKit

theorem okN_cases {n : Int} (h : okN n) : n = 1 ∨ n = 3 ∨ n = 5 := h
/-- Next, where there is one: from x on, the first number of me's. -/
def nextP (b me n : Int) : Int := let x := (if b < -1 then -1 else b) + 1; x + (me - x) % n
def next (b me n : Int) : Int := if rightB n ∧ 0 ≤ me ∧ me < n then nextP b me n else -1
theorem next_m {b me n : Int} (h : ¬ okN n ∨ me < 0 ∨ n ≤ me) : -1 = next b me n := by
  unfold next
  rcases h with h | h | h
  · rw [right_no h]; rfl
  · rw [if_neg (by omega)]
  · rw [if_neg (by omega)]
theorem next_p {b me n : Int} (h : okN n) (h1 : 0 ≤ me) (h2 : me < n) : nextP b me n = next b me n := by
  unfold next; rw [if_pos ⟨right_yes h, h1, h2⟩]

set_option maxHeartbeats 400000 in
theorem next_neg (b me n : Int) (w : World) (h : ¬ okN n ∨ me < 0 ∨ n ≤ me) :
    Calls Try.prog 11 #[.int .i64 b, .int .i64 me, .int .i64 n] w fun e w' => e = .returned (.int .i64 (next b me n)) ∧ w = w' := by
  have H := Lib.hid (next_m (b := b) h)
  by_cases hk : okN n
  · have h' : me < 0 ∨ n ≤ me := h.resolve_left (fun g => g hk)
    clear h
    have Hn := Lib.hid hk; clear hk
    by_cases hm : me < 0
    · clear h'
      go_enter Try.func11, Try.ntmps11
      go_wp2_with (go_at_call 14; refine (right_t _ _ Hn.out).mono ?_; rintro e w' ⟨rfl, rfl⟩)
      go_ret
      exact ⟨ret_int H.out, rfl⟩
    · have h2 : n ≤ me := by omega
      clear h'
      go_enter Try.func11, Try.ntmps11
      go_wp2_with (go_at_call 14; refine (right_t _ _ Hn.out).mono ?_; rintro e w' ⟨rfl, rfl⟩)
      go_ret
      exact ⟨ret_int H.out, rfl⟩
  · clear h
    have Hn := Lib.hid hk; clear hk
    go_enter Try.func11, Try.ntmps11
    go_wp2_with (go_at_call 14; refine (right_f _ _ Hn.out).mono ?_; rintro e w' ⟨rfl, rfl⟩)
    go_ret
    exact ⟨ret_int H.out, rfl⟩

set_option maxHeartbeats 400000 in
theorem next_pos (b me n : Int) (w : World) (hk : okN n) (h1 : 0 ≤ me) (h2 : me < n) (hb : b ≤ 2000000000) :
    Calls Try.prog 11 #[.int .i64 b, .int .i64 me, .int .i64 n] w fun e w' => e = .returned (.int .i64 (next b me n)) ∧ w = w' := by
  have h3 : 1 ≤ n := by unfold okN at hk; omega
  have h4 : n ≤ 5 := by unfold okN at hk; omega
  have hp := next_p (b := b) hk h1 h2
  have Hn := Lib.hid hk; clear hk
  by_cases hc : b < -1
  · have hp' : me % n = next b me n := by rw [← hp]; unfold nextP; simp [hc]
    have H := Lib.hid hp'; clear hp hp'
    have e3 := Int.emod_nonneg me (show n ≠ 0 by omega)
    have e4 := Int.emod_lt_of_pos me (show 0 < n by omega)
    go_enter Try.func11, Try.ntmps11
    go_wp2_with (go_at_call 14; refine (right_t _ _ Hn.out).mono ?_; rintro e w' ⟨rfl, rfl⟩)
    go_ret
    exact ⟨ret_int H.out, rfl⟩
  · have hx : 0 ≤ b + 1 := by omega
    have hp' : b + 1 + (me - (b + 1)) % n = next b me n := by rw [← hp]; unfold nextP; simp [hc]
    have H := Lib.hid hp'; clear hp hp'
    have e1 := Int.emod_nonneg (b + 1) (show n ≠ 0 by omega)
    have e2 := Int.emod_lt_of_pos (b + 1) (show 0 < n by omega)
    have e3 := Int.emod_nonneg (me - (b + 1)) (show n ≠ 0 by omega)
    have e4 := Int.emod_lt_of_pos (me - (b + 1)) (show 0 < n by omega)
    go_enter Try.func11, Try.ntmps11
    go_wp2_with (go_at_call 14; refine (right_t _ _ Hn.out).mono ?_; rintro e w' ⟨rfl, rfl⟩)
    go_ret
    exact ⟨ret_int H.out, rfl⟩

set_option maxHeartbeats 400000 in
theorem rnext_neg (b me n : Int) (w : World) (h : ¬ okN n ∨ me < 0 ∨ n ≤ me) :
    Calls Try.prog 17 #[.int .i64 b, .int .i64 me, .int .i64 n] w fun e w' => e = .returned (.int .i64 (next b me n)) ∧ w = w' := by
  have H := Lib.hid (next_m (b := b) h)
  by_cases hk : okN n
  · have h' : me < 0 ∨ n ≤ me := h.resolve_left (fun g => g hk)
    clear h
    have Hn := Lib.hid hk; clear hk
    by_cases hm : me < 0
    · clear h'
      go_enter Try.func17, Try.ntmps17
      go_wp2_with (go_at_call 15; refine (rright_t _ _ Hn.out).mono ?_; rintro e w' ⟨rfl, rfl⟩)
      go_ret
      exact ⟨ret_int H.out, rfl⟩
    · have h2 : n ≤ me := by omega
      clear h'
      go_enter Try.func17, Try.ntmps17
      go_wp2_with (go_at_call 15; refine (rright_t _ _ Hn.out).mono ?_; rintro e w' ⟨rfl, rfl⟩)
      go_ret
      exact ⟨ret_int H.out, rfl⟩
  · clear h
    have Hn := Lib.hid hk; clear hk
    go_enter Try.func17, Try.ntmps17
    go_wp2_with (go_at_call 15; refine (rright_f _ _ Hn.out).mono ?_; rintro e w' ⟨rfl, rfl⟩)
    go_ret
    exact ⟨ret_int H.out, rfl⟩

/-- The reference's loop: x is where it starts, y where it ends. -/
theorem step_lt {x y me n : Int} (hn : okN n) (h1 : 0 ≤ me) (h2 : me < n) (e : y = x + (me - x) % n) (k : Nat) (hk : x + k ≤ y) :
    ((x + k) % n = me) ↔ x + k = y := by
  rcases okN_cases hn with rfl | rfl | rfl <;> omega
theorem next_lt {x y me n : Int} (hn : okN n) (e : y = x + (me - x) % n) : x ≤ y ∧ y ≤ x + 4 := by
  rcases okN_cases hn with rfl | rfl | rfl <;> omega

set_option maxHeartbeats 400000 in
theorem rnext_core (b x y me n : Int) (w : World) (hk : okN n) (h1 : 0 ≤ me) (h2 : me < n) (hb : b ≤ 2000000000) (hx0 : 0 ≤ x) (hx1 : x ≤ 2000000001)
    (hmax : x = (if b < -1 then -1 else b) + 1) (hy : y = x + (me - x) % n) :
    Calls Try.prog 17 #[.int .i64 b, .int .i64 me, .int .i64 n] w fun e w' => e = .returned (.int .i64 y) ∧ w = w' := by
  have h3 : 1 ≤ n := by unfold okN at hk; omega
  have h4 : n ≤ 5 := by unfold okN at hk; omega
  obtain ⟨hy1, hy2⟩ := next_lt hk hy
  have HY := Lib.hid hy; clear hy
  have Hn := Lib.hid hk; clear hk
  by_cases hc : b < -1
  · rw [if_pos hc] at hmax
    obtain rfl : x = 0 := by omega
    clear hmax
    go_enter Try.func17, Try.ntmps17
    go_wp2_with (go_at_call 15; refine (rright_t _ _ Hn.out).mono ?_; rintro e w' ⟨rfl, rfl⟩)
    go_loop [7] (fun t => ∃ k : Nat, k ≤ y ∧ t = .int .i64 k) (fun t => (y - intOf t).toNat)
    case atStart => exact ⟨0, by omega, by go_num⟩
    case round =>
      obtain ⟨k, hk, rfl⟩ := hrel
      have hs := step_lt (x := 0) Hn.out h1 h2 HY.out k (by omega)
      rw [Int.zero_add] at hs
      by_cases he : (k : Int) = y
      · have ht : (((k : Int)) % n != me) = false := by rw [hs.2 he]; simp
        have HE := Lib.hid he; clear he hs
        go_wp2
        go_ret
        exact ⟨ret_int HE.out, rfl⟩
      · have ht : (((k : Int)) % n != me) = true := by rw [bne_iff_ne]; exact fun g => he (hs.1 g)
        clear hs
        go_wp2
        go_round
        case rel => exact ⟨k + 1, by omega, by go_num⟩
        case measure => simp [intOf]; omega
  · rw [if_neg hc] at hmax
    subst hmax
    go_enter Try.func17, Try.ntmps17
    go_wp2_with (go_at_call 15; refine (rright_t _ _ Hn.out).mono ?_; rintro e w' ⟨rfl, rfl⟩)
    go_loop [7] (fun t => ∃ k : Nat, (b + 1) + k ≤ y ∧ t = .int .i64 ((b + 1) + k)) (fun t => (y - intOf t).toNat)
    case atStart => exact ⟨0, by omega, by go_num⟩
    case round =>
      obtain ⟨k, hk, rfl⟩ := hrel
      have hs := step_lt Hn.out h1 h2 HY.out k hk
      by_cases he : (b + 1) + (k : Int) = y
      · have ht : (((b + 1) + (k : Int)) % n != me) = false := by rw [hs.2 he]; simp
        have HE := Lib.hid he; clear he hs
        go_wp2
        go_ret
        exact ⟨ret_int HE.out, rfl⟩
      · have ht : (((b + 1) + (k : Int)) % n != me) = true := by rw [bne_iff_ne]; exact fun g => he (hs.1 g)
        clear hs
        go_wp2
        go_round
        case rel => exact ⟨k + 1, by omega, by go_num⟩
        case measure => simp [intOf]; omega

theorem rnext_pos (b me n : Int) (w : World) (hk : okN n) (h1 : 0 ≤ me) (h2 : me < n) (hb : b ≤ 2000000000) :
    Calls Try.prog 17 #[.int .i64 b, .int .i64 me, .int .i64 n] w fun e w' => e = .returned (.int .i64 (next b me n)) ∧ w = w' := by
  rw [← next_p hk h1 h2]
  exact rnext_core b ((if b < -1 then -1 else b) + 1) _ me n w hk h1 h2 hb (by split <;> omega) (by split <;> omega) rfl rfl
end Go.Proofs.Ytmfbabpgjdcplaa
