/- Contracts of the functions of package ballot and of its reference: what each returns, for the arguments that the statements use. -/
import Derived.Test.YtmfbabpgjdcplaaRows
import Derived.WalkKit
import Derived.WalkSpells
import Derived.WalkLawsBesides
import Derived.Lib.Hide
import Derived.Deep.QuietTactic
import Derived.BigQuiet
namespace Go.Proofs.Ytmfbabpgjdcplaa
open Go.RowKit

theorem ret_int {k : IntKind} {a b : Int} (h : a = b) : Ending.returned (.int k a) = .returned (.int k b) := by rw [h]
theorem ret_bool {a b : Bool} (h : a = b) : Ending.returned (.bool a) = .returned (.bool b) := by rw [h]

def within (n lo hi : Int) : Int := if lo ≤ n ∧ n ≤ hi then n else lo + n % (hi - lo + 1)
theorem within_bd (n lo hi : Int) (h : lo ≤ hi) : lo ≤ within n lo hi ∧ within n lo hi ≤ hi := by
  unfold within
  have h1 := Int.emod_nonneg n (show hi - lo + 1 ≠ 0 by omega)
  have h2 := Int.emod_lt_of_pos n (show 0 < hi - lo + 1 by omega)
  split <;> omega
theorem tmod_bd (n m : Int) (h : 0 < m) : -m < n.tmod m ∧ n.tmod m < m := by
  have h1 := Int.emod_nonneg n (show m ≠ 0 by omega)
  have h2 := Int.emod_lt_of_pos n h
  have h3 : (m.natAbs : Int) = m := by omega
  rw [Int.tmod_eq_emod]
  split <;> omega
theorem tmod_emod (n m : Int) (h : 0 < m) : n % m = if n.tmod m < 0 then n.tmod m + m else n.tmod m := by
  by_cases hn : 0 ≤ n
  · rw [Int.tmod_eq_emod_of_nonneg hn, if_neg (by have := Int.emod_nonneg n (show m ≠ 0 by omega); omega)]
  · have h1 := Int.emod_nonneg n (show m ≠ 0 by omega)
    have h2 := Int.emod_lt_of_pos n h
    rw [Int.tmod_eq_emod]
    split <;> split <;> omega
set_option maxHeartbeats 400000 in
theorem within_any (n lo hi : Int) (w : World) (hn : -9223372036854775808 ≤ n) (hn' : n ≤ 9223372036854775807) (h1 : -1000000000 ≤ lo) (h2 : lo ≤ hi) (h3 : hi ≤ 1000000000) :
    Calls Try.prog 7 #[.int .i64 n, .int .i64 lo, .int .i64 hi] w fun e w' => e = .returned (.int .i64 (within n lo hi)) ∧ w = w' := by
  by_cases ha : lo ≤ n ∧ n ≤ hi
  · have hw : n = within n lo hi := by unfold within; rw [if_pos ha]
    have H := Lib.hid hw; clear hw
    obtain ⟨ha, hb⟩ := ha
    go_enter Try.func7, Try.ntmps7
    go_wp2
    go_ret
    exact ⟨ret_int H.out, rfl⟩
  · have hm := tmod_emod n (hi - lo + 1) (by omega)
    have hw : within n lo hi = lo + n % (hi - lo + 1) := by unfold within; rw [if_neg ha]
    rw [hm] at hw
    have H := Lib.hid hw; clear hw hm
    obtain ⟨t1, t2⟩ := tmod_bd n (hi - lo + 1) (by omega)
    by_cases hb : lo ≤ n
    · have hc : hi < n := by omega
      go_enter Try.func7, Try.ntmps7
      go_wp2
      · go_ret
        exact ⟨ret_int (by rw [H.out, if_pos (by assumption)]; omega), rfl⟩
      · go_ret
        exact ⟨ret_int (by rw [H.out, if_neg (by omega)]), rfl⟩
    · go_enter Try.func7, Try.ntmps7
      go_wp2
      · go_ret
        exact ⟨ret_int (by rw [H.out, if_pos (by assumption)]; omega), rfl⟩
      · go_ret
        exact ⟨ret_int (by rw [H.out, if_neg (by omega)]), rfl⟩

/-- How many replicas there may be. -/
def okN (n : Int) : Prop := n = 1 ∨ n = 3 ∨ n = 5
def rightB (n : Int) : Bool := n == 1 || n == 3 || n == 5
theorem right_yes {n : Int} (h : okN n) : rightB n = true := by unfold okN at h; unfold rightB; rcases h with h | h | h <;> subst h <;> rfl
theorem right_no {n : Int} (h : ¬ okN n) : rightB n = false := by
  unfold okN at h; unfold rightB
  have h1 : (n == 1) = false := by rw [beq_eq_false_iff_ne]; omega
  have h2 : (n == 3) = false := by rw [beq_eq_false_iff_ne]; omega
  have h3 : (n == 5) = false := by rw [beq_eq_false_iff_ne]; omega
  rw [h1, h2, h3]; rfl

set_option maxHeartbeats 400000 in
theorem right_t (n : Int) (w : World) (h : okN n) :
    Calls Try.prog 14 #[.int .i64 n] w fun e w' => e = .returned (.bool true) ∧ w = w' := by
  rcases h with h | h | h <;> subst h
  all_goals
    go_enter Try.func14, Try.ntmps14
    go_wp2
    go_ret
    exact ⟨rfl, rfl⟩
set_option maxHeartbeats 400000 in
theorem right_f (n : Int) (w : World) (h : ¬ okN n) :
    Calls Try.prog 14 #[.int .i64 n] w fun e w' => e = .returned (.bool false) ∧ w = w' := by
  unfold okN at h
  have h1 : (n == 1) = false := by rw [beq_eq_false_iff_ne]; omega
  have h2 : (n == 3) = false := by rw [beq_eq_false_iff_ne]; omega
  have h3 : (n == 5) = false := by rw [beq_eq_false_iff_ne]; omega
  clear h
  go_enter Try.func14, Try.ntmps14
  go_wp2
  go_ret
  exact ⟨rfl, rfl⟩
set_option maxHeartbeats 400000 in
theorem rright_t (n : Int) (w : World) (h : okN n) :
    Calls Try.prog 15 #[.int .i64 n] w fun e w' => e = .returned (.bool true) ∧ w = w' := by
  rcases h with h | h | h <;> subst h
  all_goals
    go_enter Try.func15, Try.ntmps15
    go_wp2
    go_ret
    exact ⟨rfl, rfl⟩
set_option maxHeartbeats 400000 in
theorem rright_f (n : Int) (w : World) (h : ¬ okN n) :
    Calls Try.prog 15 #[.int .i64 n] w fun e w' => e = .returned (.bool false) ∧ w = w' := by
  unfold okN at h
  have h1 : (n == 1) = false := by rw [beq_eq_false_iff_ne]; omega
  have h2 : (n == 3) = false := by rw [beq_eq_false_iff_ne]; omega
  have h3 : (n == 5) = false := by rw [beq_eq_false_iff_ne]; omega
  clear h
  go_enter Try.func15, Try.ntmps15
  go_wp2
  go_ret
  exact ⟨rfl, rfl⟩

/-- Quorum. -/
def quorum (n : Int) : Int := if rightB n then n / 2 + 1 else -1
set_option maxHeartbeats 400000 in
theorem quorum_any (n : Int) (w : World) :
    Calls Try.prog 8 #[.int .i64 n] w fun e w' => e = .returned (.int .i64 (quorum n)) ∧ w = w' := by
  by_cases h : okN n
  · rcases h with h | h | h <;> subst h
    all_goals
      go_enter Try.func8, Try.ntmps8
      go_wp2
      go_ret
      exact ⟨rfl, rfl⟩
  · have hq : -1 = quorum n := by unfold quorum; rw [right_no h]; rfl
    have H := Lib.hid hq; clear hq
    have Hn := Lib.hid h; clear h
    go_enter Try.func8, Try.ntmps8
    go_wp2_with (go_at_call 14; refine (right_f _ _ Hn.out).mono ?_; rintro e w' ⟨rfl, rfl⟩)
    go_ret
    exact ⟨ret_int H.out, rfl⟩

/-- Leader. -/
def leader (b n : Int) : Int := if rightB n ∧ 0 ≤ b then b % n else -1
theorem leader_m {b n : Int} (hn : ¬ okN n ∨ b < 0) : -1 = leader b n := by
  unfold leader
  rcases hn with h | h
  · rw [right_no h]; rfl
  · rw [if_neg (by omega)]
theorem leader_p {b n : Int} (hn : okN n) (h : 0 ≤ b) : b % n = leader b n := by
  unfold leader; rw [if_pos ⟨right_yes hn, h⟩]
set_option maxHeartbeats 400000 in
theorem leader_any (b n : Int) (w : World) :
    Calls Try.prog 12 #[.int .i64 b, .int .i64 n] w fun e w' => e = .returned (.int .i64 (leader b n)) ∧ w = w' := by
  by_cases h : okN n
  · by_cases hb : 0 ≤ b
    · have H := Lib.hid (leader_p h hb)
      have h1 : 1 ≤ n := by unfold okN at h; omega
      have Hn := Lib.hid h; clear h
      go_enter Try.func12, Try.ntmps12
      go_wp2_with (go_at_call 14; refine (right_t _ _ Hn.out).mono ?_; rintro e w' ⟨rfl, rfl⟩)
      go_ret
      exact ⟨ret_int H.out, rfl⟩
    · have hb' : b < 0 := by omega
      have H := Lib.hid (leader_m (b := b) (n := n) (.inr hb'))
      have Hn := Lib.hid h; clear h hb
      go_enter Try.func12, Try.ntmps12
      go_wp2_with (go_at_call 14; refine (right_t _ _ Hn.out).mono ?_; rintro e w' ⟨rfl, rfl⟩)
      go_ret
      exact ⟨ret_int H.out, rfl⟩
  · have H := Lib.hid (leader_m (b := b) (n := n) (.inl h))
    have Hn := Lib.hid h; clear h
    go_enter Try.func12, Try.ntmps12
    go_wp2_with (go_at_call 14; refine (right_f _ _ Hn.out).mono ?_; rintro e w' ⟨rfl, rfl⟩)
    go_ret
    exact ⟨ret_int H.out, rfl⟩
set_option maxHeartbeats 400000 in
theorem rleader_any (b n : Int) (w : World) :
    Calls Try.prog 16 #[.int .i64 b, .int .i64 n] w fun e w' => e = .returned (.int .i64 (leader b n)) ∧ w = w' := by
  by_cases h : okN n
  · by_cases hb : 0 ≤ b
    · have H := Lib.hid (leader_p h hb)
      have h1 : 1 ≤ n := by unfold okN at h; omega
      have Hn := Lib.hid h; clear h
      go_enter Try.func16, Try.ntmps16
      go_wp2_with (go_at_call 15; refine (rright_t _ _ Hn.out).mono ?_; rintro e w' ⟨rfl, rfl⟩)
      go_ret
      exact ⟨ret_int H.out, rfl⟩
    · have hb' : b < 0 := by omega
      have H := Lib.hid (leader_m (b := b) (n := n) (.inr hb'))
      have Hn := Lib.hid h; clear h hb
      go_enter Try.func16, Try.ntmps16
      go_wp2_with (go_at_call 15; refine (rright_t _ _ Hn.out).mono ?_; rintro e w' ⟨rfl, rfl⟩)
      go_ret
      exact ⟨ret_int H.out, rfl⟩
  · have H := Lib.hid (leader_m (b := b) (n := n) (.inl h))
    have Hn := Lib.hid h; clear h
    go_enter Try.func16, Try.ntmps16
    go_wp2_with (go_at_call 15; refine (rright_f _ _ Hn.out).mono ?_; rintro e w' ⟨rfl, rfl⟩)
    go_ret
    exact ⟨ret_int H.out, rfl⟩

/-- Epoch. -/
def epoch (b n : Int) : Int := if rightB n then (if b < 0 then 0 else b / n) else -1
theorem epoch_m {b n : Int} (hn : ¬ okN n) : -1 = epoch b n := by
  unfold epoch; rw [right_no hn]; rfl
theorem epoch_z {b n : Int} (hn : okN n) (h : b < 0) : 0 = epoch b n := by
  unfold epoch; rw [right_yes hn, if_pos rfl, if_pos h]
theorem epoch_p {b n : Int} (hn : okN n) (h : 0 ≤ b) : b / n = epoch b n := by
  unfold epoch; rw [right_yes hn, if_pos rfl, if_neg (by omega)]
set_option maxHeartbeats 400000 in
theorem epoch_any (b n : Int) (w : World) (hb2 : b ≤ 9223372036854775807) :
    Calls Try.prog 18 #[.int .i64 b, .int .i64 n] w fun e w' => e = .returned (.int .i64 (epoch b n)) ∧ w = w' := by
  by_cases h : okN n
  · by_cases hb : 0 ≤ b
    · have H := Lib.hid (epoch_p h hb)
      have h1 : 1 ≤ n := by unfold okN at h; omega
      have h2 : n ≤ 5 := by unfold okN at h; omega
      have Hn := Lib.hid h; clear h
      go_enter Try.func18, Try.ntmps18
      go_wp2_with (go_at_call 14; refine (right_t _ _ Hn.out).mono ?_; rintro e w' ⟨rfl, rfl⟩)
      go_ret
      exact ⟨ret_int H.out, rfl⟩
    · have hb' : b < 0 := by omega
      have H := Lib.hid (epoch_z (b := b) (n := n) h hb')
      have Hn := Lib.hid h; clear h hb
      go_enter Try.func18, Try.ntmps18
      go_wp2_with (go_at_call 14; refine (right_t _ _ Hn.out).mono ?_; rintro e w' ⟨rfl, rfl⟩)
      go_ret
      exact ⟨ret_int H.out, rfl⟩
  · have H := Lib.hid (epoch_m (b := b) (n := n) h)
    have Hn := Lib.hid h; clear h
    go_enter Try.func18, Try.ntmps18
    go_wp2_with (go_at_call 14; refine (right_f _ _ Hn.out).mono ?_; rintro e w' ⟨rfl, rfl⟩)
    go_ret
    exact ⟨ret_int H.out, rfl⟩
set_option maxHeartbeats 400000 in
theorem repoch_any (b n : Int) (w : World) (hb2 : b ≤ 9223372036854775807) :
    Calls Try.prog 19 #[.int .i64 b, .int .i64 n] w fun e w' => e = .returned (.int .i64 (epoch b n)) ∧ w = w' := by
  by_cases h : okN n
  · have h1 : 1 ≤ n := by unfold okN at h; omega
    have h2 : n ≤ 5 := by unfold okN at h; omega
    by_cases hb : 0 ≤ b
    · have H := Lib.hid (epoch_p h hb)
      have Hn := Lib.hid h; clear h
      go_enter Try.func19, Try.ntmps19
      go_wp2_with (go_at_call 15; refine (rright_t _ _ Hn.out).mono ?_; rintro e w' ⟨rfl, rfl⟩)
      go_ret
      exact ⟨ret_int H.out, rfl⟩
    · have hb' : b < 0 := by omega
      have H := Lib.hid (epoch_z (b := b) (n := n) h hb')
      have Hn := Lib.hid h; clear h hb
      go_enter Try.func19, Try.ntmps19
      go_wp2_with (go_at_call 15; refine (rright_t _ _ Hn.out).mono ?_; rintro e w' ⟨rfl, rfl⟩)
      go_ret
      exact ⟨ret_int H.out, rfl⟩
  · have H := Lib.hid (epoch_m (b := b) (n := n) h)
    have Hn := Lib.hid h; clear h
    go_enter Try.func19, Try.ntmps19
    go_wp2_with (go_at_call 15; refine (rright_f _ _ Hn.out).mono ?_; rintro e w' ⟨rfl, rfl⟩)
    go_ret
    exact ⟨ret_int H.out, rfl⟩
end Go.Proofs.Ytmfbabpgjdcplaa
