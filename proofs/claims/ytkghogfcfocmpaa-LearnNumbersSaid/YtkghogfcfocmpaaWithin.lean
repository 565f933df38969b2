/- The contract of wardmotebook.Within. -/
import Derived.Test.YtkghogfcfocmpaaRows
import Derived.WalkKit
import Derived.WalkSpells
import Derived.WalkLawsBesides
import Derived.Lib.Hide
import Derived.Deep.QuietTactic
import Derived.BigQuiet
namespace Go.Proofs.Ytkghogfcfocmpaa
open Go.RowKit

theorem ret_int {k : IntKind} {a b : Int} (h : a = b) : Ending.returned (.int k a) = .returned (.int k b) := by rw [h]
theorem ret_bool {a b : Bool} (h : a = b) : Ending.returned (.bool a) = .returned (.bool b) := by rw [h]

def within (n lo hi : Int) : Int := if lo ≤ n ∧ n ≤ hi then n else lo + n % (hi - lo + 1)
theorem within_bd (n lo hi : Int) (h : lo ≤ hi) : lo ≤ within n lo hi ∧ within n lo hi ≤ hi := by
  unfold within
  have h1 := Int.emod_nonneg n (show hi - lo + 1 ≠ 0 by omega)
  have h2 := Int.emod_lt_of_pos n (show 0 < hi - lo + 1 by omega)
  split <;> omega
theorem tmod_bd (n m : Int) (h : 0 < m) : -m < n.tmod m ∧ n.tmod m < m := by
  have h1 := Int.emod_nonneg n (show m ≠ 0 by omega)
  have h2 := Int.emod_lt_of_pos n h
  have h3 : (m.natAbs : Int) = m := by omega
  rw [Int.tmod_eq_emod]
  split <;> omega
theorem tmod_emod (n m : Int) (h : 0 < m) : n % m = if n.tmod m < 0 then n.tmod m + m else n.tmod m := by
  by_cases hn : 0 ≤ n
  · rw [Int.tmod_eq_emod_of_nonneg hn, if_neg (by have := Int.emod_nonneg n (show m ≠ 0 by omega); omega)]
  · have h1 := Int.emod_nonneg n (show m ≠ 0 by omega)
    have h2 := Int.emod_lt_of_pos n h
    rw [Int.tmod_eq_emod]
    split <;> split <;> omega
set_option maxHeartbeats 400000 in
theorem within_any (n lo hi : Int) (w : World) (hn : -9223372036854775808 ≤ n) (hn' : n ≤ 9223372036854775807) (h1 : -1000000000 ≤ lo) (h2 : lo ≤ hi) (h3 : hi ≤ 1000000000) :
    Calls Try.prog 7 #[.int .i64 n, .int .i64 lo, .int .i64 hi] w fun e w' => e = .returned (.int .i64 (within n lo hi)) ∧ w = w' := by
  by_cases ha : lo ≤ n ∧ n ≤ hi
  · have hw : n = within n lo hi := by unfold within; rw [if_pos ha]
    have H := Lib.hid hw; clear hw
    obtain ⟨ha, hb⟩ := ha
    go_enter Try.func7, Try.ntmps7
    go_wp2
    go_ret
    exact ⟨ret_int H.out, rfl⟩
  · have hm := tmod_emod n (hi - lo + 1) (by omega)
    have hw : within n lo hi = lo + n % (hi - lo + 1) := by unfold within; rw [if_neg ha]
    rw [hm] at hw
    have H := Lib.hid hw; clear hw hm
    obtain ⟨t1, t2⟩ := tmod_bd n (hi - lo + 1) (by omega)
    by_cases hb : lo ≤ n
    · have hc : hi < n := by omega
      go_enter Try.func7, Try.ntmps7
      go_wp2
      · go_ret
        exact ⟨ret_int (by rw [H.out, if_pos (by assumption)]; omega), rfl⟩
      · go_ret
        exact ⟨ret_int (by rw [H.out, if_neg (by omega)]), rfl⟩
    · go_enter Try.func7, Try.ntmps7
      go_wp2
      · go_ret
        exact ⟨ret_int (by rw [H.out, if_pos (by assumption)]; omega), rfl⟩
      · go_ret
        exact ⟨ret_int (by rw [H.out, if_neg (by omega)]), rfl⟩

end Go.Proofs.Ytkghogfcfocmpaa
