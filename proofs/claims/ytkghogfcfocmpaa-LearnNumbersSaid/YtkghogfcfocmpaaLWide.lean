/- Within, of wider bounds. -/
import Derived.Test.YtkghogfcfocmpaaWithin
namespace Go.Proofs.Ytkghogfcfocmpaa
open Go.RowKit

set_option maxHeartbeats 400000 in
theorem within_wide (n lo hi : Int) (w : World) (hn : -9223372036854775808 ≤ n) (hn' : n ≤ 9223372036854775807) (h1 : -1000000000 ≤ lo) (h2 : lo ≤ hi) (h3 : hi ≤ 4000000000) :
    Calls Try.prog 7 #[.int .i64 n, .int .i64 lo, .int .i64 hi] w fun e w' => e = .returned (.int .i64 (within n lo hi)) ∧ w = w' := by
  by_cases ha : lo ≤ n ∧ n ≤ hi
  · have hw : n = within n lo hi := by unfold within; rw [if_pos ha]
    have H := Lib.hid hw; clear hw
    obtain ⟨ha, hb⟩ := ha
    go_enter Try.func7, Try.ntmps7
    go_wp2
    go_ret
    exact ⟨ret_int H.out, rfl⟩
  · have hm := tmod_emod n (hi - lo + 1) (by omega)
    have hw : within n lo hi = lo + n % (hi - lo + 1) := by unfold within; rw [if_neg ha]
    rw [hm] at hw
    have H := Lib.hid hw; clear hw hm
    obtain ⟨t1, t2⟩ := tmod_bd n (hi - lo + 1) (by omega)
    by_cases hb : lo ≤ n
    · have hc : hi < n := by omega
      go_enter Try.func7, Try.ntmps7
      go_wp2
      · go_ret
        exact ⟨ret_int (by rw [H.out, if_pos (by assumption)]; omega), rfl⟩
      · go_ret
        exact ⟨ret_int (by rw [H.out, if_neg (by omega)]), rfl⟩
    · go_enter Try.func7, Try.ntmps7
      go_wp2
      · go_ret
        exact ⟨ret_int (by rw [H.out, if_pos (by assumption)]; omega), rfl⟩
      · go_ret
        exact ⟨ret_int (by rw [H.out, if_neg (by omega)]), rfl⟩

end Go.Proofs.Ytkghogfcfocmpaa
