/- The statements' own helpers 'known' and 'same': both return true. -/
import Derived.Test.YtmfbabpgjdcplaaC
namespace Go.Proofs.Ytmfbabpgjdcplaa
open Go.RowKit

set_option maxHeartbeats 400000 in
theorem known_any (w : World) : Calls Try.prog 9 #[] w fun e w' => e = .returned (.bool true) ∧ w = w' := by
  have e1 : next 4 0 3 = 6 := by decide
  have e2 : next (-1) 2 3 = 2 := by decide
  have e3 : patience 7 3 = 8 := by decide
  go_enter Try.func9, Try.ntmps9
  go_wp2_with (first | (go_at_call 11; refine (next_any _ _ _ _ (by omega)).mono ?_; rintro e w' ⟨rfl, rfl⟩) | (go_at_call 13; refine (pat_any _ _ _ (by omega)).mono ?_; rintro e w' ⟨rfl, rfl⟩) | (go_at_call 14; refine (right_f 4 _ (by unfold okN; omega)).mono ?_; rintro e w' ⟨rfl, rfl⟩))
  go_ret
  exact ⟨rfl, rfl⟩

theorem quorum_yes {n : Int} (h : okN n) : quorum n = n / 2 + 1 := by unfold quorum; rw [right_yes h, if_pos rfl]
theorem quorum_no {n : Int} (h : ¬ okN n) : quorum n = -1 := by unfold quorum; rw [right_no h]; rfl
set_option maxHeartbeats 400000 in
theorem same_any (b me n : Int) (w : World) (hb : b ≤ 2000000000) :
    Calls Try.prog 10 #[.int .i64 b, .int .i64 me, .int .i64 n] w fun e w' => e = .returned (.bool true) ∧ w = w' := by
  by_cases h : okN n
  · have hq := Lib.hid (quorum_yes h)
    have h3 : 1 ≤ n := by unfold okN at h; omega
    have h4 : n ≤ 5 := by unfold okN at h; omega
    have Hn := Lib.hid h; clear h
    go_enter Try.func10, Try.ntmps10
    go_wp2_with (first
      | (go_at_call 15; refine (rright_t _ _ Hn.out).mono ?_; rintro e w' ⟨rfl, rfl⟩)
      | (go_at_call 14; refine (right_t _ _ Hn.out).mono ?_; rintro e w' ⟨rfl, rfl⟩)
      | (go_at_call 8; refine (quorum_any _ _).mono ?_; rw [hq.out]; rintro e w' ⟨rfl, rfl⟩)
      | (go_at_call 12; refine (leader_any _ _ _).mono ?_; rintro e w' ⟨rfl, rfl⟩)
      | (go_at_call 16; refine (rleader_any _ _ _).mono ?_; rintro e w' ⟨rfl, rfl⟩)
      | (go_at_call 11; refine (next_any _ _ _ _ hb).mono ?_; rintro e w' ⟨rfl, rfl⟩)
      | (go_at_call 17; refine (rnext_any _ _ _ _ hb).mono ?_; rintro e w' ⟨rfl, rfl⟩)
      | (go_at_call 18; refine (epoch_any _ _ _ (by omega)).mono ?_; rintro e w' ⟨rfl, rfl⟩)
      | (go_at_call 19; refine (repoch_any _ _ _ (by omega)).mono ?_; rintro e w' ⟨rfl, rfl⟩)
      | (go_at_call 13; refine (pat_any _ _ _ (by omega)).mono ?_; rintro e w' ⟨rfl, rfl⟩)
      | (go_at_call 20; refine (rpat_any _ _ _ (by omega)).mono ?_; rintro e w' ⟨rfl, rfl⟩))
    go_ret
    exact ⟨rfl, rfl⟩
  · have hq := Lib.hid (quorum_no h)
    have Hn := Lib.hid h; clear h
    go_enter Try.func10, Try.ntmps10
    go_wp2_with (first
      | (go_at_call 15; refine (rright_f _ _ Hn.out).mono ?_; rintro e w' ⟨rfl, rfl⟩)
      | (go_at_call 14; refine (right_f _ _ Hn.out).mono ?_; rintro e w' ⟨rfl, rfl⟩)
      | (go_at_call 8; refine (quorum_any _ _).mono ?_; rw [hq.out]; rintro e w' ⟨rfl, rfl⟩)
      | (go_at_call 12; refine (leader_any _ _ _).mono ?_; rintro e w' ⟨rfl, rfl⟩)
      | (go_at_call 16; refine (rleader_any _ _ _).mono ?_; rintro e w' ⟨rfl, rfl⟩)
      | (go_at_call 11; refine (next_any _ _ _ _ hb).mono ?_; rintro e w' ⟨rfl, rfl⟩)
      | (go_at_call 17; refine (rnext_any _ _ _ _ hb).mono ?_; rintro e w' ⟨rfl, rfl⟩)
      | (go_at_call 18; refine (epoch_any _ _ _ (by omega)).mono ?_; rintro e w' ⟨rfl, rfl⟩)
      | (go_at_call 19; refine (repoch_any _ _ _ (by omega)).mono ?_; rintro e w' ⟨rfl, rfl⟩)
      | (go_at_call 13; refine (pat_any _ _ _ (by omega)).mono ?_; rintro e w' ⟨rfl, rfl⟩)
      | (go_at_call 20; refine (rpat_any _ _ _ (by omega)).mono ?_; rintro e w' ⟨rfl, rfl⟩))
    go_ret
    exact ⟨rfl, rfl⟩
end Go.Proofs.Ytmfbabpgjdcplaa
