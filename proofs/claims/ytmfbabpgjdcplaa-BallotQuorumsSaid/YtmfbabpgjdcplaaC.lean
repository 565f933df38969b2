/- Contracts of ballot's Patience and of its reference, and of the statements' own helpers 'known' and 'same'. -/
import Derived.Test.YtmfbabpgjdcplaaB
namespace Go.Proofs.Ytmfbabpgjdcplaa
open Go.RowKit

theorem next_any (b me n : Int) (w : World) (hb : b ≤ 2000000000) :
    Calls Try.prog 11 #[.int .i64 b, .int .i64 me, .int .i64 n] w fun e w' => e = .returned (.int .i64 (next b me n)) ∧ w = w' := by
  by_cases h : okN n ∧ 0 ≤ me ∧ me < n
  · exact next_pos b me n w h.1 h.2.1 h.2.2 hb
  · exact next_neg b me n w (by by_cases hk : okN n; (· right; by_cases hm : me < 0; (· exact .inl hm); (· right; by_cases hx : n ≤ me; (· exact hx); (· exact absurd ⟨hk, by omega, by omega⟩ h))); (· exact .inl hk))
theorem rnext_any (b me n : Int) (w : World) (hb : b ≤ 2000000000) :
    Calls Try.prog 17 #[.int .i64 b, .int .i64 me, .int .i64 n] w fun e w' => e = .returned (.int .i64 (next b me n)) ∧ w = w' := by
  by_cases h : okN n ∧ 0 ≤ me ∧ me < n
  · exact rnext_pos b me n w h.1 h.2.1 h.2.2 hb
  · exact rnext_neg b me n w (by by_cases hk : okN n; (· right; by_cases hm : me < 0; (· exact .inl hm); (· right; by_cases hx : n ≤ me; (· exact hx); (· exact absurd ⟨hk, by omega, by omega⟩ h))); (· exact .inl hk))

/-- Patience. -/
def pw : Nat → Int
  | 0 => 2
  | 1 => 4
  | 2 => 8
  | _ => 16
theorem pw_bd {k : Nat} (h : k ≤ 3) : 2 ≤ pw k ∧ pw k ≤ 16 ∧ (pw k < 16 ↔ k < 3) := by
  obtain rfl | rfl | rfl | rfl : k = 0 ∨ k = 1 ∨ k = 2 ∨ k = 3 := by omega
  all_goals simp [pw]
def pat (e : Int) : Int := if e ≤ 0 then 2 else if e = 1 then 4 else if e = 2 then 8 else 16
def patience (b n : Int) : Int := if rightB n then pat (epoch b n) else -1
theorem pat_yes (b : Int) {n : Int} (h : okN n) : patience b n = pat (epoch b n) := by unfold patience; rw [right_yes h]; rfl
theorem pat_no (b : Int) {n : Int} (h : ¬ okN n) : patience b n = -1 := by unfold patience; rw [right_no h]; rfl
theorem pw_succ (k : Nat) (h : k < 3) : pw (k + 1) = pw k * 2 := by
  obtain rfl | rfl | rfl : k = 0 ∨ k = 1 ∨ k = 2 := by omega
  all_goals rfl
theorem pat_end {k : Nat} {E : Int} (h : k ≤ 3) (h2 : (k : Int) ≤ E) (h3 : E ≤ k ∨ 3 ≤ k) : pw k = pat E := by
  unfold pat
  obtain rfl | rfl | rfl | rfl : k = 0 ∨ k = 1 ∨ k = 2 ∨ k = 3 := by omega
  · rw [if_pos (by omega)]; rfl
  · rw [if_neg (by omega), if_pos (by omega)]; rfl
  · rw [if_neg (by omega), if_neg (by omega), if_pos (by omega)]; rfl
  · rw [if_neg (by omega), if_neg (by omega), if_neg (by omega)]; rfl
theorem epoch_lo (b : Int) {n : Int} (h : okN n) : 0 ≤ epoch b n := by
  unfold epoch; rw [right_yes h, if_pos rfl]
  split
  · omega
  · exact Int.ediv_nonneg (by omega) (by unfold okN at h; omega)
theorem epoch_hi {b n : Int} (hb : b ≤ 9223372036854775807) (h : okN n) : epoch b n ≤ 9223372036854775807 := by
  unfold epoch; rw [right_yes h, if_pos rfl]
  split
  · omega
  · rcases okN_cases h with rfl | rfl | rfl <;> omega

set_option maxHeartbeats 400000 in
theorem pat_any (b n : Int) (w : World) (hb2 : b ≤ 9223372036854775807) :
    Calls Try.prog 13 #[.int .i64 b, .int .i64 n] w fun e w' => e = .returned (.int .i64 (patience b n)) ∧ w = w' := by
  by_cases h : okN n
  · have h0 := epoch_lo b h
    have h1 := epoch_hi hb2 h
    have HP := Lib.hid (pat_yes b h)
    have Hn := Lib.hid h; clear h
    generalize hE : epoch b n = E at *
    have HE := Lib.hid hE; clear hE
    go_enter Try.func13, Try.ntmps13
    go_wp2_with (first | (go_at_call 15; refine (rright_t _ _ Hn.out).mono ?_; rintro e w' ⟨rfl, rfl⟩) | (go_at_call 18; refine (epoch_any _ _ _ hb2).mono ?_; rw [HE.out]; rintro e w' ⟨rfl, rfl⟩))
    go_loop [5, 6] (fun t p => ∃ k : Nat, k ≤ 3 ∧ (k : Int) ≤ E ∧ t = .int .i64 (E - k) ∧ p = .int .i64 (pw k)) (fun t _ => (intOf t).toNat)
    case atStart => exact ⟨0, by omega, by omega, by go_num, rfl⟩
    case round =>
      obtain ⟨k, hk, hk2, rfl, rfl⟩ := hrel
      obtain ⟨hp1, hp2, hp3⟩ := pw_bd hk
      by_cases hc : (k : Int) < E
      · by_cases hd : k < 3
        · have hp4 : pw k < 16 := hp3.2 hd
          have hs := Lib.hid (pw_succ k hd)
          clear hp3
          go_wp2
          go_round
          case rel => exact ⟨k + 1, by omega, by omega, by go_num, by rw [hs.out]⟩
          case measure => simp [intOf]; omega
        · have hp4 : ¬ pw k < 16 := fun g => hd (hp3.1 g)
          have hfin := Lib.hid (pat_end hk hk2 (.inr (by omega)))
          clear hp3
          go_wp2
          go_ret
          exact ⟨ret_int (by rw [HP.out]; exact hfin.out), rfl⟩
      · have hfin := Lib.hid (pat_end hk hk2 (.inl (by omega)))
        clear hp3
        go_wp2
        go_ret
        exact ⟨ret_int (by rw [HP.out]; exact hfin.out), rfl⟩
  · have HP := Lib.hid (pat_no b h)
    have Hn := Lib.hid h
    have HE := Lib.hid (epoch_m (b := b) h); clear h
    go_enter Try.func13, Try.ntmps13
    go_wp2_with (first | (go_at_call 15; refine (rright_f _ _ Hn.out).mono ?_; rintro e w' ⟨rfl, rfl⟩) | (go_at_call 18; refine (epoch_any _ _ _ hb2).mono ?_; rw [← HE.out]; rintro e w' ⟨rfl, rfl⟩))
    go_ret
    exact ⟨ret_int HP.out.symm, rfl⟩

set_option maxHeartbeats 400000 in
theorem rpat_any (b n : Int) (w : World) (hb2 : b ≤ 9223372036854775807) :
    Calls Try.prog 20 #[.int .i64 b, .int .i64 n] w fun e w' => e = .returned (.int .i64 (patience b n)) ∧ w = w' := by
  by_cases h : okN n
  · have h0 := epoch_lo b h
    have h1 := epoch_hi hb2 h
    have HP := Lib.hid (pat_yes b h)
    have Hn := Lib.hid h; clear h
    generalize hE : epoch b n = E at *
    have HE := Lib.hid hE; clear hE
    go_enter Try.func20, Try.ntmps20
    go_wp2_with (first | (go_at_call 15; refine (rright_t _ _ Hn.out).mono ?_; rintro e w' ⟨rfl, rfl⟩) | (go_at_call 19; refine (repoch_any _ _ _ hb2).mono ?_; rw [HE.out]; rintro e w' ⟨rfl, rfl⟩))
    go_loop [6, 5] (fun t p => ∃ k : Nat, k ≤ 3 ∧ (k : Int) ≤ E ∧ t = .int .i64 (E - k) ∧ p = .int .i64 (pw k)) (fun t _ => (intOf t).toNat)
    case atStart => exact ⟨0, by omega, by omega, by go_num, rfl⟩
    case round =>
      obtain ⟨k, hk, hk2, rfl, rfl⟩ := hrel
      obtain ⟨hp1, hp2, hp3⟩ := pw_bd hk
      by_cases hc : (k : Int) < E
      · by_cases hd : k < 3
        · have hp4 : pw k < 16 := hp3.2 hd
          have hs := Lib.hid (pw_succ k hd)
          clear hp3
          go_wp2
          go_round
          case rel => exact ⟨k + 1, by omega, by omega, by go_num, by rw [hs.out, Int.mul_comm]⟩
          case measure => simp [intOf]; omega
        · have hp4 : ¬ pw k < 16 := fun g => hd (hp3.1 g)
          have hfin := Lib.hid (pat_end hk hk2 (.inr (by omega)))
          clear hp3
          go_wp2
          go_ret
          exact ⟨ret_int (by rw [HP.out]; exact hfin.out), rfl⟩
      · have hfin := Lib.hid (pat_end hk hk2 (.inl (by omega)))
        clear hp3
        go_wp2
        go_ret
        exact ⟨ret_int (by rw [HP.out]; exact hfin.out), rfl⟩
  · have HP := Lib.hid (pat_no b h)
    have Hn := Lib.hid h
    have HE := Lib.hid (epoch_m (b := b) h); clear h
    go_enter Try.func20, Try.ntmps20
    go_wp2_with (first | (go_at_call 15; refine (rright_f _ _ Hn.out).mono ?_; rintro e w' ⟨rfl, rfl⟩) | (go_at_call 19; refine (repoch_any _ _ _ hb2).mono ?_; rw [← HE.out]; rintro e w' ⟨rfl, rfl⟩))
    go_ret
    exact ⟨ret_int HP.out.symm, rfl⟩

end Go.Proofs.Ytmfbabpgjdcplaa
