/- The walk of LearnNumbers: it returns true. -/
import Derived.Test.YtkghogfcfocmpaaLPlays
namespace Go.Proofs.Ytkghogfcfocmpaa
open Go.RowKit

theorem odd_at (j : Nat) (hj : j < 3) : ∃ k : Int, (k = 1 ∨ k = 3 ∨ k = 5) ∧ (#[Value.int .i64 1, .int .i64 3, .int .i64 5] : Array Value)[j]? = some (.int .i64 k) := by
  match j, hj with
  | 0, _ => exact ⟨1, by simp, rfl⟩
  | 1, _ => exact ⟨3, by simp, rfl⟩
  | 2, _ => exact ⟨5, by simp, rfl⟩
set_option maxRecDepth 100000 in
set_option maxHeartbeats 2000000 in
theorem numbers_any (w : World) : Calls Try.prog 4 #[] w (SameEnd w) := by
  obtain ⟨WC, hWC⟩ : ∃ WC, WC = w.alloc (.cells #[.int .i64 1, .int .i64 3, .int .i64 5] 3) := ⟨_, rfl⟩
  have hBC : Blk WC w.heap.size 3 #[.int .i64 1, .int .i64 3, .int .i64 5] := by rw [hWC]; exact Blk.new w _ _
  have bC : Below w.heap.size w WC := by rw [hWC]; exact (Below.refl _ _).alloc (Nat.le_refl _) _
  have HWC := Lib.hid hWC
  have HBC := Lib.hid hBC
  have BC := Lib.hid bC
  clear hWC hBC bC
  go_enter Try.func4, Try.ntmps4
  go_wp2_with fail
  rw [← HWC.out]
  go_loopw [8] (fun i wr => ∃ j : Nat, j ≤ 3 ∧ i = .int .i64 j ∧ Below WC.heap.size WC wr) (fun i _ => 3 - (intOf i).toNat)
  case atStart => exact ⟨0, by omega, rfl, Below.refl _ _⟩
  case round =>
    rename World => WR
    obtain ⟨j, hj, rfl, hb⟩ := hrel
    by_cases hlt : j < 3
    · obtain ⟨k, hk, hkc⟩ := odd_at j hlt
      have hc : WR.cell? ⟨w.heap.size, j, none⟩ = some (.int .i64 k) := ((HBC.out.below hb HBC.out.lt).cell j).trans hkc
      have hkr : isRight k = true := by rcases hk with rfl | rfl | rfl <;> rfl
      have hk1 : 1 ≤ k := by omega
      have hk5 : k ≤ 5 := by omega
      have g1 : (j : Int) < 3 := by omega
      have g0 : (0 : Int) ≤ j := by omega
      have hnew := TwoAny.new WR k
      have Hkr := Lib.hid hkr
      have Hnew := Lib.hid hnew
      have Hb := Lib.hid hb
      have Hk := Lib.hid hk
      clear hk hkc hkr hnew hb
      go_wp2_with fail
      refine (new_ok k WR Hkr.out).mono ?_
      rintro e w1 ⟨rfl, hw1⟩
      rw [hw1] at Hnew
      have hz1 : w1.heap.size = WR.heap.size + 1 := by rw [← hw1]; simp
      obtain ⟨D, hD⟩ : ∃ D, WR.heap.size = D := ⟨_, rfl⟩
      rw [hD] at Hnew hz1
      rw [hD]
      have HD := Lib.hid hD
      clear hD hw1
      go_wp2_with fail
      go_loopw [5] (fun i wx => ∃ i' : Nat, i' ≤ 60 ∧ i = .int .i64 i' ∧ TwoAny WR D (D + 1) k (2 * i') wx) (fun i _ => 60 - (intOf i).toNat)
      case atStart => exact ⟨0, by omega, rfl, Hnew.out⟩
      case round =>
        obtain ⟨i, hi, rfl, hT⟩ := hrel
        have HT := Lib.hid hT
        clear hT
        by_cases hli : i < 60
        · have q1 : (i : Int) < 60 := by omega
          have q0 : (0 : Int) ≤ i := by omega
          have t1 := Int.tmod_eq_emod_of_nonneg (b := 35) (show (0 : Int) ≤ (i : Int) * 7 by omega)
          have t2 := Int.tmod_eq_emod_of_nonneg (b := 3) q0
          have t3 := Int.tmod_eq_emod_of_nonneg (b := k + 2) q0
          have t4 := Int.tmod_eq_emod_of_nonneg (b := 20) q0
          have t5 : (i : Int).tdiv 10 = (i : Int) / 10 := Int.tdiv_eq_ediv_of_nonneg q0
          have u3 := Int.emod_nonneg (i : Int) (show k + 2 ≠ 0 by omega)
          have u4 := Int.emod_lt_of_pos (i : Int) (show 0 < k + 2 by omega)
          obtain ⟨a1, h1⟩ : ∃ a1, ((i : Int) * 7).tmod 35 = a1 := ⟨_, rfl⟩
          obtain ⟨a2, h2⟩ : ∃ a2, (i : Int).tmod 3 = a2 := ⟨_, rfl⟩
          obtain ⟨a3, h3⟩ : ∃ a3, (i : Int).tmod (k + 2) = a3 := ⟨_, rfl⟩
          obtain ⟨a4, h4⟩ : ∃ a4, (i : Int).tmod 20 = a4 := ⟨_, rfl⟩
          obtain ⟨a5, h5⟩ : ∃ a5, (i : Int).tdiv 10 = a5 := ⟨_, rfl⟩
          have b1 : 0 ≤ a1 ∧ a1 ≤ 34 := by omega
          have b2 : 0 ≤ a2 ∧ a2 ≤ 2 := by omega
          have b3 : 0 ≤ a3 ∧ a3 ≤ 7 := by omega
          have b5 : 0 ≤ a5 ∧ a5 ≤ 60 := by omega
          have hdo : Calls Try.prog 12 #[.pointer (some ⟨D, 0, none⟩), .pointer (some ⟨D + 1, 0, none⟩), .agg #[.int .i64 0, .int .i64 a1, .int .i64 a2, .int .i64 a3, .int .i64 i, .bool false]] wr (DoEnd WR D (D + 1) k (2 * i)) := do_any ⟨0, a1, a2, a3, i, false⟩ HT.out Hkr.out (by omega) (by unfold I64; simp only; omega) (by unfold I64; simp only; omega) (by unfold I64; simp only; omega) (by unfold I64; simp only; omega)
          have Hdo := Lib.hid hdo
          have hk0 : (k + 2 == 0) = false := by rw [beq_eq_false_iff_ne]; omega
          have hk0' : ¬ k + 2 = 0 := by omega
          obtain ⟨b50, b51⟩ := b5
          clear t1 t2 t3 t4 t5 u3 u4 b1 b2 b3 hdo
          by_cases p4 : a4 = 19
          · have e4 : (a4 == 19) = true := by rw [beq_iff_eq]; exact p4
            clear p4
            go_wp2_with fail
            refine Hdo.out.mono ?_
            rintro e w2 ⟨rfl, hT2⟩
            have hdo2 : Calls Try.prog 12 #[.pointer (some ⟨D, 0, none⟩), .pointer (some ⟨D + 1, 0, none⟩), .agg #[.int .i64 1, .int .i64 a5, .int .i64 0, .int .i64 0, .int .i64 0, .bool false]] w2 (DoEnd WR D (D + 1) k (2 * i + 1)) := do_any ⟨1, a5, 0, 0, 0, false⟩ hT2 Hkr.out (by omega) (by unfold I64; simp only; omega) (by unfold I64; simp only; omega) (by unfold I64; simp only; omega) (by unfold I64; simp only; omega)
            have Hdo2 := Lib.hid hdo2
            clear hdo2 hT2
            go_wp2_with fail
            refine Hdo2.out.mono ?_
            rintro e w3 ⟨rfl, hT3⟩
            have HT3 := Lib.hid (hT3.more (N' := 2 * (i + 1)) (by omega))
            clear hT3
            go_wp2_with fail
            go_roundw
            case rel => exact ⟨i + 1, by omega, by go_num, HT3.out⟩
            case measure => simp [intOf]; omega
          · have e4 : (a4 == 19) = false := by rw [beq_eq_false_iff_ne]; exact p4
            clear p4
            go_wp2_with fail
            refine Hdo.out.mono ?_
            rintro e w2 ⟨rfl, hT2⟩
            have HT3 := Lib.hid (hT2.more (N' := 2 * (i + 1)) (by omega))
            clear hT2
            go_wp2_with fail
            go_roundw
            case rel => exact ⟨i + 1, by omega, by go_num, HT3.out⟩
            case measure => simp [intOf]; omega
        · have q1 : ¬ (i : Int) < 60 := by omega
          have hbx := Hb.out.trans (HT.out.sub.mono Hb.out.size)
          have Hbx := Lib.hid hbx
          clear hbx
          go_wp2_with fail
          go_roundw
          case rel => exact ⟨j + 1, by omega, by go_num, Hbx.out⟩
          case measure => simp [intOf]; omega
    · have g1 : ¬ (j : Int) < 3 := by omega
      have hbw := BC.out.trans (hb.mono BC.out.size)
      have Hbw := Lib.hid hbw
      clear hbw hb
      go_wp2_with fail
      refine (new_bad 0 WR rfl).mono ?_
      rintro e w' ⟨rfl, rfl⟩
      go_wp2_with fail
      refine (new_bad 4 WR rfl).mono ?_
      rintro e w' ⟨rfl, rfl⟩
      go_wp2_with fail
      refine (known_any WR).mono ?_
      rintro e w' ⟨rfl, hb⟩
      go_wp2_with fail
      go_ret
      exact ⟨rfl, Hbw.out.trans (hb.mono Hbw.out.size)⟩
end Go.Proofs.Ytkghogfcfocmpaa
