/- The statement BallotTurns returns true for every b, me, n. No condition. -/
import Derived.Test.YtmfbabpgjdcplaaRows
import Derived.Test.YtmfbabpgjdcplaaD
import Derived.WalkKit
import Derived.ProofKit
import Derived.OpenShut
import Derived.ShutString
namespace Go.Proofs.Ytmfbabpgjdcplaa.ballotTurns
open Go.ChangeShapes Go.WideShapes Go.ChangeAt Go.RowKit
open Go.ChangeMaps (open_string shut_string)
set_option linter.unusedVariables false      -- a walk need not use every 'w<i>' (that an integer argument fits its kind)

theorem own : ownKnob Try.prog.godebug = none := by kernel_rfl


theorem next_facts {k i x : Int} (hx : okN x) (hk : -1 ≤ k) (hi : 0 ≤ i) (hi2 : i < x) :
    k < next k i x ∧ next k i x ≤ k + x ∧ leader (next k i x) x = i ∧ ∀ z, k < z → z < next k i x → leader z x ≠ i := by
  rw [← next_p hx hi hi2]
  unfold nextP
  rw [if_neg (by omega)]
  have lp : ∀ z : Int, 0 ≤ z → leader z x = z % x := fun z hz => (leader_p hx hz).symm
  rcases okN_cases hx with rfl | rfl | rfl
  all_goals
    simp only
    refine ⟨by omega, by omega, by rw [lp _ (by omega)]; omega, fun z h1 h2 => ?_⟩
    rw [lp _ (by omega)]
    omega
theorem pat_facts {k x : Int} (hx : okN x) (hk : -1 ≤ k) : 2 ≤ patience k x ∧ patience k x ≤ patience (k + 1) x ∧ patience (k + 1) x ≤ 16 := by
  rw [pat_yes _ hx, pat_yes _ hx]
  have e1 : epoch k x ≤ epoch (k + 1) x := by
    unfold epoch; rw [right_yes hx, if_pos rfl, if_pos rfl]
    rcases okN_cases hx with rfl | rfl | rfl <;> split <;> split <;> omega
  generalize epoch k x = a at *
  generalize epoch (k + 1) x = b at *
  unfold pat
  repeat' split
  all_goals omega
theorem quorum_facts {x : Int} (hx : okN x) : x < 2 * quorum x ∧ quorum x ≤ x := by
  rcases okN_cases hx with rfl | rfl | rfl <;> decide

set_option maxHeartbeats 400000 in
set_option maxHeartbeats 400000 in
theorem walk_1 (a0 a1 a2 K I N Y P Q q : Int) (w : World) (b0 : -9223372036854775808 ≤ a0 ∧ a0 ≤ 9223372036854775807) (b1 : -9223372036854775808 ≤ a1 ∧ a1 ≤ 9223372036854775807) (b2 : -9223372036854775808 ≤ a2 ∧ a2 ≤ 9223372036854775807)
    (hK : within a0 (-1) 536870912 = K) (hI : within a1 0 0 = I) (hN : within a2 0 1048576 = N) (hY : next K I 1 = Y) (hP : patience K 1 = P) (hQ : patience (K + 1) 1 = Q) (hq : quorum 1 = q)
    (k1 : -1 ≤ K) (k2 : K ≤ 536870912) (n1 : 0 ≤ N) (n2 : N ≤ 1048576) (hm : N % 3 = 0)
    (f1 : K < Y) (f2 : Y ≤ K + 1) (f3 : leader Y 1 = I) (f4 : ∀ z, K < z → z < Y → leader z 1 ≠ I) (p1 : 2 ≤ P) (p2 : P ≤ Q) (p3 : Q ≤ 16) (q1 : 1 < 2 * q) (q2 : q ≤ 1) :
    Calls Try.prog 6 #[.int .i64 a0, .int .i64 a1, .int .i64 a2] w fun e w' => e = .returned (.bool true) ∧ Grown w w' := by
  have HK := Lib.hid hK
  have HI := Lib.hid hI
  have HN := Lib.hid hN
  have HY := Lib.hid hY
  have HP := Lib.hid hP
  have HQ := Lib.hid hQ
  have Hq := Lib.hid hq
  have F3 := Lib.hid f3
  have F4 := Lib.hid f4
  clear f3 f4 hK hI hN hY hP hQ hq
  go_enter Try.func6, Try.ntmps6
  go_wp2_with (first | (go_at_call 7; refine (within_any _ _ _ _ (by omega) (by omega) (by omega) (by omega) (by omega)).mono ?_; (first | rw [HK.out] | rw [HI.out] | rw [HN.out]); rintro e w' ⟨rfl, rfl⟩) | (go_at_call 11; refine (next_any _ _ _ _ (by omega)).mono ?_; rw [HY.out]; rintro e w' ⟨rfl, rfl⟩) | (go_at_call 12; refine (leader_any _ _ _).mono ?_; rw [F3.out]; rintro e w' ⟨rfl, rfl⟩))
  go_loop [11] (fun t => ∃ z : Int, K < z ∧ z ≤ Y ∧ t = .int .i64 z) (fun t => (Y - intOf t).toNat)
  case atStart => exact ⟨K + 1, by omega, by omega, rfl⟩
  case round =>
    obtain ⟨z, hz1, hz2, rfl⟩ := hrel
    by_cases hz : z < Y
    · have hne : (leader z 1 == I) = false := by rw [beq_eq_false_iff_ne]; exact F4.out z hz1 hz
      go_wp2_with (go_at_call 12; refine (leader_any _ _ _).mono ?_; rintro e w' ⟨rfl, rfl⟩)
      go_round
      case rel => exact ⟨z + 1, by omega, by omega, rfl⟩
      case measure => simp [intOf]; omega
    · go_wp2_with (first | (go_at_call 13; refine (pat_any _ _ _ (by omega)).mono ?_; (first | rw [HQ.out] | rw [HP.out]); rintro e w' ⟨rfl, rfl⟩) | (go_at_call 8; refine (quorum_any _ _).mono ?_; rw [Hq.out]; rintro e w' ⟨rfl, rfl⟩) | (go_at_call 9; refine (known_any _).mono ?_; rintro e w' ⟨rfl, rfl⟩))
      go_ret
      exact ⟨rfl, (Grown.refl _).alloc _ _⟩

set_option maxHeartbeats 400000 in
set_option maxHeartbeats 400000 in
theorem walk_3 (a0 a1 a2 K I N Y P Q q : Int) (w : World) (b0 : -9223372036854775808 ≤ a0 ∧ a0 ≤ 9223372036854775807) (b1 : -9223372036854775808 ≤ a1 ∧ a1 ≤ 9223372036854775807) (b2 : -9223372036854775808 ≤ a2 ∧ a2 ≤ 9223372036854775807)
    (hK : within a0 (-1) 536870912 = K) (hI : within a1 0 2 = I) (hN : within a2 0 1048576 = N) (hY : next K I 3 = Y) (hP : patience K 3 = P) (hQ : patience (K + 1) 3 = Q) (hq : quorum 3 = q)
    (k1 : -1 ≤ K) (k2 : K ≤ 536870912) (n1 : 0 ≤ N) (n2 : N ≤ 1048576) (hm : N % 3 = 1)
    (f1 : K < Y) (f2 : Y ≤ K + 3) (f3 : leader Y 3 = I) (f4 : ∀ z, K < z → z < Y → leader z 3 ≠ I) (p1 : 2 ≤ P) (p2 : P ≤ Q) (p3 : Q ≤ 16) (q1 : 3 < 2 * q) (q2 : q ≤ 3) :
    Calls Try.prog 6 #[.int .i64 a0, .int .i64 a1, .int .i64 a2] w fun e w' => e = .returned (.bool true) ∧ Grown w w' := by
  have HK := Lib.hid hK
  have HI := Lib.hid hI
  have HN := Lib.hid hN
  have HY := Lib.hid hY
  have HP := Lib.hid hP
  have HQ := Lib.hid hQ
  have Hq := Lib.hid hq
  have F3 := Lib.hid f3
  have F4 := Lib.hid f4
  clear f3 f4 hK hI hN hY hP hQ hq
  go_enter Try.func6, Try.ntmps6
  go_wp2_with (first | (go_at_call 7; refine (within_any _ _ _ _ (by omega) (by omega) (by omega) (by omega) (by omega)).mono ?_; (first | rw [HK.out] | rw [HI.out] | rw [HN.out]); rintro e w' ⟨rfl, rfl⟩) | (go_at_call 11; refine (next_any _ _ _ _ (by omega)).mono ?_; rw [HY.out]; rintro e w' ⟨rfl, rfl⟩) | (go_at_call 12; refine (leader_any _ _ _).mono ?_; rw [F3.out]; rintro e w' ⟨rfl, rfl⟩))
  go_loop [11] (fun t => ∃ z : Int, K < z ∧ z ≤ Y ∧ t = .int .i64 z) (fun t => (Y - intOf t).toNat)
  case atStart => exact ⟨K + 1, by omega, by omega, rfl⟩
  case round =>
    obtain ⟨z, hz1, hz2, rfl⟩ := hrel
    by_cases hz : z < Y
    · have hne : (leader z 3 == I) = false := by rw [beq_eq_false_iff_ne]; exact F4.out z hz1 hz
      go_wp2_with (go_at_call 12; refine (leader_any _ _ _).mono ?_; rintro e w' ⟨rfl, rfl⟩)
      go_round
      case rel => exact ⟨z + 1, by omega, by omega, rfl⟩
      case measure => simp [intOf]; omega
    · go_wp2_with (first | (go_at_call 13; refine (pat_any _ _ _ (by omega)).mono ?_; (first | rw [HQ.out] | rw [HP.out]); rintro e w' ⟨rfl, rfl⟩) | (go_at_call 8; refine (quorum_any _ _).mono ?_; rw [Hq.out]; rintro e w' ⟨rfl, rfl⟩) | (go_at_call 9; refine (known_any _).mono ?_; rintro e w' ⟨rfl, rfl⟩))
      go_ret
      exact ⟨rfl, (Grown.refl _).alloc _ _⟩

set_option maxHeartbeats 400000 in
set_option maxHeartbeats 400000 in
theorem walk_5 (a0 a1 a2 K I N Y P Q q : Int) (w : World) (b0 : -9223372036854775808 ≤ a0 ∧ a0 ≤ 9223372036854775807) (b1 : -9223372036854775808 ≤ a1 ∧ a1 ≤ 9223372036854775807) (b2 : -9223372036854775808 ≤ a2 ∧ a2 ≤ 9223372036854775807)
    (hK : within a0 (-1) 536870912 = K) (hI : within a1 0 4 = I) (hN : within a2 0 1048576 = N) (hY : next K I 5 = Y) (hP : patience K 5 = P) (hQ : patience (K + 1) 5 = Q) (hq : quorum 5 = q)
    (k1 : -1 ≤ K) (k2 : K ≤ 536870912) (n1 : 0 ≤ N) (n2 : N ≤ 1048576) (hm : N % 3 = 2)
    (f1 : K < Y) (f2 : Y ≤ K + 5) (f3 : leader Y 5 = I) (f4 : ∀ z, K < z → z < Y → leader z 5 ≠ I) (p1 : 2 ≤ P) (p2 : P ≤ Q) (p3 : Q ≤ 16) (q1 : 5 < 2 * q) (q2 : q ≤ 5) :
    Calls Try.prog 6 #[.int .i64 a0, .int .i64 a1, .int .i64 a2] w fun e w' => e = .returned (.bool true) ∧ Grown w w' := by
  have HK := Lib.hid hK
  have HI := Lib.hid hI
  have HN := Lib.hid hN
  have HY := Lib.hid hY
  have HP := Lib.hid hP
  have HQ := Lib.hid hQ
  have Hq := Lib.hid hq
  have F3 := Lib.hid f3
  have F4 := Lib.hid f4
  clear f3 f4 hK hI hN hY hP hQ hq
  go_enter Try.func6, Try.ntmps6
  go_wp2_with (first | (go_at_call 7; refine (within_any _ _ _ _ (by omega) (by omega) (by omega) (by omega) (by omega)).mono ?_; (first | rw [HK.out] | rw [HI.out] | rw [HN.out]); rintro e w' ⟨rfl, rfl⟩) | (go_at_call 11; refine (next_any _ _ _ _ (by omega)).mono ?_; rw [HY.out]; rintro e w' ⟨rfl, rfl⟩) | (go_at_call 12; refine (leader_any _ _ _).mono ?_; rw [F3.out]; rintro e w' ⟨rfl, rfl⟩))
  go_loop [11] (fun t => ∃ z : Int, K < z ∧ z ≤ Y ∧ t = .int .i64 z) (fun t => (Y - intOf t).toNat)
  case atStart => exact ⟨K + 1, by omega, by omega, rfl⟩
  case round =>
    obtain ⟨z, hz1, hz2, rfl⟩ := hrel
    by_cases hz : z < Y
    · have hne : (leader z 5 == I) = false := by rw [beq_eq_false_iff_ne]; exact F4.out z hz1 hz
      go_wp2_with (go_at_call 12; refine (leader_any _ _ _).mono ?_; rintro e w' ⟨rfl, rfl⟩)
      go_round
      case rel => exact ⟨z + 1, by omega, by omega, rfl⟩
      case measure => simp [intOf]; omega
    · go_wp2_with (first | (go_at_call 13; refine (pat_any _ _ _ (by omega)).mono ?_; (first | rw [HQ.out] | rw [HP.out]); rintro e w' ⟨rfl, rfl⟩) | (go_at_call 8; refine (quorum_any _ _).mono ?_; rw [Hq.out]; rintro e w' ⟨rfl, rfl⟩) | (go_at_call 9; refine (known_any _).mono ?_; rintro e w' ⟨rfl, rfl⟩))
      go_ret
      exact ⟨rfl, (Grown.refl _).alloc _ _⟩
/-! ### STEP 1: THE WALK: the Go text returns true. 'Grown w w'': the world has at most new blocks (Derived/RowKit3.lean). Part the cases AHEAD of 'go_enter' where a test parts the walk; take each callee by a contract of your own. -/
set_option maxHeartbeats 400000 in
theorem walk (a0 : Int) (a1 : Int) (a2 : Int) (w0 : (Lit.int .i64 a0).wf = true) (w1 : (Lit.int .i64 a1).wf = true) (w2 : (Lit.int .i64 a2).wf = true) (w : World) :
    Calls Try.prog 6 #[.int .i64 a0, .int .i64 a1, .int .i64 a2] w fun e w' => e = .returned (.bool true) ∧ Grown w w' := by
  have b0 := bounds_i64 w0
  have b1 := bounds_i64 w1
  have b2 := bounds_i64 w2
  obtain ⟨k1, k2⟩ := within_bd a0 (-1) 536870912 (by omega)
  obtain ⟨n1, n2⟩ := within_bd a2 0 1048576 (by omega)
  clear w0 w1 w2
  have hm : within a2 0 1048576 % 3 = 0 ∨ within a2 0 1048576 % 3 = 1 ∨ within a2 0 1048576 % 3 = 2 := by omega
  obtain ⟨i1, i2⟩ := within_bd a1 0 0 (by omega)
  obtain ⟨i3, i4⟩ := within_bd a1 0 2 (by omega)
  obtain ⟨i5, i6⟩ := within_bd a1 0 4 (by omega)
  have o1 : okN 1 := .inl rfl
  have o3 : okN 3 := .inr (.inl rfl)
  have o5 : okN 5 := .inr (.inr rfl)
  rcases hm with hm | hm | hm
  · obtain ⟨f1, f2, f3, f4⟩ := next_facts o1 k1 i1 (by omega)
    obtain ⟨p1, p2, p3⟩ := pat_facts o1 k1
    obtain ⟨q1, q2⟩ := quorum_facts o1
    exact walk_1 a0 a1 a2 _ _ _ _ _ _ _ w b0 b1 b2 rfl rfl rfl rfl rfl rfl rfl k1 k2 n1 n2 hm f1 f2 f3 f4 p1 p2 p3 q1 q2
  · obtain ⟨f1, f2, f3, f4⟩ := next_facts o3 k1 i3 (by omega)
    obtain ⟨p1, p2, p3⟩ := pat_facts o3 k1
    obtain ⟨q1, q2⟩ := quorum_facts o3
    exact walk_3 a0 a1 a2 _ _ _ _ _ _ _ w b0 b1 b2 rfl rfl rfl rfl rfl rfl rfl k1 k2 n1 n2 hm f1 f2 f3 f4 p1 p2 p3 q1 q2
  · obtain ⟨f1, f2, f3, f4⟩ := next_facts o5 k1 i5 (by omega)
    obtain ⟨p1, p2, p3⟩ := pat_facts o5 k1
    obtain ⟨q1, q2⟩ := quorum_facts o5
    exact walk_5 a0 a1 a2 _ _ _ _ _ _ _ w b0 b1 b2 rfl rfl rfl rfl rfl rfl rfl k1 k2 n1 n2 hm f1 f2 f3 f4 p1 p2 p3 q1 q2

/-! ### THE ROW's STEP: WRITTEN OUT: LEAVE IT -/
set_option maxRecDepth 100000 in
theorem lifted (os : Os) (started : os.Started) (H : Type) (enc : TypeId × Value → H) :
    ReturnsInHanded {} Try.checked os 6 .any (Rows.ballotTurnsSpec.pre6 enc Try.prog Try.f6 Rows.ballotTurnsRow.domain false) (Rows.ballotTurnsSpec.post enc Try.prog Try.f6 false true false false) := by
  refine returnsInHanded_of_change (C := Try.checked) own started (by kernel_rfl) Try.func6
    (ChangeSpec.witness6 (enc := enc) (C := Try.checked) false ⟨#[], #[.int .i64 0, .int .i64 0, .int .i64 0], []⟩ 8 (by kernel_rfl) (by kernel_rfl) (by kernel_rfl) (by kernel_rfl)) ?_
  intro W base args ds gs before hval0 hW hcnd _
  have hval : ∀ (j : Nat) t v, Try.f6.params[j]? = some t → args[j]? = some v → Value.okWide Try.prog W .any base t v := hval0
  have hW' := hW
  obtain ⟨p, q, hA0, hV, rfl, hfz, hnd⟩ := hW
  have hA : DataW.TrodAll enc Try.prog W 0 (fun _ => true) true Try.f6.params.toList args.toList ds p := hA0
  rw [Try.params6] at hA hval
  obtain ⟨v0, vs0, d0, ds0, p0, q0, hargs, rfl, rfl, h0, r0⟩ := trodAll_cons hA
  obtain ⟨v1, vs1, d1, ds1, p1, q1, rfl, rfl, rfl, h1, r1⟩ := trodAll_cons r0
  obtain ⟨v2, vs2, d2, ds2, p2, q2, rfl, rfl, rfl, h2, r2⟩ := trodAll_cons r1
  obtain ⟨rfl, rfl, rfl⟩ := trodAll_nil r2
  obtain rfl : args = #[v0, v1, v2] := by cases args; simp_all
  obtain ⟨rfl, rfl⟩ := trodVars_none hV
  obtain ⟨a0, rfl, rfl, rfl, w0⟩ := open_int Try.underlying3 (hval 0 3 v0 rfl rfl) h0
  obtain ⟨a1, rfl, rfl, rfl, w1⟩ := open_int Try.underlying3 (hval 1 3 v1 rfl rfl) h1
  obtain ⟨a2, rfl, rfl, rfl, w2⟩ := open_int Try.underlying3 (hval 2 3 v2 rfl rfl) h2
  clear hA0 hval0
  simp only [List.append_nil] at hW'
  refine (walk a0 a1 a2 w0 w1 w2 W).mono fun e W' ⟨he, hg⟩ => ?_
  subst he
  exact ⟨_, rfl, post_of_same (pa := []) (pv := []) hW' (fun _ _ _ => (trodAll_cons_mk (shut_bool Try.underlying4 _) trodAll_mk0)) (fun sp _ => (trodAll_cons_mk (shut_int Try.underlying3 w0) (trodAll_cons_mk (shut_int Try.underlying3 w1) (trodAll_cons_mk (shut_int Try.underlying3 w2) trodAll_mk0)))) (fun _ _ => rfl) rfl
    (hg.frame _) hg.2.1 (ok_one (by kernel_rfl) rfl (okWide_bool_mk Try.underlying4 _))⟩

theorem over : Rows.ballotTurnsRow.holds Try.pinned (OpenSpec.ofChange Rows.ballotTurnsSpec) :=
  OpenClaim.holds_of_wide 6 Try.f6 rfl rfl rfl rfl rfl rfl rfl ⟨rfl, rfl, rfl, rfl, rfl⟩ rfl rfl rfl rfl rfl (by kernel_rfl) Try.func6 (by kernel_rfl)
    (of_decide_eq_true (by kernel_rfl)) (by unfold Func.isWrapper; first | (rw [if_pos (by decide +kernel)]; kernel_rfl) | (rw [if_neg (by decide +kernel)]; exact ⟨rfl, rfl⟩))
    (fun os started H enc _ => lifted os started H enc)

/-- ████ THE STATEMENT ████ -/
theorem proved : Rows.BallotTurnsSaid :=
  over
#print axioms proved
end Go.Proofs.Ytmfbabpgjdcplaa.ballotTurns
