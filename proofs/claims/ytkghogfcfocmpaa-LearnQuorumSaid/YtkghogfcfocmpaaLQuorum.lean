/- The walk of LearnQuorum: it returns true. -/
import Derived.Test.YtkghogfcfocmpaaLQuo1
import Derived.Test.YtkghogfcfocmpaaLKnown
import Derived.Test.YtkghogfcfocmpaaLFirm
import Derived.Test.YtkghogfcfocmpaaLOpen
import Derived.Test.YtkghogfcfocmpaaLWide
namespace Go.Proofs.Ytkghogfcfocmpaa
open Go.RowKit

def QuoRel (W1 : World) (D FB : Nat) (k s c : Int) (v : List UInt8) (cnt : Value) (i : Nat) (wr : World) : Prop :=
  ∃ S ts ds, LearnF (fun g => g = FB) W1 D k 0 ts ds wr ∧ QInv (k / 2 + 1) s c v S ts ds ∧ SeenAt wr FB S ∧ S.length ≤ i ∧ cnt = .int .i64 S.length
set_option maxRecDepth 100000 in
set_option maxHeartbeats 20000000 in
theorem quorum_all (n slot b : Int) (lv vv : Value) (l : List Int) (v : List UInt8) (w : World) (hn1 : -9223372036854775808 ≤ n) (hn2 : n ≤ 9223372036854775807) (hs1 : -9223372036854775808 ≤ slot) (hs2 : slot ≤ 9223372036854775807) (hb1 : -9223372036854775808 ≤ b) (hb2 : b ≤ 9223372036854775807)
    (h : SliceOf RInt 1 w (fun k => k < w.heap.size) lv l) (hv : BytesAt w (fun k => k < w.heap.size) vv v) : Calls Try.prog 6 #[.int .i64 n, .int .i64 slot, .int .i64 b, lv, vv] w (SameEnd w) := by
  have H := Lib.hid h
  have Hv := Lib.hid hv
  obtain ⟨A, cap, rfl, hc0, hcm, _⟩ := h
  obtain ⟨Av, capv, rfl, hd0, hdm, _⟩ := hv
  have hmax : l.length ≤ 9223372036854775807 := by unfold maxLen at hcm; omega
  have hmaxv : v.length ≤ 9223372036854775807 := by unfold maxLen at hdm; omega
  have hcapv : capv ≤ 9223372036854775807 := by unfold maxLen at hdm; omega
  obtain ⟨r, hr3, hrm⟩ := pick_odd n
  obtain ⟨k, hk, hkc⟩ := odd_cell w r hr3
  have hkr : isRight k = true := by rcases hk with rfl | rfl | rfl <;> rfl
  have hk1 : 1 ≤ k := by omega
  have hk5 : k ≤ 5 := by omega
  have hr0 : (0 : Int) ≤ r := by omega
  have hr3' : (r : Int) < 3 := by omega
  have Hkr := Lib.hid hkr
  have Hk := Lib.hid hk
  obtain ⟨W1, hW1⟩ : ∃ W1, W1 = w.alloc (.cells #[.int .i64 1, .int .i64 3, .int .i64 5] 3) := ⟨_, rfl⟩
  have b1 : Below w.heap.size w W1 := by rw [hW1]; exact (Below.refl _ _).alloc (Nat.le_refl _) _
  rw [← hW1] at hkc
  have L0 := Lib.hid (LearnF.new W1 k)
  have HW1 := Lib.hid hW1
  have B1 := Lib.hid b1
  have Hrm := Lib.hid hrm
  have hbs := within_bd slot 0 31 (by omega)
  have hbc := within_bd b 0 1073741824 (by omega)
  clear hc0 hcm hk hkr hW1 b1 hrm hdm
  go_enter Try.func6, Try.ntmps6
  go_wp2_with fail
  rw [← HW1.out]
  refine (within_any n 0 1048576 _ hn1 hn2 (by omega) (by omega) (by omega)).mono ?_
  rintro e w' ⟨rfl, rfl⟩
  have hrm := Hrm.out
  generalize within n 0 1048576 = rw at *
  go_wp2_with fail
  refine (new_ok k W1 Hkr.out).mono ?_
  rintro e w1 ⟨rfl, hw1⟩
  rw [hw1] at L0
  go_wp2_with fail
  refine (within_any slot 0 31 _ hs1 hs2 (by omega) (by omega) (by omega)).mono ?_
  rintro e w' ⟨rfl, rfl⟩
  generalize within slot 0 31 = s at *
  go_wp2_with fail
  refine (within_wide b 0 1073741824 _ hb1 hb2 (by omega) (by omega) (by omega)).mono ?_
  rintro e w' ⟨rfl, rfl⟩
  generalize within b 0 1073741824 = c at *
  obtain ⟨s0, s31⟩ := hbs
  obtain ⟨c0, c30⟩ := hbc
  go_upto_if 39 with fail
  go_cut [4] from 37 (fun vx wx => wx = w1 ∧ ∃ (u : List UInt8) (cu : Nat), vx = .slice Av u.length cu ∧ u.length ≤ 20 ∧ Hid (BytesAt w (fun k => k < w.heap.size) vx u))
  case first =>
    by_cases hv20 : 20 < v.length
    · have g1 : (20 : Int) < v.length := by omega
      have g2 : 20 ≤ capv := by omega
      have htk := (SliceOf.take Hv.out 20 (by omega)).2
      have Htk := Lib.hid htk
      have hl20 : (v.take 20).length = 20 := by rw [List.length_take]; omega
      have Hl20 := Lib.hid hl20
      clear htk hl20 hv20
      go_wp2_with fail
      go_meet
      exact ⟨rfl, v.take 20, capv, by rw [Hl20.out], by rw [Hl20.out]; exact Nat.le_refl _, Htk⟩
    · have g1 : ¬ (20 : Int) < v.length := by omega
      go_wp2_with fail
      go_meet
      exact ⟨rfl, v, capv, rfl, by omega, Hv⟩
  case rest =>
    obtain ⟨rfl, u, cu, rfl, hu20, Hu⟩ := hcut
    obtain ⟨D, hD⟩ : ∃ D, W1.heap.size = D := ⟨_, rfl⟩
    obtain ⟨FB, hFB⟩ : ∃ FB, wc.heap.size = FB := ⟨_, rfl⟩
    rw [hD] at L0
    rw [hD]
    have hB0 := Blk.new wc 35 #[.bool false, .bool false, .bool false, .bool false, .bool false]
    rw [hFB] at hB0
    have hL := L0.out.more (F' := fun g => g = FB) (w' := wc.alloc (.cells #[.bool false, .bool false, .bool false, .bool false, .bool false] 35)) ((Below.refl _ _).alloc (Nat.le_refl _) _) (fun g hg => .inr (by subst hg; rw [← hFB]; simp))
    have hsF : W1.heap.size ≤ FB := by rw [← hFB]; exact L0.out.sub.size
    have hrel0 : QuoRel W1 D FB k s c u (.int .i64 0) 0 (wc.alloc (.cells #[.bool false, .bool false, .bool false, .bool false, .bool false] 35)) := ⟨[], [], [], hL, .inl ⟨rfl, rfl, rfl⟩, SeenAt.new hB0, Nat.le_refl _, rfl⟩
    have Hrel0 := Lib.hid hrel0
    have hw0F : w.heap.size ≤ FB := by have := B1.out.size; omega
    clear hrel0 hL hB0 hw1 hD
    go_wp2_with fail
    go_loopw [16, 17] (fun cnt i wr => ∃ i' : Nat, i' ≤ l.length ∧ i' ≤ 20 ∧ i = .int .i64 i' ∧ QuoRel W1 D FB k s c u cnt i' wr) (fun _ i _ => 20 - (intOf i).toNat)
    case atStart => exact ⟨0, Nat.zero_le _, by omega, rfl, Hrel0.out⟩
    case round =>
      obtain ⟨i, hi, hi20, rfl, S, ts, ds, hL, hI, hS, hSl, rfl⟩ := hrel
      have HL := Lib.hid hL
      have HI := Lib.hid hI
      have HS := Lib.hid hS
      clear hL hI hS
      have hbb := B1.out.trans (HL.out.sub.mono B1.out.size)
      have Hbb := Lib.hid hbb
      clear hbb
      by_cases hlt : i < l.length ∧ i < 20
      · obtain ⟨hlt, hlt2⟩ := hlt
        have g1 : (i : Int) < l.length := by omega
        have g2 : (i : Int) < 20 := by omega
        have g3 : (0 : Int) ≤ i := by omega
        obtain ⟨x, hx⟩ : ∃ x, l[i]? = some x := ⟨l[i], List.getElem?_eq_getElem (by omega)⟩
        have hsl := SliceOf.below (S' := fun k => k < w.heap.size) RInt.kept H.out Hbb.out (fun k h => h) (fun _ h => h)
        obtain ⟨bl, ol, hA, hbl, cs, ⟨rfl, x1, x2⟩, _, hc⟩ := hsl.at hx
        subst hA
        have hcx : wr.cell? ⟨bl, ol + i, none⟩ = some (.int .i64 x) := by have := hc 0 _ rfl; simpa using this
        have hwk : IntKind.i64.wrap (k - 1) = k - 1 := by rw [IntKind.wrap_i64]; omega
        have hwi := within_any x 0 (k - 1) wr x1 x2 (by omega) (by omega) (by omega)
        have hbf := within_bd x 0 (k - 1) (by omega)
        generalize within x 0 (k - 1) = f at *
        obtain ⟨m, rfl⟩ := Int.eq_ofNat_of_zero_le hbf.1
        have hm5 : m < 5 := by omega
        have m0 : (0 : Int) ≤ m := by omega
        have m5 : (m : Int) < 5 := by omega
        have hsm := HI.out.small (N := 1000000) (by omega) hu20
        have hut := SliceOf.below (S' := fun k => k < w.heap.size) RByte.kept Hu.out Hbb.out (fun k h => h) (fun _ h => h)
        have htk := take_f s c m _ u (fun k => k < w.heap.size) HL.out (Below.refl _ _) Hkr.out (by omega) (by omega) (by unfold InReach; omega) (by omega) (by omega) hsm.2.2.1 (by omega) hut (fun g hg => ⟨.inl (by have := B1.out.size; omega), by have := Hbb.out.size; omega⟩)
        have Hwi := Lib.hid hwi
        have Htk := Lib.hid htk
        clear hwi htk hsl hc hx hsm hut x1 x2
        go_wp2_with fail
        refine Hwi.out.mono ?_
        rintro e w' ⟨rfl, rfl⟩
        go_wp2_with fail
        refine Htk.out.mono ?_
        rintro e w2 ⟨T, hT, rfl, hL2, hF2⟩
        obtain ⟨hok, hI2⟩ := HI.out.step (n := k) m T
        rw [hok]
        have hS2 : SeenAt w2 FB S := HS.out.keep (hF2 FB rfl)
        obtain ⟨cf, cff⟩ := hS2.at m hm5
        have HL2 := Lib.hid hL2
        have HI2 := Lib.hid hI2
        have HS2 := Lib.hid hS2
        clear hT hok hL2 hI2 hF2 hS2
        go_upto_if 70 with fail
        go_cut [16] from 67 to 97 (fun cnt wx => cnt = .int .i64 (putIn S m).length ∧ SeenAt wx FB (putIn S m) ∧ LearnF (fun g => g = FB) W1 D k 0 (Took k ts ds s c m u T).2.1 (Took k ts ds s c m u T).2.2 wx)
        case first =>
          by_cases hin : (m : Int) ∈ S
          · rw [decide_eq_true hin]
            have hp : putIn S m = S := by unfold putIn; rw [if_pos hin]
            have Hp := Lib.hid hp
            clear hp hin
            go_wp2_with fail
            go_meet
            exact ⟨by rw [Hp.out], by rw [Hp.out]; exact HS2.out, HL2.out⟩
          · rw [decide_eq_false hin]
            have hp : putIn S m = S ++ [(m : Int)] := by unfold putIn; rw [if_neg hin]
            have hput := (HS2.out.put m hm5 hin).same (S' := S ++ [(m : Int)]) (by
              obtain ⟨_, _, _, h3, _⟩ := HS2.out
              rw [List.nodup_append]
              exact ⟨h3, by simp, fun a ha b hb e => by simp at hb; subst hb; exact hin (e ▸ ha)⟩) (fun x => by simp [or_comm])
            have hLp := HL2.out.touch (T := fun g => g = FB) (Touch.setCell w2 (p := ⟨FB, m, none⟩) (.bool true) (fun _ => rfl)) (fun g hg => ⟨hg, by subst hg; exact hsF⟩)
            have Hp := Lib.hid hp
            have Hput := Lib.hid hput
            have HLp := Lib.hid hLp
            clear hp hin hput hLp
            go_wp2_with fail
            go_meet
            exact ⟨by rw [Hp.out, List.length_append]; rfl, by rw [Hp.out]; exact Hput.out, HLp.out⟩
        case rest =>
          obtain ⟨rfl, hS3, hL3⟩ := hcut
          have hpl := putIn_len S m
          generalize putIn S m = S3 at *
          generalize (Took k ts ds s c m u T).2.1 = ts3 at *
          generalize (Took k ts ds s c m u T).2.2 = ds3 at *
          have hI3 := HI2.out
          have hsm := hI3.small (N := 1000000) (by omega) hu20
          have hval := hI3.value (by omega)
          have hdec := decided_f s hL3 (by omega) hsm.2.2.2.1
          rw [hval] at hdec
          have hkd : k.tdiv 2 = k / 2 := Int.tdiv_eq_ediv_of_nonneg (by omega)
          have hS7 : S3.length ≤ i + 1 := by omega
          have HI3 := Lib.hid hI3
          have HS3 := Lib.hid hS3
          have HL3 := Lib.hid hL3
          have Hut : Hid (BytesAt wc (fun k => k < w.heap.size) (.slice Av u.length cu) u) := Lib.hid (SliceOf.below (S' := fun k => k < w.heap.size) RByte.kept Hu.out (B1.out.trans (hL3.sub.mono B1.out.size)) (fun k h => h) (fun _ h => h))
          clear HI2 HL2 HS2 hI3 hS3 hL3 hsm hval hpl cf cff HL HI HS
          by_cases hq : k / 2 + 1 ≤ (S3.length : Int)
          · rw [if_pos hq] at hdec
            have e5 : decide (k / 2 + 1 ≤ (S3.length : Int)) = true := decide_eq_true hq
            have Hdec := Lib.hid hdec
            clear hdec
            go_wp2_with fail
            refine Hdec.out.mono ?_
            rintro e w4 ⟨A4, c4, rfl, ho4, hb4⟩
            have hx4 := Owns.slice (S' := fun g => g < w4.heap.size) RByte.kept (owns_bytes (S := fun _ => False) ho4) (fun _ g => g.elim) (fun _ e => (ho4.lt _ e).2)
            have kx4 : (convert 32 9 (.slice A4 u.length c4)).run Try.prog w4 = .ok (.string ⟨List.toArray u⟩) w4 := conv_bytes hx4 Try.underlying32 Try.underlying5 Try.underlying9 (fun _ _ => rfl)
            have hu4 := SliceOf.below (S' := fun k => k < w.heap.size) RByte.kept Hut.out hb4 (fun k hk => by have h1 := B1.out.size; have h2 := HL3.out.sub.size; omega) (fun _ h => h)
            have ku4 : (convert 32 9 (.slice Av u.length cu)).run Try.prog w4 = .ok (.string ⟨List.toArray u⟩) w4 := conv_bytes hu4 Try.underlying32 Try.underlying5 Try.underlying9 (fun _ _ => rfl)
            have hL4 := HL3.out.below hb4
            have hS4 := HS3.out.keep (w' := w4) (hb4.block FB (by obtain ⟨_, h1, _⟩ := HS3.out; exact h1.lt))
            have HL4 := Lib.hid hL4
            have HS4 := Lib.hid hS4
            clear ho4 hb4 hx4 hu4 hL4 hS4 hq
            go_wp2_with fail
            go_roundw
            case rel => exact ⟨i + 1, by omega, by omega, by go_num, S3, ts3, ds3, HL4.out, HI3.out, HS4.out, by omega, rfl⟩
            case measure => simp [intOf]; omega
          · rw [if_neg hq] at hdec
            have e5 : decide (k / 2 + 1 ≤ (S3.length : Int)) = false := decide_eq_false hq
            have Hdec := Lib.hid hdec
            clear hdec hq
            go_wp2_with fail
            refine Hdec.out.mono ?_
            rintro e w4 ⟨rfl, rfl⟩
            go_wp2_with fail
            go_roundw
            case rel => exact ⟨i + 1, by omega, by omega, by go_num, S3, ts3, ds3, HL3.out, HI3.out, HS3.out, by omega, rfl⟩
            case measure => simp [intOf]; omega
      · have hsm := HI.out.small (N := 1000000) (by omega) hu20
        have hfg := forget_f (s + 1) HL.out (by omega) (by omega) (by omega) (by omega)
        rw [hsm.2.2.2.2.1, hsm.2.2.2.2.2] at hfg
        have Hfg := Lib.hid hfg
        have g0 : ((i : Int) < l.length ∧ ¬ (i : Int) < 20) ∨ ¬ (i : Int) < l.length := by omega
        clear hfg hsm hlt
        rcases g0 with ⟨g1, g2⟩ | g1
        all_goals
          go_wp2_with fail
          refine Hfg.out.mono ?_
          rintro e w5 ⟨rfl, hL5, -⟩
          have hdec := decided_f s hL5 (by simp) (by simp)
          have hv0 : valueOf [] [] s = none := rfl
          rw [hv0] at hdec
          have htk := take_not_f s c 0 (.slice Av u.length cu) hL5 (by omega) (by omega) (by unfold InReach; omega)
          have HL5 := Lib.hid hL5
          have Hdec := Lib.hid hdec
          have Htk := Lib.hid htk
          clear hL5 hdec htk
          go_wp2_with fail
          refine Hdec.out.mono ?_
          rintro e w' ⟨rfl, rfl⟩
          go_wp2_with fail
          refine Htk.out.mono ?_
          rintro e w6 ⟨rfl, hb6⟩
          have hL6 := HL5.out.below hb6
          have hln := len_f hL6 (by simp)
          have HL6 := Lib.hid hL6
          have Hln := Lib.hid hln
          clear hL6 hln hb6
          go_wp2_with fail
          refine Hln.out.mono ?_
          rintro e w7 ⟨rfl, hb7⟩
          have hL7 := HL6.out.below hb7
          have hlo := low_f hL7
          have HL7 := Lib.hid hL7
          have Hlo := Lib.hid hlo
          clear hL7 hlo hb7
          have hse : ((several ((([] : List TallyT).map fun t => t.slot))).length : Int) = 0 := rfl
          rw [hse]
          go_wp2_with fail
          refine Hlo.out.mono ?_
          rintro e w' ⟨rfl, rfl⟩
          go_wp2_with fail
          refine (known_any _).mono ?_
          rintro e w8 ⟨rfl, hb8⟩
          have hfin := (B1.out.trans (HL7.out.sub.mono B1.out.size))
          have Hfin := Lib.hid (hfin.trans (hb8.mono hfin.size))
          clear hb8 hfin
          go_wp2_with fail
          go_ret
          exact ⟨rfl, Hfin.out⟩
end Go.Proofs.Ytkghogfcfocmpaa
