/- The contract of same: the learner and the reference tell the same. -/
import Derived.Test.YtkghogfcfocmpaaLLaw2
import Derived.Test.YtkghogfcfocmpaaLRTake2
import Derived.Test.YtkghogfcfocmpaaLQuo1
import Derived.Deep.RegionWith
import Derived.Deep.CutRange
namespace Go.Proofs.Ytkghogfcfocmpaa
open Go.RowKit

theorem conv_none (W : World) : (convert 32 9 (.slice none 0 0)).run Try.prog W = .ok (.string ⟨List.toArray []⟩) W := conv_bytes (SliceOf.nil RByte 1 W fun _ => False) Try.underlying32 Try.underlying5 Try.underlying9 (fun _ _ => rfl)
set_option maxRecDepth 100000 in
set_option maxHeartbeats 8000000 in
theorem same_any {F : Nat → Prop} {w0 w : World} {base : Nat} {S : Nat → Prop} {D M : Nat} {n low : Int} {ts : List TallyT} {ds : List Nat} {L : List TakeT} {Ds : List DoneT} {lv dv : Value} (hL : LearnF F w0 D n low ts ds w) (hR : RefAt w base S M n low L Ds lv dv) (hJ : Joint n low ts ds L Ds) (h0 : 0 ≤ low) (h1 : low ≤ 1073741824)
    (l1 : ts.length ≤ 1000000) (l2 : ds.length ≤ 1000000) (l3 : ∀ t ∈ ts, t.v.length ≤ 1000000000) (l4 : L.length ≤ 1000000) (l5 : Ds.length ≤ 1000000) :
    Calls Try.prog 24 #[.pointer (some ⟨D, 0, none⟩), .pointer (some ⟨M, 0, none⟩)] w (SameEnd w) := by
  have k1 : w.cell? ⟨M, 1, none⟩ = some (.int .i64 low) := hR.blk.cell 1
  have hlow : ∀ w', Below w.heap.size w w' → Calls Try.prog 15 #[.pointer (some ⟨D, 0, none⟩)] w' fun e w'' => e = .returned (.int .i64 low) ∧ w'' = w' := fun w' hb => low_f (hL.below hb)
  have hjl := hJ.len
  have hlen : ∀ w', Below w.heap.size w w' → Calls Try.prog 14 #[.pointer (some ⟨D, 0, none⟩)] w' fun e w'' => e = .returned (.int .i64 (slotsOf L low 32)) ∧ Below w.heap.size w w'' := fun w' hb => (len_f (hL.below hb) l1).mono (fun e w'' ⟨q1, q2⟩ => ⟨by rw [q1, hjl], hb.trans (q2.mono hb.size)⟩)
  have hrl : ∀ w', Below w.heap.size w w' → Calls Try.prog 29 #[.pointer (some ⟨M, 0, none⟩)] w' fun e w'' => e = .returned (.int .i64 (slotsOf L low 32)) ∧ w'' = w' := fun w' hb => rlen_any (hR.below hb) (by omega) h0 h1
  have hM1 : ∀ w', Below w.heap.size w w' → w'.cell? ⟨M, 1, none⟩ = some (.int .i64 low) := fun w' hb => (hR.below hb).blk.cell 1
  have HL := Lib.hid hL
  have HR := Lib.hid hR
  have HJ := Lib.hid hJ
  have Hlow := Lib.hid hlow
  have Hlen := Lib.hid hlen
  have Hrl := Lib.hid hrl
  have HM1 := Lib.hid hM1
  have L3 := Lib.hid l3
  clear hL hR hJ hlow hlen hrl hjl l3
  have kd : w.drew.cell? ⟨M, 1, none⟩ = some (.int .i64 low) := k1
  clear hM1
  go_enter Try.func24, Try.ntmps24
  go_upto_region 1 with fail
  go_cut [23] from 10 (fun c wx => c = .bool false ∧ Below w.heap.size w wx)
  case first =>
    go_region_with (first
      | (go_at_call 15; refine (Hlow.out _ (Below.drew (Below.refl _ _))).mono ?_; rintro e w' ⟨rfl, rfl⟩)
      | (go_at_call 14; refine (Hlen.out _ (Below.drew (Below.refl _ _))).mono ?_; rintro e w5 ⟨rfl, hb5⟩; have Hb5 := Lib.hid hb5; clear hb5)
      | (go_at_call 29; refine (Hrl.out _ Hb5.out).mono ?_; rintro e w' ⟨rfl, rfl⟩))
    all_goals
      go_wp2_with fail
      go_meet
      exact ⟨rfl, Hb5.out⟩
  case rest =>
    obtain ⟨rfl, hbc⟩ := hcut
    have kc := (HR.out.below hbc).blk.cell 1
    simp only [List.getElem?_toArray, List.getElem?_cons_succ, List.getElem?_cons_zero] at kc
    have Hbc := Lib.hid hbc
    clear hbc kd
    go_wp2_with fail
    go_loopw [5] (fun sv wr => ∃ j : Nat, j ≤ 34 ∧ sv = .int .i64 (low - 1 + j) ∧ Below w.heap.size w wr) (fun sv _ => (low + 33 - intOf sv).toNat)
    case atStart => exact ⟨0, by omega, by simp, Hbc.out⟩
    case round =>
      obtain ⟨j, hj, rfl, hb⟩ := hrel
      have kr := (HR.out.below hb).blk.cell 1
      simp only [List.getElem?_toArray, List.getElem?_cons_succ, List.getElem?_cons_zero] at kr
      have Hb := Lib.hid hb
      obtain ⟨s, hs⟩ : ∃ s, low - 1 + (j : Int) = s := ⟨_, rfl⟩
      rw [hs]
      have hs1 : -1 ≤ s := by omega
      have hs2 : s ≤ 1073741857 := by omega
      by_cases hlt : j < 34
      · have g1 : s < low + 33 := by omega
        have hdec := decided_f s (HL.out.below hb) (by omega) L3.out
        rw [HJ.out.same] at hdec
        have Hdec := Lib.hid hdec
        have Hs := Lib.hid hs
        clear hdec hb hs
        cases hd : doneAt Ds s with
        | none =>
          rw [hd] at Hdec
          have knil := conv_none
          go_wp2_with fail
          refine Hdec.out.mono ?_
          rintro e w' ⟨rfl, rfl⟩
          have hrd := rdec_any s (HR.out.below Hb.out) (by omega)
          rw [hd] at hrd
          have Hrd := Lib.hid hrd
          clear hrd hd
          go_wp2_with fail
          refine Hrd.out.mono ?_
          rintro e w' ⟨rfl, rfl⟩
          go_wp2_with fail
          go_roundw
          case rel => exact ⟨j + 1, by omega, by have := Hs.out; go_num, Hb.out⟩
          case measure => simp [intOf]; omega
        | some y =>
          rw [hd] at Hdec
          go_wp2_with fail
          refine Hdec.out.mono ?_
          rintro e w4 ⟨A4, c4, rfl, ho4, hb4⟩
          have hb5 : Below w.heap.size w w4 := Hb.out.trans (hb4.mono Hb.out.size)
          have hx4 := Owns.slice (S' := fun g => g < w4.heap.size) RByte.kept (owns_bytes (S := fun _ => False) ho4) (fun _ g => g.elim) (fun _ e => (ho4.lt _ e).2)
          have kx4 : (convert 32 9 (.slice A4 y.length c4)).run Try.prog w4 = .ok (.string ⟨List.toArray y⟩) w4 := conv_bytes hx4 Try.underlying32 Try.underlying5 Try.underlying9 (fun _ _ => rfl)
          have k4 := (HR.out.below hb5).blk.cell 1
          simp only [List.getElem?_toArray, List.getElem?_cons_succ, List.getElem?_cons_zero] at k4
          have hrd := rdec_any s (HR.out.below hb5) (by omega)
          rw [hd] at hrd
          have Hrd := Lib.hid hrd
          have Hb5 := Lib.hid hb5
          clear ho4 hb4 hx4 hrd hb5 hd
          go_wp2_with fail
          refine Hrd.out.mono ?_
          rintro e w' ⟨A6, c6, rfl, hx6, rfl⟩
          have kx6 : (convert 32 9 (.slice A6 y.length c6)).run Try.prog w4 = .ok (.string ⟨List.toArray y⟩) w4 := conv_bytes hx6 Try.underlying32 Try.underlying5 Try.underlying9 (fun _ _ => rfl)
          clear hx6
          go_wp2_with fail
          go_roundw
          case rel => exact ⟨j + 1, by omega, by have := Hs.out; go_num, Hb5.out⟩
          case measure => simp [intOf]; omega
      · have g1 : ¬ s < low + 33 := by omega
        clear hb hs
        go_wp2_with fail
        go_ret
        exact ⟨rfl, Hb.out⟩
end Go.Proofs.Ytkghogfcfocmpaa
