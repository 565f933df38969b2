/- The contract of do: a call at both, told the same. -/
import Derived.Test.YtkghogfcfocmpaaLDo1
namespace Go.Proofs.Ytkghogfcfocmpaa
open Go.RowKit

def askV (x : LAskT) : Array Value := #[.int .i64 x.kind, .int .i64 x.slot, .int .i64 x.ballot, .int .i64 x.frm, .int .i64 x.v, .bool x.raw]
def DoEnd (w0 : World) (D M : Nat) (n : Int) (N : Nat) (e : Ending) (w' : World) : Prop := e = .returned (.bool true) ∧ TwoAny w0 D M n (N + 1) w'
set_option maxRecDepth 100000 in
set_option maxHeartbeats 20000000 in
theorem do_any {w0 w : World} {D M N : Nat} {n : Int} (x : LAskT) (h : TwoAny w0 D M n N w) (hr : isRight n = true) (hN : N ≤ 100000) (hx1 : I64 x.slot) (hx2 : I64 x.ballot) (hx3 : I64 x.frm) (hx4 : I64 x.v) :
    Calls Try.prog 12 #[.pointer (some ⟨D, 0, none⟩), .pointer (some ⟨M, 0, none⟩), .agg (askV x)] w (DoEnd w0 D M n N) := by
  obtain ⟨low, ts, ds, L, Ds, S, lv, dv, h⟩ := h
  obtain ⟨kind, slot, ballot, frm, xv, raw⟩ := x
  obtain ⟨i11, i12⟩ := hx1
  obtain ⟨i21, i22⟩ := hx2
  obtain ⟨i31, i32⟩ := hx3
  obtain ⟨i41, i42⟩ := hx4
  simp only at i11 i12 i21 i22 i31 i32 i41 i42
  have hn5 : 1 ≤ n ∧ n ≤ 5 := by unfold isRight at hr; have := of_decide_eq_true hr; omega
  obtain ⟨hn1, hn5⟩ := hn5
  obtain ⟨W0, hW0⟩ : ∃ W0, W0 = w.alloc (.cells (askV ⟨kind, slot, ballot, frm, xv, raw⟩) 30) := ⟨_, rfl⟩
  have hB0 : Blk W0 w.heap.size 30 (askV ⟨kind, slot, ballot, frm, xv, raw⟩) := by rw [hW0]; exact Blk.new w _ _
  have b0 : Below w.heap.size w W0 := by rw [hW0]; exact (Below.refl _ _).alloc (Nat.le_refl _) _
  have h0 := h.below b0
  have q0 : W0.cell? ⟨w.heap.size, 0, none⟩ = some (.int .i64 kind) := hB0.cell 0
  have q1 : W0.cell? ⟨w.heap.size, 1, none⟩ = some (.int .i64 slot) := hB0.cell 1
  have q2 : W0.cell? ⟨w.heap.size, 2, none⟩ = some (.int .i64 ballot) := hB0.cell 2
  have q3 : W0.cell? ⟨w.heap.size, 3, none⟩ = some (.int .i64 frm) := hB0.cell 3
  have q4 : W0.cell? ⟨w.heap.size, 4, none⟩ = some (.int .i64 xv) := hB0.cell 4
  have q5 : W0.cell? ⟨w.heap.size, 5, none⟩ = some (.bool raw) := hB0.cell 5
  have m0 : W0.cell? ⟨M, 0, none⟩ = some (.int .i64 n) := h0.ref.blk.cell 0
  have m1 : W0.cell? ⟨M, 1, none⟩ = some (.int .i64 low) := h0.ref.blk.cell 1
  have bl0 := h0.low0
  have bl1 := h0.low1
  have hqw : ∀ (a lo hi y : Int), (a = slot ∧ lo = -1 ∧ hi = 33 ∧ y = within slot (-1) 33) ∨ (a = ballot ∧ lo = -1 ∧ hi = 3 ∧ y = within ballot (-1) 3) ∨ (a = frm ∧ lo = -1 ∧ hi = n ∧ y = within frm (-1) n) → ∀ W, Calls Try.prog 7 #[.int .i64 a, .int .i64 lo, .int .i64 hi] W fun e w' => e = .returned (.int .i64 y) ∧ w' = W := by
    rintro a lo hi y (⟨rfl, rfl, rfl, rfl⟩ | ⟨rfl, rfl, rfl, rfl⟩ | ⟨rfl, rfl, rfl, rfl⟩)
    · exact fun W => (within_any _ (-1) 33 W i11 i12 (by omega) (by omega) (by omega)).mono (fun e w' ⟨h1, h2⟩ => ⟨h1, h2.symm⟩)
    · exact fun W => (within_any _ (-1) 3 W i21 i22 (by omega) (by omega) (by omega)).mono (fun e w' ⟨h1, h2⟩ => ⟨h1, h2.symm⟩)
    · exact fun W => (within_any _ (-1) _ W i31 i32 (by omega) (by omega) (by omega)).mono (fun e w' ⟨h1, h2⟩ => ⟨h1, h2.symm⟩)
  have e1 := within_bd slot (-1) 33 (by omega)
  have e2 := within_bd ballot (-1) 3 (by omega)
  have e3 := within_bd frm (-1) n (by omega)
  generalize within slot (-1) 33 = ws at *
  generalize within ballot (-1) 3 = wb at *
  generalize within frm (-1) n = wf at *
  obtain ⟨e11, e12⟩ := e1
  obtain ⟨e21, e22⟩ := e2
  obtain ⟨e31, e32⟩ := e3
  have HW0 := Lib.hid hW0
  have H0 := Lib.hid h0
  have Hr := Lib.hid hr
  have Hqw := Lib.hid hqw
  have hzM : M < W0.heap.size := h0.ref.blk.lt
  clear h hB0 b0 h0 hr hqw hW0
  go_enter Try.func12, Try.ntmps12
  go_wp2_with fail
  rw [← HW0.out]
  go_quiet (fail)
  obtain ⟨WA, hWA⟩ : ∃ WA, WA = W0.drewN nq := ⟨_, rfl⟩
  rw [← hWA]
  have hA := H0.out.below (w' := WA) (by rw [hWA]; exact below_drewN (Below.refl _ _) _)
  have hzA : M < WA.heap.size := hA.ref.blk.lt
  have r0 : WA.cell? ⟨w.heap.size, 0, none⟩ = some (.int .i64 kind) := by rw [hWA]; exact q0
  have r4 : WA.cell? ⟨w.heap.size, 4, none⟩ = some (.int .i64 xv) := by rw [hWA]; exact q4
  have r5 : WA.cell? ⟨w.heap.size, 5, none⟩ = some (.bool raw) := by rw [hWA]; exact q5
  have n0 : WA.cell? ⟨M, 0, none⟩ = some (.int .i64 n) := by rw [hWA]; exact m0
  have n1 : WA.cell? ⟨M, 1, none⟩ = some (.int .i64 low) := by rw [hWA]; exact m1
  have HA := Lib.hid hA
  clear q0 q1 q2 q3 q4 q5 m0 m1 hWA hA H0 hzM
  go_upto_if 19 with fail
  go_cut [7, 8, 9] from 17 (fun a b c wx => ∃ s bb f q, a = .int .i64 s ∧ b = .int .i64 bb ∧ c = .int .i64 f ∧ I64 s ∧ I64 bb ∧ I64 f ∧ wx = WA.drewN q)
  case first =>
    cases raw with
    | true =>
      go_wp2_with fail
      go_meet
      exact ⟨slot, ballot, frm, 0, rfl, rfl, rfl, ⟨i11, i12⟩, ⟨i21, i22⟩, ⟨i31, i32⟩, rfl⟩
    | false =>
      go_wp2_with fail
      go_quiet (exact Calls.quiet_of_same (Hqw.out _ _ _ _ (by first | exact .inl ⟨rfl, rfl, rfl, rfl⟩ | exact .inr (.inl ⟨rfl, rfl, rfl, rfl⟩) | exact .inr (.inr ⟨rfl, rfl, rfl, rfl⟩)) _))
      go_wp2_with fail
      go_meet
      exact ⟨low + ws, wb, wf, _, rfl, rfl, rfl, ⟨by omega, by omega⟩, ⟨by omega, by omega⟩, ⟨by omega, by omega⟩, rfl⟩
  case rest =>
    obtain ⟨s, b, f, q, rfl, rfl, rfl, ⟨s1, s2⟩, ⟨b1, b2⟩, ⟨f1, f2⟩, hwc⟩ := hcut
    have hB := HA.out.below (w' := wc) (by rw [hwc]; exact below_drewN (Below.refl _ _) _)
    have r0' : wc.cell? ⟨w.heap.size, 0, none⟩ = some (.int .i64 kind) := by rw [hwc]; exact r0
    have r4' : wc.cell? ⟨w.heap.size, 4, none⟩ = some (.int .i64 xv) := by rw [hwc]; exact r4
    have z1 := hB.z1
    have z2 := hB.z2
    have z5 := hB.z5
    have z6 := hB.z6
    have z3 : ∀ (t : TallyT), t ∈ ts → t.src.length ≤ 1000000 := fun t ht => by have := hB.z3 t ht; omega
    have hbase := hB.lrn.sub.size
    have HB := Lib.hid hB
    have Z3 := Lib.hid z3
    clear hwc r0 r4 r5 n0 n1 hB z3 HA hzA
    by_cases hk : kind = 1
    · have ek : (kind == 1) = true := by rw [beq_iff_eq]; exact hk
      clear hk
      by_cases hf : low < s ∧ s ≤ 1073741824
      · have hfg := forget_f s HB.out.lrn hf.1 hf.2 (by omega) (by omega)
        have Hfg := Lib.hid hfg
        have Hf := Lib.hid hf
        clear hfg hf
        go_wp2_with fail
        refine Hfg.out.mono ?_
        rintro e w1 ⟨rfl, hL1, hF1⟩
        have hR1 := HB.out.ref.keep (fun k hk => hF1 k hk)
        have hrf := rforget_in s hR1 hL1.sub.size Hf.out.1 Hf.out.2 (by omega) (by omega)
        have HL1 := Lib.hid hL1
        have Hrf := Lib.hid hrf
        clear hL1 hF1 hR1 hrf
        go_wp2_with fail
        refine Hrf.out.mono ?_
        rintro e w2 ⟨rfl, lv', dv', hR2, hT2⟩
        have hTwo := HB.out.forget Hf.out.1 Hf.out.2 HL1.out hR2 hT2
        have hsame := hTwo.same (by omega)
        have HTwo := Lib.hid hTwo
        have Hsame := Lib.hid hsame
        clear hTwo hsame hR2 hT2
        go_wp2_with fail
        refine Hsame.out.mono ?_
        rintro e w3 ⟨rfl, hb3⟩
        have hend := (HTwo.out.below hb3).more (Nat.le_succ N)
        have Hend : Hid (TwoAny w0 D M n (N + 1) w3) := Lib.hid ⟨_, _, _, _, _, _, _, _, hend⟩
        clear hb3 hend
        go_wp2_with fail
        go_ret
        exact ⟨rfl, Hend.out⟩
      · have hfg := forget_not_f s HB.out.lrn hf
        have Hfg := Lib.hid hfg
        have Hf := Lib.hid hf
        clear hfg hf
        go_wp2_with fail
        refine Hfg.out.mono ?_
        rintro e w1 ⟨rfl, hb1⟩
        have hTwo := HB.out.below hb1
        have hrf := rforget_out s hTwo.ref Hf.out
        have hsame := hTwo.same (by omega)
        have HTwo := Lib.hid hTwo
        have Hrf := Lib.hid hrf
        have Hsame := Lib.hid hsame
        clear hb1 hTwo hrf hsame
        go_wp2_with fail
        refine Hrf.out.mono ?_
        rintro e w' ⟨rfl, rfl⟩
        go_wp2_with fail
        refine Hsame.out.mono ?_
        rintro e w3 ⟨rfl, hb3⟩
        have hend := (HTwo.out.below hb3).more (Nat.le_succ N)
        have Hend : Hid (TwoAny w0 D M n (N + 1) w3) := Lib.hid ⟨_, _, _, _, _, _, _, _, hend⟩
        clear hb3 hend
        go_wp2_with fail
        go_ret
        exact ⟨rfl, Hend.out⟩
    · have ek : (kind == 1) = false := by rw [beq_eq_false_iff_ne]; exact hk
      clear hk
      have hwv := within_any xv 0 1048576 wc i41 i42 (by omega) (by omega) (by omega)
      have hbv := within_bd xv 0 1048576 (by omega)
      generalize within xv 0 1048576 = y at *
      obtain ⟨y0, y1⟩ := hbv
      obtain ⟨t5, ht5⟩ : ∃ t5, y.tmod 5 = t5 := ⟨_, rfl⟩
      have ht5' : 0 ≤ t5 ∧ t5 ≤ 4 := by
        have h1 : y.tmod 5 = y % 5 := Int.tmod_eq_emod_of_nonneg y0
        omega
      obtain ⟨t50, t54⟩ := ht5'
      obtain ⟨d, hd⟩ : ∃ d, t5.tdiv 4 = d := ⟨_, rfl⟩
      have hd' : 0 ≤ d ∧ d ≤ 1 := by
        have h1 : t5.tdiv 4 = t5 / 4 := Int.tdiv_eq_ediv_of_nonneg t50
        omega
      obtain ⟨d0, d1⟩ := hd'
      have hd8 : IntKind.u8.wrap d = d := by rw [IntKind.wrap_u8]; omega
      obtain ⟨c8, hc8⟩ : ∃ c8, IntKind.u8.wrap b = c8 := ⟨_, rfl⟩
      have hc8' : 0 ≤ c8 ∧ c8 ≤ 255 := by rw [← hc8, IntKind.wrap_u8]; omega
      obtain ⟨c80, c81⟩ := hc8'
      obtain ⟨vb, hvb⟩ : ∃ vb, vb = [UInt8.ofNat c8.toNat, UInt8.ofNat d.toNat] := ⟨_, rfl⟩
      have hlit := bytes_lit wc #[.int .u8 c8, .int .u8 d] vb (0, 0) (by rw [hvb]; simp [byteV]; omega) (by rw [hvb]; simp)
      have hvl : vb.length = 2 := by rw [hvb]; rfl
      rw [hvl] at hlit
      obtain ⟨W3, hW3⟩ : ∃ W3, W3 = wc.alloc (.cells #[.int .u8 c8, .int .u8 d] 5) := ⟨_, rfl⟩
      have hb3 : Below wc.heap.size wc W3 := by rw [hW3]; exact (Below.refl _ _).alloc (Nat.le_refl _) _
      rw [← hW3] at hlit
      have h3 := HB.out.below hb3
      have hz3 : W3.heap.size = wc.heap.size + 1 := by rw [hW3]; simp
      have hL3 := HB.out.lrn.more (F' := fun k => (k = M ∨ S k) ∨ k = wc.heap.size) hb3 (fun k hk => by
        rcases hk with hk | hk
        · exact .inl hk
        · exact .inr (by omega))
      have hMw : M < wc.heap.size := HB.out.ref.blk.lt
      have HW3 := Lib.hid hW3
      have H3 := Lib.hid h3
      have HL3 := Lib.hid hL3
      have Hlit := Lib.hid hlit
      have Hwv := Lib.hid hwv
      have Hz3 := Lib.hid hz3
      have Hb3 := Lib.hid hb3
      clear hwv hvb hlit hW3 hb3 h3 hL3 hz3
      by_cases hin : InReach n low s b f
      · have htk := take_g s b f (.slice (some ⟨wc.heap.size, 0, none⟩) 2 2) vb (fun k => k = wc.heap.size) HL3.out Hr.out bl0 bl1 hin (by omega) (by omega) Z3.out (by omega) Hlit.out (fun k hk => .inr hk)
        have Htk := Lib.hid htk
        have Hin := Lib.hid hin
        clear htk hin
        go_wp2_with fail
        refine Hwv.out.mono ?_
        rintro e w' ⟨rfl, rfl⟩
        go_wp2_with fail
        rw [← HW3.out]
        refine Htk.out.mono ?_
        rintro e w4 ⟨T, hT, rfl, hL4, hF4⟩
        have hR4 := H3.out.ref.keep (fun k hk => hF4 k (.inl hk))
        have hv4 := SliceOf.keep (S' := fun k => k = wc.heap.size) RByte.kept Hlit.out (fun k hk => hF4 k (.inr hk)) (fun _ e => e)
        have hz4 : wc.heap.size < w4.heap.size := by
          have h1 := hF4 wc.heap.size (.inr rfl)
          rw [Array.getElem?_eq_getElem (xs := W3.heap) (by have := Hz3.out; omega)] at h1
          exact (Array.getElem?_eq_some_iff.1 h1).1
        have hrt := rtake_in s b f (.slice (some ⟨wc.heap.size, 0, none⟩) 2 2) vb (fun k => k = wc.heap.size) hR4 hL4.sub.size (by omega) (by omega) bl0 bl1 Hin.out (by omega) (by omega) (by omega) hv4 (fun k hk => ⟨by omega, by omega⟩)
        have hend := fun w5 lv' dv' => @Two.take w0 W3 w4 w5 D M wc.heap.size n low s b f vb T ts ds L Ds N S lv dv lv' dv' H3.out Hin.out (by omega) hT hL4
        have Hrt := Lib.hid hrt
        have Hend := Lib.hid hend
        clear hT hL4 hF4 hR4 hv4 hz4 hrt hend
        go_wp2_with fail
        refine Hrt.out.mono ?_
        rintro e w5 ⟨rfl, lv', dv', hR5, hT5⟩
        obtain ⟨hbool, hTwo⟩ := Hend.out w5 lv' dv' hR5 hT5
        rw [hbool]
        generalize (RTook n L Ds s b f vb).1 = tb at *
        have hsame := hTwo.same (by omega)
        have HTwo := Lib.hid hTwo
        have Hsame := Lib.hid hsame
        clear hR5 hT5 hTwo hsame hbool Hend Hrt Htk
        have htb : (tb == tb) = true := by simp
        go_wp2_with fail
        refine Hsame.out.mono ?_
        rintro e w6 ⟨rfl, hb6⟩
        have hfin := HTwo.out.below hb6
        have Hfin : Hid (TwoAny w0 D M n (N + 1) w6) := Lib.hid ⟨_, _, _, _, _, _, _, _, hfin⟩
        clear hb6 hfin
        go_wp2_with fail
        go_ret
        exact ⟨rfl, Hfin.out⟩
      · have htk := take_not_f s b f (.slice (some ⟨wc.heap.size, 0, none⟩) 2 2) H3.out.lrn bl0 bl1 hin
        have Htk := Lib.hid htk
        have Hin := Lib.hid hin
        clear htk hin
        go_wp2_with fail
        refine Hwv.out.mono ?_
        rintro e w' ⟨rfl, rfl⟩
        go_wp2_with fail
        rw [← HW3.out]
        refine Htk.out.mono ?_
        rintro e w4 ⟨rfl, hb4⟩
        have hTwo := H3.out.below hb4
        have hrt := rtake_out s b f (.slice (some ⟨wc.heap.size, 0, none⟩) 2 2) hTwo.ref bl0 bl1 Hin.out
        have hsame := hTwo.same (by omega)
        have Hrt := Lib.hid hrt
        have HTwo := Lib.hid hTwo
        have Hsame := Lib.hid hsame
        clear hb4 hTwo hrt hsame
        go_wp2_with fail
        refine Hrt.out.mono ?_
        rintro e w' ⟨rfl, rfl⟩
        go_wp2_with fail
        refine Hsame.out.mono ?_
        rintro e w6 ⟨rfl, hb6⟩
        have hfin := (HTwo.out.below hb6).more (Nat.le_succ N)
        have Hfin : Hid (TwoAny w0 D M n (N + 1) w6) := Lib.hid ⟨_, _, _, _, _, _, _, _, hfin⟩
        clear hb6 hfin
        go_wp2_with fail
        go_ret
        exact ⟨rfl, Hfin.out⟩
end Go.Proofs.Ytkghogfcfocmpaa
