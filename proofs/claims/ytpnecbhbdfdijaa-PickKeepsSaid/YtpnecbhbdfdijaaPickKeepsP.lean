/- The walk of the statement PickKeeps: it returns true. -/
import Derived.Test.YtpnecbhbdfdijaaPickTrio
namespace Go.Proofs.Ytpnecbhbdfdijaa
open Go.RowKit

set_option maxRecDepth 100000 in
set_option maxHeartbeats 2000000 in
theorem keeps_any (a : Int) (v : Value) (b : Int) (bv : Value) (who : Int) (d : List (List VoteT)) (y : List UInt8) (w : World) (ha1 : -9223372036854775808 ≤ a) (ha2 : a ≤ 9223372036854775807) (hb1 : -9223372036854775808 ≤ b) (hb2 : b ≤ 9223372036854775807) (hw1 : -9223372036854775808 ≤ who) (hw2 : who ≤ 9223372036854775807)
    (h : SliceOf RDraws 1 w (fun k => k < w.heap.size) v d) (hy : BytesAt w (fun k => k < w.heap.size) bv y) : Calls Try.prog 5 #[.int .i64 a, v, .int .i64 b, bv, .int .i64 who] w (SameEnd w) := by
  have H := Lib.hid h
  have Hy := Lib.hid hy
  have Hd := Lib.hid (draws_ok h)
  obtain ⟨A, cap, rfl⟩ := slice_shape h
  obtain ⟨Ay, cy, rfl⟩ := slice_shape hy
  clear h hy
  go_enter Try.func5, Try.ntmps5
  go_wp2_with fail
  refine (within_any a 0 1000 _ ha1 ha2 (by omega) (by omega) (by omega)).mono ?_
  rintro e w' ⟨rfl, rfl⟩
  have hbd := within_bd a 0 1000 (by omega)
  generalize within a 0 1000 = f at *
  obtain ⟨hf, hf2⟩ := hbd
  go_wp2_with fail
  refine (within_any b 10 20 _ hb1 hb2 (by omega) (by omega) (by omega)).mono ?_
  rintro e w' ⟨rfl, rfl⟩
  have hbd := within_bd b 10 20 (by omega)
  generalize within b 10 20 = kb at *
  obtain ⟨hk, hk2⟩ := hbd
  obtain ⟨ok1, ok2⟩ := votes_ok f d hf (by omega) Hd.out
  have Olow := Lib.hid (votes_low ok1)
  clear ok1 ok2
  go_wp2_with fail
  refine (lists_any f _ d _ hf (by omega) H.out).mono ?_
  rintro e w0 ⟨ov, vs, rfl, hrow, b0⟩
  have hlen5 : (votesOf f d).length ≤ 5 := by unfold votesOf; rw [List.length_map, List.length_take]; omega
  generalize votesOf f d = ls at *
  have Hrow := Lib.hid hrow
  have B0 := Lib.hid b0
  have hov := own_shape hrow.outer
  obtain ⟨Ao, co, rfl⟩ := hov
  clear b0 hrow H
  go_wp2_with fail
  go_loopw [13] (fun ov wr => ∃ vs rows, Rowed w.heap.size wr ov vs rows ∧ (∀ l ∈ rows, LowRow l) ∧ rows.length ≤ 5 ∧ Below w.heap.size w wr) (fun ov _ => 3 - lenV ov)
  case atStart => exact ⟨vs, ls, Hrow.out, Olow.out, hlen5, B0.out⟩
  case round =>
    obtain ⟨vs1, rows, hrow, hlow, hl5, hb⟩ := hrel
    have hzb := hb.size
    by_cases hl3 : rows.length < 3
    · have hrl := hrow
      have hov := hrow.outer
      obtain ⟨n, hn⟩ : ∃ n, rows.length = n := ⟨_, rfl⟩
      rw [hn] at hov hl3
      obtain ⟨A5, c5, rfl⟩ := own_shape hov
      have hl3' : (n : Int) < 3 := by omega
      have Hov := Lib.hid hov
      have Hsn := Lib.hid (fun v2 w2 => @Rowed.snoc w.heap.size wr wr w2 _ (.slice none 0 0) v2 vs1 rows [] (.cells #[.slice none 0 0] 25) hrow hzb (Below.refl _ _) (Owns.nil RVote 3 _ _ _ _))
      have Hlow := Lib.hid hlow
      have Hb := Lib.hid hb
      have Hn := Lib.hid hn
      have hb2 : ∀ w2, (wr.alloc (.cells #[.slice none 0 0] 25)).grownBy w2 (Value.ownBlock (.slice A5 n c5)) → Below w.heap.size w w2 := fun w2 hg => hb.trans (((Touch.alloc (fun k => Value.ownBlock (.slice A5 n c5) = some k) wr _).trans (Touch.grown hg (fun g _ e => e)) (fun _ _ h => h)).below (fun k e => (hov.lt k e).1) hzb)
      have Hb2 := Lib.hid hb2
      clear hrl hov hrow hlow hb hn hb2 hl5
      go_wp2_with (at_builtin; refine wpList_append_src rfl _ _ 26 rfl w.heap.size 25 (.slice none 0 0) 1 24 Try.underlying26 votes_info rfl (by omega) (.slice A5 n c5) n vs1 rfl (by exact Hov.out.alloc _) (some ⟨wr.heap.size, 0, none⟩) 1 1 [.slice none 0 0] rfl rfl (by exact one_new wr _ _) (by intro u hu; simp at hu; rcases hu with rfl; rfl) (by omega) (by omega) (by simp; omega) ?_; intro v2 w2 hown2 hg2 hat2)
      have hp2 := Hsn.out v2 w2 (by rw [Hn.out]; exact hown2) hg2 hat2
      have Hp2 := Lib.hid hp2
      have hbz := Hb2.out w2 hg2
      have Hbz := Lib.hid hbz
      obtain ⟨A6, c6, rfl⟩ := own_shape hown2
      clear hp2 hown2 hg2 hat2 hbz
      go_wp2_with fail
      go_roundw
      case rel => exact ⟨_, _, Hp2.out, fun l hl => by rcases List.mem_append.1 hl with e | e; exact Hlow.out l e; simp at e; subst e; exact low_nil, by have := Hn.out; simp; omega, Hbz.out⟩
      case measure => simp [lenV]; omega
    · obtain ⟨g, c, vs0, rows0, rfl, hc3, hcm, hin, htrio⟩ := Trio.of_rowed hrow (by omega)
      have hlow0 : ∀ (i : Nat), i < 3 → LowRow (rows0 i) := fun i hi => hlow _ (hin i hi)
      obtain ⟨n, hn⟩ : ∃ n, rows.length = n := ⟨_, rfl⟩
      rw [hn] at hl3
      rw [hn]
      have hl3' : ¬ (n : Int) < 3 := by omega
      have hc4 : c ≤ 9223372036854775807 := by unfold maxLen at hcm; omega
      have Hlow := Lib.hid hlow0
      have Htrio := Lib.hid htrio
      have Hb := Lib.hid hb
      have Hby := Lib.hid (SliceOf.below (S' := fun k => k < w.heap.size) RByte.kept Hy.out hb (fun k h => h) (fun _ h => h))
      clear hrow hlow hb hn hin hcm hl5 hlow0 htrio Hy
      go_wp2_with fail
      refine (cut_any _ y 9 (fun g => g < w.heap.size) _ Hby.out (by omega) (by omega)).mono ?_
      rintro e w' ⟨v', lc, rfl, hlc, hv', rfl⟩
      obtain ⟨Av, cv, rfl⟩ := slice_shape hv'
      have hlc9 : lc.length ≤ 9 := by rw [hlc, List.length_take]; have : (9 : Int).toNat = 9 := rfl; omega
      have Hv := Lib.hid hv'
      clear hlc hv' Hby
      go_wp2_with fail
      refine (within_any who 0 2 _ hw1 hw2 (by omega) (by omega) (by omega)).mono ?_
      rintro e w' ⟨rfl, rfl⟩
      have hbd := within_bd who 0 2 (by omega)
      generalize within who 0 2 = odd at *
      obtain ⟨ho1, ho2⟩ := hbd
      obtain ⟨wA, rfl⟩ : ∃ wA : World, wA = wr := ⟨_, rfl⟩
      go_wp2_with fail
      go_loopw [15] (fun i wr => ∃ i' : Nat, i' ≤ 3 ∧ i = .int .i64 i' ∧ (∃ vs, Trio w.heap.size wr g vs (rowsAt rows0 odd ⟨f + 1, kb, lc⟩ i')) ∧ Below w.heap.size wA wr) (fun i _ => 3 - (intOf i).toNat)
      case atStart => exact ⟨0, by omega, rfl, ⟨vs0, by rw [rowsAt_zero]; exact Htrio.out⟩, Below.refl _ _⟩
      case round =>
        obtain ⟨i, hi, rfl, ⟨vs, ht⟩, hbb⟩ := hrel
        by_cases hi3 : i < 3
        · have hi3' : (i : Int) < 3 := by omega
          by_cases hio : (i : Int) = odd
          · have e1 : ((i : Int) != odd) = false := by simp [hio]
            have hsk := rowsAt_skip (rows0 := rows0) (x := ⟨f + 1, kb, lc⟩) hio
            rw [← hsk] at ht
            have Ht := Lib.hid ht
            have Hbb := Lib.hid hbb
            clear hsk ht hbb hio
            go_wp2_with fail
            go_roundw
            case rel => exact ⟨i + 1, by omega, by go_num, ⟨_, Ht.out⟩, Hbb.out⟩
            case measure => simp [intOf]; omega
          · have e1 : ((i : Int) != odd) = true := by simp [hio]
            have hpt := rowsAt_put (rows0 := rows0) (x := ⟨f + 1, kb, lc⟩) hio
            have hown := ht.inner i hi3
            obtain ⟨css, hrw, hown⟩ := hown
            obtain ⟨n2, hn2⟩ : ∃ n2, (rowsAt rows0 odd ⟨f + 1, kb, lc⟩ i i).length = n2 := ⟨_, rfl⟩
            have hn10 : n2 ≤ 10 := by rw [← hn2, rowsAt_self]; exact (Hlow.out i hi3).2
            rw [hn2] at hown
            obtain ⟨Ai, ci, hvi⟩ := own_shape hown
            have hcell := ht.cell i hi3
            have hthaw := ht.thaw i
            have hgs := ht.hi
            have hzb2 := hbb.size
            rw [hvi] at hown hcell
            have Ht := Lib.hid ht
            have Hbb := Lib.hid hbb
            have Hown := Lib.hid hown
            have Hrw := Lib.hid hrw
            have Hn2 := Lib.hid hn2
            have Hvi := Lib.hid hvi
            have Hpt := Lib.hid hpt
            have Hvw := Lib.hid (SliceOf.below (S' := fun k => k < w.heap.size) RByte.kept Hv.out hbb (fun k h => h) (fun _ h => h))
            have hzw : w.heap.size ≤ wr.heap.size := by have := ht.lo; omega
            clear ht hbb hown hrw hn2 hvi hpt hio
            go_wp2_with (at_builtin; refine wpList_append_src rfl _ _ 25 rfl w.heap.size 24 (.agg #[.int .i64 0, .int .i64 0, .slice none 0 0]) 3 40 Try.underlying25 vote_info rfl (by omega) (.slice Ai n2 ci) n2 css.flatten rfl (by exact Hown.out.alloc _) (some ⟨wr.heap.size, 0, none⟩) 1 1 [.int .i64 (f + 1), .int .i64 kb, .slice Av lc.length cv] rfl rfl (fun _ => ⟨wr.heap.size, 0, rfl, fun j u hj => by have := World.news_of_block (w := wr.alloc _) (heap_alloc_new wr (.cells #[.int .i64 (f + 1), .int .i64 kb, .slice Av lc.length cv] 24)) j u hj; rwa [WideShapes.add_plain] at this⟩) (by intro u hu; simp at hu; rcases hu with rfl | rfl | rfl <;> rfl) (by omega) (by omega) (by simp; omega) ?_; intro v2 w2 hown2 hg2 hat2; rw [← Hvi.out] at hg2 hat2; obtain ⟨_, hc2, hf2'⟩ := Ht.out.grown hi3 hg2; have hp2 := Ht.out.push hi3 Hrw.out Hn2.out Hvw.out hown2 hg2 hat2; have Hp2 := Lib.hid hp2; obtain ⟨A6, c6, rfl⟩ := own_shape hown2; clear hown2 hg2 hat2 hp2)
            go_roundw
            case rel => exact ⟨i + 1, by omega, by go_num, ⟨_, by rw [Hpt.out]; exact Hp2.out.1⟩, Hbb.out.trans (Hp2.out.2.mono (by omega))⟩
            case measure => simp [intOf]; omega
        · have hi3' : ¬ (i : Int) < 3 := by omega
          have hie : i = 3 := by omega
          rw [hie] at ht
          have Ht := Lib.hid ht
          have hbS : Below w.heap.size w wr := Hb.out.trans hbb
          have HbS := Lib.hid hbS
          have hv3 := SliceOf.below (S' := fun k => k < w.heap.size) RByte.kept Hv.out hbb (fun k h => h) (fun _ h => h)
          have Hv3 := Lib.hid hv3
          have hgs := ht.hi
          have hzw : w.heap.size ≤ wr.heap.size := by have := ht.lo; omega
          clear ht hbb hbS hv3 hie
          obtain ⟨wS, rfl⟩ : ∃ wS : World, wS = wr := ⟨_, rfl⟩
          go_wp2_with fail
          go_loopw [16] (fun i wr => ∃ i' : Nat, i' ≤ 3 ∧ i = .int .i64 i' ∧ Below wS.heap.size wS wr) (fun i _ => 3 - (intOf i).toNat)
          case atStart => exact ⟨0, by omega, rfl, Below.refl _ _⟩
          case round =>
            obtain ⟨i, hi, rfl, hbi⟩ := hrel
            by_cases hi3 : i < 3
            · have hi3' : (i : Int) < 3 := by omega
              have Hbi := Lib.hid hbi
              clear hbi
              go_wp2_with fail
              go_loopw [17] (fun j wr => ∃ j' : Nat, j' ≤ 3 ∧ j = .int .i64 j' ∧ Below wS.heap.size wS wr) (fun j _ => 3 - (intOf j).toNat)
              case atStart => exact ⟨0, by omega, rfl, Hbi.out⟩
              case round =>
                obtain ⟨j, hj, rfl, hbj⟩ := hrel
                by_cases hj3 : j < 3
                · have hj3' : (j : Int) < 3 := by omega
                  have Hbj := Lib.hid hbj
                  by_cases hij : i = j
                  · have e1 : ((i : Int) == j) = true := by simp [hij]
                    clear hij hbj
                    go_wp2_with fail
                    go_roundw
                    case rel => exact ⟨j + 1, by omega, by go_num, Hbj.out⟩
                    case measure => simp [intOf]; omega
                  · have e1 : ((i : Int) == j) = false := by simp; omega
                    have ht := Ht.out.below hbj
                    obtain ⟨p1, p2, p3, p4⟩ := pair_keeps (l := lc) (odd := odd) Hlow.out hf hf2 hk hk2 hlc9 hi3 hj3 hij
                    have hbl := hbj.size
                    have hki := ht.cell i hi3
                    have hkj := ht.cell j hj3
                    have hsi := ht.slice hi3
                    have hsj := ht.slice hj3
                    have hgr := ht.hi
                    obtain ⟨vi, hvi⟩ : ∃ vi, vs i = vi := ⟨_, rfl⟩
                    obtain ⟨vj, hvj⟩ : ∃ vj, vs j = vj := ⟨_, rfl⟩
                    rw [hvi] at hki hsi
                    rw [hvj] at hkj hsj
                    generalize rowsAt rows0 odd ⟨f + 1, kb, lc⟩ 3 i = ri at *
                    generalize rowsAt rows0 odd ⟨f + 1, kb, lc⟩ 3 j = rj at *
                    obtain ⟨Ai, ci, rfl⟩ := slice_shape hsi
                    obtain ⟨Aj, cj, rfl⟩ := slice_shape hsj
                    have hlit := lists_lit2 hsi hsj rfl rfl
                    have hbA : Below wr.heap.size wr (wr.alloc (.cells #[.slice Ai ri.length ci, .slice Aj rj.length cj] 25)) := (Below.refl wr.heap.size wr).alloc (Nat.le_refl _) _
                    have aI := (hbA.cell (p := ⟨g, i, none⟩) hgr).trans hki
                    have aJ := (hbA.cell (p := ⟨g, j, none⟩) hgr).trans hkj
                    have HbA := Lib.hid hbA
                    have Hlit := Lib.hid hlit
                    have P1 := Lib.hid p1
                    have P2 := Lib.hid p2
                    have P3 := Lib.hid p3
                    have P4 := Lib.hid p4
                    have nG : wr.heap.size ≠ g := by omega
                    have i0 : (0 : Int) ≤ (i : Int) := by omega
                    have j0 : (0 : Int) ≤ (j : Int) := by omega
                    clear hbj ht p1 p2 p3 p4 hsi hsj hvi hvj hlit hbA
                    go_wp2_with fail
                    go_region_held3 (fun W => W.cell? ⟨g, i, none⟩ = some (.slice Ai ri.length ci) ∧ W.cell? ⟨g, j, none⟩ = some (.slice Aj rj.length cj)) (first | exact ⟨hki, hkj⟩ | exact ⟨aI, aJ⟩ | exact ⟨qI, qJ⟩ | go_keep) ((go_at_call 8; refine (choose_all f _ [ri, rj] (fun k => k < wr.heap.size + 1) _ (by omega) (by first | exact Hlit.out | exact SliceOf.heap RVotes.kept Hlit.out rfl) (fun k h => by simpa using h) P1.out P2.out).mono ?_; rintro e w1 ⟨v1, rfl, h1, b1⟩; have hb1 : Below wr.heap.size wr w1 := (by first | exact HbA.out.trans (b1.mono (by simp)) | exact HbA.out.drew.trans (b1.mono (by simp))); have qI := (hb1.cell (p := ⟨g, i, none⟩) hgr).trans hki; have qJ := (hb1.cell (p := ⟨g, j, none⟩) hgr).trans hkj; have Hb1 := Lib.hid hb1; have H1 := Lib.hid h1; obtain ⟨A1, c1, rfl⟩ := slice_shape h1; clear h1 b1 hb1))
                    have hS1 : Below wS.heap.size wS w1 := Hbj.out.trans (Hb1.out.mono hbl)
                    have hlc := SliceOf.below (S' := fun k => k < w.heap.size) RByte.kept Hv3.out hS1 (fun k h => Nat.lt_of_lt_of_le h hzw) (fun _ h => h)
                    have HS1 := Lib.hid hS1
                    generalize choose f [ri, rj] = out at *
                    have h2 := P3.out
                    have h4 := P4.out
                    have hd2 : decide ((out.length : Int) < 2) = false := decide_eq_false (by omega)
                    have hd1 : (1 : Int) < out.length := by omega
                    have hmx : out.length ≤ 9223372036854775807 := by obtain ⟨_, _, _, h1, h2, _⟩ := H1.out; unfold maxLen at h2; omega
                    obtain ⟨b1, o1, rfl, _, cs, ⟨zv, rfl, hzv⟩, _, hc⟩ := H1.out.at h4
                    have g0 : w1.cell? ⟨b1, o1 + 3, none⟩ = some (.int .i64 (f + 1)) := by simpa using hc 0 _ rfl
                    have g1 : w1.cell? ⟨b1, o1 + 3 + 1, none⟩ = some (.int .i64 kb) := by simpa using hc 1 _ rfl
                    have g2 : w1.cell? ⟨b1, o1 + 3 + 2, none⟩ = some zv := by simpa using hc 2 _ rfl
                    obtain ⟨Az, cz, rfl⟩ := slice_shape hzv
                    simp only at g2
                    have kx : ∀ n, (convert 22 9 (.slice Az lc.length cz)).run Try.prog (w1.drewN n) = .ok (.string ⟨lc.toArray⟩) (w1.drewN n) := fun n => conv_bytes hzv Try.underlying22 Try.underlying5 Try.underlying9 (fun _ _ => rfl)
                    have ky : ∀ n, (convert 22 9 (.slice Av lc.length cv)).run Try.prog (w1.drewN n) = .ok (.string ⟨lc.toArray⟩) (w1.drewN n) := fun n => conv_bytes hlc Try.underlying22 Try.underlying5 Try.underlying9 (fun _ _ => rfl)
                    clear hS1 hlc h4 hc hzv hki hkj aI aJ qI qJ
                    go_wp2_with fail
                    go_quiet (fail)
                    go_wp2_with fail
                    go_roundw
                    case rel => exact ⟨j + 1, by omega, by go_num, by first | exact HS1.out | exact below_drewN HS1.out _ | exact HS1.out.drew⟩
                    case measure => simp [intOf]; omega
                · have Hbj := Lib.hid hbj
                  have hj3' : ¬ (j : Int) < 3 := by omega
                  clear hbj
                  go_wp2_with fail
                  go_roundw
                  case rel => exact ⟨i + 1, by omega, by go_num, Hbj.out⟩
                  case measure => simp [intOf]; omega
            · have hi3' : ¬ (i : Int) < 3 := by omega
              have hbw : Below w.heap.size w wr := HbS.out.trans (hbi.mono hzw)
              have Hbw := Lib.hid hbw
              clear hbi hbw
              go_wp2_with fail
              refine (known_any _).mono ?_
              rintro e w7 ⟨rfl, b7⟩
              have hend := Lib.hid (Hbw.out.trans (b7.mono Hbw.out.size))
              clear b7
              go_wp2_with fail
              go_ret
              exact ⟨rfl, hend.out⟩
end Go.Proofs.Ytpnecbhbdfdijaa
