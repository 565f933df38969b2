/- The walk of the statements' 'play'. -/
import Derived.Test.YtelgnemlnhcdmaaNTwo
import Derived.Deep.CutRange
import Derived.Deep.CutBlock
namespace Go.Proofs.Ytelgnemlnhcdmaa
open Go.RowKit

theorem row_cells {w : World} {base : Nat} {css : List (List Value)} {ms : List MsgT} {S : Nat → Prop} {g c n : Nat} (hown : w.ownsRow base 31 10 (.slice (some ⟨g, 0, none⟩) n c) n css.flatten) (hrow : RowsOf RMsg 10 w S css ms) {q : Nat} {x : MsgT} (hx : ms[q]? = some x) :
    ∃ A n1 c1 A' n2 c2, n1 = x.b.length ∧ n2 = x.l.length ∧ BytesAt w S (.slice A n1 c1) x.b ∧ SliceOf RVote 3 w S (.slice A' n2 c2) x.l ∧ RMsg w S (msgCells x (.slice A n1 c1) (.slice A' n2 c2)).toList x ∧ ∀ j u, (msgCells x (.slice A n1 c1) (.slice A' n2 c2)).toList[j]? = some u → w.cell? ⟨g, q * 10 + j, none⟩ = some u := by
  have hk : q < ms.length := (List.getElem?_eq_some_iff.1 hx).1
  have hkc : q < css.length := by rw [hrow.1]; exact hk
  obtain ⟨_, h2⟩ := hrow.2 q css[q] _ (List.getElem?_eq_getElem hkc) hx
  obtain ⟨bv, lv, e, h3, h4⟩ := h2
  have hfl : ∀ j u, css[q][j]? = some u → w.cell? ⟨g, q * 10 + j, none⟩ = some u := fun j u hu => by
    have := hown.cells (g := g) rfl _ u (flatten_get hrow.sizes q j _ u (List.getElem?_eq_getElem hkc) hu)
    rwa [WideShapes.add_plain, Nat.zero_add] at this
  rw [e] at hfl
  obtain ⟨A, c1, rfl⟩ := slice_shape h3
  obtain ⟨A', c2, rfl⟩ := slice_shape h4
  exact ⟨A, _, c1, A', _, c2, rfl, rfl, h3, h4, ⟨_, _, rfl, h3, h4⟩, hfl⟩

set_option maxRecDepth 100000 in
set_option maxHeartbeats 20000000 in
theorem play_any (room : Int) (v : Value) (l : List AskT) (S : Nat → Prop) (w : World) (hr1 : 1 ≤ room) (hr2 : room ≤ 100) (h : SliceOf RAsk 12 w S v l) (hS : ∀ k, S k → k < w.heap.size) (hok : ∀ a ∈ l, VotesOk a.m) : Calls Try.prog 13 #[.int .i64 room, v] w (SameEnd w) := by
  have H := Lib.hid (SliceOf.below (S' := fun k => k < w.heap.size) RAsk.kept h (Below.refl w.heap.size w) hS hS)
  obtain ⟨A, cap, rfl, hc0, hcm, _⟩ := h
  have hmax : l.length ≤ 9223372036854775807 := by unfold maxLen at hcm; omega
  have Hok := Lib.hid hok
  have T0 := Lib.hid (Two.start w room)
  clear hc0 hcm hok hS
  go_enter Try.func13, Try.ntmps13
  go_wp2_with fail
  refine (new_ok room w hr1 (by omega)).mono ?_
  rintro e w1 ⟨rfl, rfl⟩
  go_wp2_with fail
  go_loopw [7, 8] (fun mv i wr => ∃ i' : Nat, i' ≤ l.length ∧ i' ≤ 90 ∧ i = .int .i64 i' ∧ PlayIn w room mv wr) (fun _ i _ => l.length - (intOf i).toNat)
  case atStart => exact ⟨0, Nat.zero_le _, by omega, rfl, [], by simp; omega, fun m hm => by (cases hm), T0.out⟩
  case round =>
    obtain ⟨i, hi, hi90, rfl, hm⟩ := hrel
    by_cases hlt : i < l.length ∧ i < 90
    · obtain ⟨hlt, hlt9⟩ := hlt
      have g1 : (i : Int) < l.length := by omega
      have g2 : (i : Int) < 90 := by omega
      have g3 : (0 : Int) ≤ i := by omega
      obtain ⟨a, ha⟩ : ∃ a, l[i]? = some a := ⟨l[i], List.getElem?_eq_getElem (by omega)⟩
      have hao := Hok.out a (List.mem_of_getElem? ha)
      obtain ⟨ms, hml, hsm, ht⟩ := hm
      have hbb : Below w.heap.size w wr := by obtain ⟨_, _, _, h, _⟩ := ht; exact h
      obtain ⟨bl, ol, rfl, hblS, cs, ⟨cm, rfl, bv, lv, rfl, hb, hl⟩, _, hcc⟩ := (SliceOf.below (S' := fun k => k < w.heap.size) RAsk.kept H.out hbb (fun k h => h) (fun _ h => h)).at ha
      obtain ⟨kind, kn, mk, mg, ms', md, mb, mt, mc, mq, b, l'⟩ := a
      simp only at hb hl hcc hao
      obtain ⟨Ab, cb, rfl⟩ := slice_shape hb
      obtain ⟨Al, cl, rfl⟩ := slice_shape hl
      have c0 : wr.cell? ⟨bl, ol + i * 12, none⟩ = some (.int .i64 kind) := by simpa [Nat.add_assoc] using hcc 0 _ rfl
      have c1 : wr.cell? ⟨bl, ol + i * 12 + 1, none⟩ = some (.int .i64 kn) := by simpa [Nat.add_assoc] using hcc 1 _ rfl
      have Hcc := Lib.hid hcc
      have Hb := Lib.hid hb
      have Hl := Lib.hid hl
      have Hao := Lib.hid hao
      have Hsm := Lib.hid hsm
      have Ht := Lib.hid ht
      have Hbb := Lib.hid hbb
      clear hcc hb hl hao hsm ht hbb ha
      go_upto_block 2 with fail
      go_cut [7] from 29 to 172 (fun mv wx => PlayIn w room mv wx)
      case first =>
        obtain ⟨F, css, hN, hbw, hown, hrow, hdis⟩ := Ht.out
        obtain ⟨Am, cm, rfl⟩ := own_shape hown
        have hzw := hbw.size
        have HF := Lib.hid hN.lt.2
        have HN := Lib.hid hN
        have Hbw := Lib.hid hbw
        have Hown := Lib.hid hown
        have Hrow := Lib.hid hrow
        have Hdis := Lib.hid hdis
        clear hN hbw hown hrow hdis c0 c1
        by_cases hk1 : kind = 1
        · have e1 : (kind == 1) = true := by rw [beq_iff_eq]; exact hk1
          have m0 : wr.cell? ⟨bl, ol + i * 12 + 2, none⟩ = some (.int .i64 mk) := by simpa [Nat.add_assoc] using Hcc.out 2 _ rfl
          have m1 : wr.cell? ⟨bl, ol + i * 12 + 3, none⟩ = some (.int .i64 mg) := by simpa [Nat.add_assoc] using Hcc.out 3 _ rfl
          have m2 : wr.cell? ⟨bl, ol + i * 12 + 4, none⟩ = some (.int .i64 ms') := by simpa [Nat.add_assoc] using Hcc.out 4 _ rfl
          have m3 : wr.cell? ⟨bl, ol + i * 12 + 5, none⟩ = some (.int .i64 md) := by simpa [Nat.add_assoc] using Hcc.out 5 _ rfl
          have m4 : wr.cell? ⟨bl, ol + i * 12 + 6, none⟩ = some (.int .i64 mb) := by simpa [Nat.add_assoc] using Hcc.out 6 _ rfl
          have m5 : wr.cell? ⟨bl, ol + i * 12 + 7, none⟩ = some (.int .i64 mt) := by simpa [Nat.add_assoc] using Hcc.out 7 _ rfl
          have m6 : wr.cell? ⟨bl, ol + i * 12 + 8, none⟩ = some (.int .i64 mc) := by simpa [Nat.add_assoc] using Hcc.out 8 _ rfl
          have m7 : wr.cell? ⟨bl, ol + i * 12 + 9, none⟩ = some (.int .i64 mq) := by simpa [Nat.add_assoc] using Hcc.out 9 _ rfl
          have m8 : wr.cell? ⟨bl, ol + i * 12 + 10, none⟩ = some (.slice Ab b.length cb) := by simpa [Nat.add_assoc] using Hcc.out 10 _ rfl
          have m9 : wr.cell? ⟨bl, ol + i * 12 + 11, none⟩ = some (.slice Al l'.length cl) := by simpa [Nat.add_assoc] using Hcc.out 11 _ rfl
          have Hk1 := Lib.hid hk1
          clear hk1
          go_wp2_with fail
          refine (few_any ⟨mk, mg, ms', md, mb, mt, mc, mq, b, l'⟩ (.slice Ab b.length cb) (.slice Al l'.length cl) (fun k => k < w.heap.size) wr Hb.out Hl.out (fun k h => by omega)).mono ?_
          rintro e w1 ⟨B1, n1, e1, B2, n2, e2, hn1, hn2, rfl, hb1, hl1, b1⟩
          have hysm : Small (fewT ⟨mk, mg, ms', md, mb, mt, mc, mq, b, l'⟩) := few_small Hao.out
          generalize fewT ⟨mk, mg, ms', md, mb, mt, mc, mq, b, l'⟩ = y at *
          obtain ⟨yk, yg, ys, yd, yb, yt, yc, yq, zb, zl⟩ := y
          simp only at hn1 hn2 hb1 hl1
          subst hn1 hn2
          have bal : Below w1.heap.size w1 (w1.alloc (.cells (msgCells ⟨yk, yg, ys, yd, yb, yt, yc, yq, zb, zl⟩ (.slice B1 zb.length e1) (.slice B2 zl.length e2)) 31)) := (Below.refl _ _).alloc (Nat.le_refl _) _
          have hz1 := b1.size
          have bW := b1.trans (bal.mono hz1)
          have hbW := SliceOf.below (S' := fun k => k < w.heap.size) RByte.kept hb1 bal (fun k h => by omega) (fun _ h => h)
          have hlW := SliceOf.below (S' := fun k => k < w.heap.size) RVote.kept hl1 bal (fun k h => by omega) (fun _ h => h)
          have hbox : Blk (w1.alloc (.cells (msgCells ⟨yk, yg, ys, yd, yb, yt, yc, yq, zb, zl⟩ (.slice B1 zb.length e1) (.slice B2 zl.length e2)) 31)) w1.heap.size 31 (msgCells ⟨yk, yg, ys, yd, yb, yt, yc, yq, zb, zl⟩ (.slice B1 zb.length e1) (.slice B2 zl.length e2)) := Blk.new w1 _ _
          have hN1 := HN.out.below bW
          have hown1 := own_below Hown.out bW
          have hrow1 := RowsOf.keep (S' := fun k => k < w.heap.size) RMsg.kept Hrow.out (fun k hk => bW.block k (by omega)) (fun _ g => g)
          have hbw1 := Hbw.out.trans (bW.mono hzw)
          have hbx : ¬ F w1.heap.size := fun h => by have := (HF.out w1.heap.size h).2; omega
          have HbW := Lib.hid hbW
          have HlW := Lib.hid hlW
          have Hbox := Lib.hid hbox
          have HN1 := Lib.hid hN1
          have Hown1 := Lib.hid hown1
          have Hrow1 := Lib.hid hrow1
          have Hbw1 := Lib.hid hbw1
          have Hysm := Lib.hid hysm
          clear hb1 hl1 b1 bal bW hbW hlW hbox hN1 hown1 hrow1 hbw1 hysm m0 m1 m2 m3 m4 m5 m6 m7 m8 m9
          go_wp2_with fail
          by_cases hroom : (ms.length : Int) < room
          · refine (send_ok ⟨yk, yg, ys, yd, yb, yt, yc, yq, zb, zl⟩ (.slice B1 zb.length e1) (.slice B2 zl.length e2) (fun k => k < w.heap.size) HN1.out hroom (by omega) HbW.out HlW.out (fun k h => by simp; omega) Hysm.out).mono ?_
            rintro e w2 ⟨rfl, htn⟩
            obtain ⟨F2, hN2, hF2, htch⟩ := htn
            have hz2 := htch.size
            have hbox2 := Hbox.out.touch htch hbx
            have q0 : w2.cell? ⟨w1.heap.size, 0, none⟩ = some (.int .i64 yk) := hbox2.cell 0
            have q1 : w2.cell? ⟨w1.heap.size, 1, none⟩ = some (.int .i64 yg) := hbox2.cell 1
            have q2 : w2.cell? ⟨w1.heap.size, 2, none⟩ = some (.int .i64 ys) := hbox2.cell 2
            have q3 : w2.cell? ⟨w1.heap.size, 3, none⟩ = some (.int .i64 yd) := hbox2.cell 3
            have q4 : w2.cell? ⟨w1.heap.size, 4, none⟩ = some (.int .i64 yb) := hbox2.cell 4
            have q5 : w2.cell? ⟨w1.heap.size, 5, none⟩ = some (.int .i64 yt) := hbox2.cell 5
            have q6 : w2.cell? ⟨w1.heap.size, 6, none⟩ = some (.int .i64 yc) := hbox2.cell 6
            have q7 : w2.cell? ⟨w1.heap.size, 7, none⟩ = some (.int .i64 yq) := hbox2.cell 7
            have q8 : w2.cell? ⟨w1.heap.size, 8, none⟩ = some (.slice B1 zb.length e1) := hbox2.cell 8
            have q9 : w2.cell? ⟨w1.heap.size, 9, none⟩ = some (.slice B2 zl.length e2) := hbox2.cell 9
            have hsk : ∀ k, k < w.heap.size → w2.heap[k]? = (w1.alloc (.cells (msgCells ⟨yk, yg, ys, yd, yb, yt, yc, yq, zb, zl⟩ (.slice B1 zb.length e1) (.slice B2 zl.length e2)) 31)).heap[k]? := fun k hk => htch.block k (by simp; omega) (fun h => by have := (HF.out k h).1; omega)
            have hown2 := own_touch Hown1.out htch Hdis.out
            have hrow2 := RowsOf.keep (S' := fun k => k < w.heap.size) RMsg.kept Hrow1.out hsk (fun _ g => g)
            have hbw2 := Hbw1.out.trans (htch.below (fun k h => (HF.out k h).1) (by simp; omega))
            have hy2 : RMsg w2 (fun k => k < w.heap.size) (msgCells ⟨yk, yg, ys, yd, yb, yt, yc, yq, zb, zl⟩ (.slice B1 zb.length e1) (.slice B2 zl.length e2)).toList ⟨yk, yg, ys, yd, yb, yt, yc, yq, zb, zl⟩ := ⟨_, _, rfl, SliceOf.keep RByte.kept HbW.out hsk (fun _ h => h), SliceOf.keep RVote.kept HlW.out hsk (fun _ h => h)⟩
            have hdis2 : ∀ k, Value.ownBlock (.slice Am ms.length cm) = some k → ¬ F2 k := fun k e h => by
              rcases hF2 k h with e2 | e2
              · exact Hdis.out k e e2
              · have := Hown.out.lt k e; simp at e2; omega
            have Hpush := Lib.hid (fun v5 w5 => @Two.append w w2 w5 F2 css room (ms ++ [⟨yk, yg, ys, yd, yb, yt, yc, yq, zb, zl⟩]) ms (.slice Am ms.length cm) v5 ⟨yk, yg, ys, yd, yb, yt, yc, yq, zb, zl⟩ (msgCells ⟨yk, yg, ys, yd, yb, yt, yc, yq, zb, zl⟩ (.slice B1 zb.length e1) (.slice B2 zl.length e2)).toList (.cells (msgCells ⟨yk, yg, ys, yd, yb, yt, yc, yq, zb, zl⟩ (.slice B1 zb.length e1) (.slice B2 zl.length e2)) 31) hN2 hbw2 hown2 hrow2 hdis2 hy2 rfl)
            have Hown2 := Lib.hid hown2
            have Hz2 : Hid (w.heap.size ≤ w2.heap.size) := Lib.hid hbw2.size
            clear hN2 hF2 htch hbox2 hsk hown2 hrow2 hbw2 hy2 hdis2 HbW HlW Hbox HN1 Hown1 Hrow1 Hbw1 hz2
            go_wp2_with (at_builtin; refine wpList_append_src rfl _ _ 43 rfl w.heap.size 31 (.agg msgZero.toArray) 10 112 Try.underlying43 msg_info (by rfl) (by omega) (.slice Am ms.length cm) ms.length css.flatten rfl (by exact Hown2.out.alloc _) (some ⟨w2.heap.size, 0, none⟩) 1 1 (msgCells ⟨yk, yg, ys, yd, yb, yt, yc, yq, zb, zl⟩ (.slice B1 zb.length e1) (.slice B2 zl.length e2)).toList rfl rfl (fun _ => ⟨w2.heap.size, 0, rfl, fun j u hj => by have := World.news_of_block (w := w2.alloc _) (heap_alloc_new w2 (.cells (msgCells ⟨yk, yg, ys, yd, yb, yt, yc, yq, zb, zl⟩ (.slice B1 zb.length e1) (.slice B2 zl.length e2)) 31)) j u hj; rwa [WideShapes.add_plain] at this⟩) (by intro u hu; simp at hu; rcases hu with rfl | rfl | rfl | rfl | rfl | rfl | rfl | rfl | rfl | rfl <;> rfl) (by omega) (by omega) (by have := Hz2.out; simp; omega) ?_; intro v5 w5 hown5 hg5 hat5)
            have hp := Hpush.out v5 w5 hown5 hg5 hat5
            have Hp := Lib.hid hp
            obtain ⟨A9, c9, rfl⟩ := own_shape hown5
            clear hp hown5 hg5 hat5
            go_wp2_with fail
            go_meet
            exact ⟨ms ++ [⟨yk, yg, ys, yd, yb, yt, yc, yq, zb, zl⟩], by simp; omega, Hsm.out.snoc Hysm.out, Hp.out⟩
          · refine (send_full ⟨yk, yg, ys, yd, yb, yt, yc, yq, zb, zl⟩ (.slice B1 zb.length e1) (.slice B2 zl.length e2) HN1.out hroom).mono ?_
            rintro e w2 ⟨rfl, htn⟩
            have ht2 := Two.turned HN1.out Hbw1.out Hown1.out Hrow1.out Hdis.out htn
            have Ht2 := Lib.hid ht2
            clear htn ht2 HbW HlW Hbox HN1 Hown1 Hrow1 Hbw1
            go_wp2_with fail
            go_meet
            exact ⟨ms, hml, Hsm.out, Ht2.out⟩
        · have e1 : (kind == 1) = false := by rw [beq_eq_false_iff_ne]; exact hk1
          have Hk1 := Lib.hid hk1
          clear hk1
          by_cases hk2 : kind = 2
          · have e2 : (kind == 2) = true := by rw [beq_iff_eq]; exact hk2
            have Hk2 := Lib.hid hk2
            clear hk2
            by_cases hin : 0 ≤ kn ∧ kn < ms.length
            · obtain ⟨q, rfl⟩ := Int.eq_ofNat_of_zero_le hin.1
              have hq : q < ms.length := by omega
              have g6 : (0 : Int) ≤ q := by omega
              have g7 : (q : Int) < ms.length := by omega
              have g8 : (0 : Int) ≤ (q : Int) + 1 := by omega
              have g9 : (q : Int) + 1 ≤ ms.length := by omega
              have hwrap : IntKind.i64.wrap ((q : Int) + 1) = (q : Int) + 1 := by rw [IntKind.wrap_i64]; omega
              clear hin
              obtain ⟨x, hx⟩ : ∃ x, ms[q]? = some x := ⟨ms[q], List.getElem?_eq_getElem hq⟩
              obtain ⟨gm, rfl⟩ : ∃ gm, Am = some ⟨gm, 0, none⟩ := by
                rcases Hown.out.2 with ⟨_, hz⟩ | ⟨g, cap, cur, e, _⟩
                · omega
                · injection e with e1 _ _; exact ⟨g, e1⟩
              have hcm : ms.length ≤ cm ∧ cm ≤ 9223372036854775807 := by
                rcases Hown.out.2 with ⟨e, hz⟩ | ⟨g, cap, cur, e, _, _, h1, h2, _⟩
                · omega
                · injection e with _ _ e; subst e; unfold maxLen at h2; omega
              have hqc : q ≤ cm := by omega
              have hqc1 : q + 1 ≤ cm := by omega
              have Hx := Lib.hid hx
              clear hx
              go_wp2_with fail
              refine (take_at q HN.out Hx.out (by omega)).mono ?_
              rintro e w1 ⟨⟨bv1, lv1, rfl, hb1, hl1⟩, htn⟩
              have ht1 := Two.turned HN.out Hbw.out Hown.out Hrow.out Hdis.out htn
              have hz1 := htn.choose_spec.2.2.size
              obtain ⟨F2, css2, hN2, hbw2, hown2, hrow2, hdis2⟩ := ht1
              obtain ⟨B1, n1, e1', B2, n2, e2', hn1, hn2, hxb, hxl, hxr, hxc⟩ := row_cells hown2 hrow2 Hx.out
              obtain ⟨yk, yg, ys, yd, yb, yt, yc, yq, zb, zl⟩ := x
              simp only at hn1 hn2 hxb hxl hxr hxc hb1 hl1
              subst hn1 hn2
              obtain ⟨A1, d1, rfl⟩ := slice_shape hb1
              obtain ⟨A2, d2, rfl⟩ := slice_shape hl1
              have hgm := (hown2.lt gm rfl).2
              have q0 : ((w1.alloc (.cells #[.int .i64 yk, .int .i64 yg, .int .i64 ys, .int .i64 yd, .int .i64 yb, .int .i64 yt, .int .i64 yc, .int .i64 yq, .slice A1 zb.length d1, .slice A2 zl.length d2] 31)).alloc (.cells #[.int .i64 0, .int .i64 0, .int .i64 0, .int .i64 0, .int .i64 0, .int .i64 0, .int .i64 0, .int .i64 0, .slice none 0 0, .slice none 0 0] 31)).cell? ⟨gm, q * 10, none⟩ = some (.int .i64 yk) := (World.cell?_alloc_lt _ _ ⟨gm, _, none⟩ (by simp; omega)).trans ((World.cell?_alloc_lt w1 _ ⟨gm, _, none⟩ hgm).trans (hxc 0 _ rfl))
              have q1 : ((w1.alloc (.cells #[.int .i64 yk, .int .i64 yg, .int .i64 ys, .int .i64 yd, .int .i64 yb, .int .i64 yt, .int .i64 yc, .int .i64 yq, .slice A1 zb.length d1, .slice A2 zl.length d2] 31)).alloc (.cells #[.int .i64 0, .int .i64 0, .int .i64 0, .int .i64 0, .int .i64 0, .int .i64 0, .int .i64 0, .int .i64 0, .slice none 0 0, .slice none 0 0] 31)).cell? ⟨gm, q * 10 + 1, none⟩ = some (.int .i64 yg) := (World.cell?_alloc_lt _ _ ⟨gm, _, none⟩ (by simp; omega)).trans ((World.cell?_alloc_lt w1 _ ⟨gm, _, none⟩ hgm).trans (hxc 1 _ rfl))
              have q2 : ((w1.alloc (.cells #[.int .i64 yk, .int .i64 yg, .int .i64 ys, .int .i64 yd, .int .i64 yb, .int .i64 yt, .int .i64 yc, .int .i64 yq, .slice A1 zb.length d1, .slice A2 zl.length d2] 31)).alloc (.cells #[.int .i64 0, .int .i64 0, .int .i64 0, .int .i64 0, .int .i64 0, .int .i64 0, .int .i64 0, .int .i64 0, .slice none 0 0, .slice none 0 0] 31)).cell? ⟨gm, q * 10 + 2, none⟩ = some (.int .i64 ys) := (World.cell?_alloc_lt _ _ ⟨gm, _, none⟩ (by simp; omega)).trans ((World.cell?_alloc_lt w1 _ ⟨gm, _, none⟩ hgm).trans (hxc 2 _ rfl))
              have q3 : ((w1.alloc (.cells #[.int .i64 yk, .int .i64 yg, .int .i64 ys, .int .i64 yd, .int .i64 yb, .int .i64 yt, .int .i64 yc, .int .i64 yq, .slice A1 zb.length d1, .slice A2 zl.length d2] 31)).alloc (.cells #[.int .i64 0, .int .i64 0, .int .i64 0, .int .i64 0, .int .i64 0, .int .i64 0, .int .i64 0, .int .i64 0, .slice none 0 0, .slice none 0 0] 31)).cell? ⟨gm, q * 10 + 3, none⟩ = some (.int .i64 yd) := (World.cell?_alloc_lt _ _ ⟨gm, _, none⟩ (by simp; omega)).trans ((World.cell?_alloc_lt w1 _ ⟨gm, _, none⟩ hgm).trans (hxc 3 _ rfl))
              have q4 : ((w1.alloc (.cells #[.int .i64 yk, .int .i64 yg, .int .i64 ys, .int .i64 yd, .int .i64 yb, .int .i64 yt, .int .i64 yc, .int .i64 yq, .slice A1 zb.length d1, .slice A2 zl.length d2] 31)).alloc (.cells #[.int .i64 0, .int .i64 0, .int .i64 0, .int .i64 0, .int .i64 0, .int .i64 0, .int .i64 0, .int .i64 0, .slice none 0 0, .slice none 0 0] 31)).cell? ⟨gm, q * 10 + 4, none⟩ = some (.int .i64 yb) := (World.cell?_alloc_lt _ _ ⟨gm, _, none⟩ (by simp; omega)).trans ((World.cell?_alloc_lt w1 _ ⟨gm, _, none⟩ hgm).trans (hxc 4 _ rfl))
              have q5 : ((w1.alloc (.cells #[.int .i64 yk, .int .i64 yg, .int .i64 ys, .int .i64 yd, .int .i64 yb, .int .i64 yt, .int .i64 yc, .int .i64 yq, .slice A1 zb.length d1, .slice A2 zl.length d2] 31)).alloc (.cells #[.int .i64 0, .int .i64 0, .int .i64 0, .int .i64 0, .int .i64 0, .int .i64 0, .int .i64 0, .int .i64 0, .slice none 0 0, .slice none 0 0] 31)).cell? ⟨gm, q * 10 + 5, none⟩ = some (.int .i64 yt) := (World.cell?_alloc_lt _ _ ⟨gm, _, none⟩ (by simp; omega)).trans ((World.cell?_alloc_lt w1 _ ⟨gm, _, none⟩ hgm).trans (hxc 5 _ rfl))
              have q6 : ((w1.alloc (.cells #[.int .i64 yk, .int .i64 yg, .int .i64 ys, .int .i64 yd, .int .i64 yb, .int .i64 yt, .int .i64 yc, .int .i64 yq, .slice A1 zb.length d1, .slice A2 zl.length d2] 31)).alloc (.cells #[.int .i64 0, .int .i64 0, .int .i64 0, .int .i64 0, .int .i64 0, .int .i64 0, .int .i64 0, .int .i64 0, .slice none 0 0, .slice none 0 0] 31)).cell? ⟨gm, q * 10 + 6, none⟩ = some (.int .i64 yc) := (World.cell?_alloc_lt _ _ ⟨gm, _, none⟩ (by simp; omega)).trans ((World.cell?_alloc_lt w1 _ ⟨gm, _, none⟩ hgm).trans (hxc 6 _ rfl))
              have q7 : ((w1.alloc (.cells #[.int .i64 yk, .int .i64 yg, .int .i64 ys, .int .i64 yd, .int .i64 yb, .int .i64 yt, .int .i64 yc, .int .i64 yq, .slice A1 zb.length d1, .slice A2 zl.length d2] 31)).alloc (.cells #[.int .i64 0, .int .i64 0, .int .i64 0, .int .i64 0, .int .i64 0, .int .i64 0, .int .i64 0, .int .i64 0, .slice none 0 0, .slice none 0 0] 31)).cell? ⟨gm, q * 10 + 7, none⟩ = some (.int .i64 yq) := (World.cell?_alloc_lt _ _ ⟨gm, _, none⟩ (by simp; omega)).trans ((World.cell?_alloc_lt w1 _ ⟨gm, _, none⟩ hgm).trans (hxc 7 _ rfl))
              have q8 : ((w1.alloc (.cells #[.int .i64 yk, .int .i64 yg, .int .i64 ys, .int .i64 yd, .int .i64 yb, .int .i64 yt, .int .i64 yc, .int .i64 yq, .slice A1 zb.length d1, .slice A2 zl.length d2] 31)).alloc (.cells #[.int .i64 0, .int .i64 0, .int .i64 0, .int .i64 0, .int .i64 0, .int .i64 0, .int .i64 0, .int .i64 0, .slice none 0 0, .slice none 0 0] 31)).cell? ⟨gm, q * 10 + 8, none⟩ = some (.slice B1 zb.length e1') := (World.cell?_alloc_lt _ _ ⟨gm, _, none⟩ (by simp; omega)).trans ((World.cell?_alloc_lt w1 _ ⟨gm, _, none⟩ hgm).trans (hxc 8 _ rfl))
              have q9 : ((w1.alloc (.cells #[.int .i64 yk, .int .i64 yg, .int .i64 ys, .int .i64 yd, .int .i64 yb, .int .i64 yt, .int .i64 yc, .int .i64 yq, .slice A1 zb.length d1, .slice A2 zl.length d2] 31)).alloc (.cells #[.int .i64 0, .int .i64 0, .int .i64 0, .int .i64 0, .int .i64 0, .int .i64 0, .int .i64 0, .int .i64 0, .slice none 0 0, .slice none 0 0] 31)).cell? ⟨gm, q * 10 + 9, none⟩ = some (.slice B2 zl.length e2') := (World.cell?_alloc_lt _ _ ⟨gm, _, none⟩ (by simp; omega)).trans ((World.cell?_alloc_lt w1 _ ⟨gm, _, none⟩ hgm).trans (hxc 9 _ rfl))
              obtain ⟨W3, hW3⟩ : ∃ W3, W3 = ((w1.alloc (.cells #[.int .i64 yk, .int .i64 yg, .int .i64 ys, .int .i64 yd, .int .i64 yb, .int .i64 yt, .int .i64 yc, .int .i64 yq, .slice A1 zb.length d1, .slice A2 zl.length d2] 31)).alloc (.cells #[.int .i64 yk, .int .i64 yg, .int .i64 ys, .int .i64 yd, .int .i64 yb, .int .i64 yt, .int .i64 yc, .int .i64 yq, .slice B1 zb.length e1', .slice B2 zl.length e2'] 31)) := ⟨_, rfl⟩
              have hb3 : Below w1.heap.size w1 W3 := by rw [hW3]; exact ((Below.refl w1.heap.size w1).alloc (Nat.le_refl _) _).alloc (by simp) _
              have hsW : W3.heap.size = w1.heap.size + 2 := by rw [hW3]; simp
              have hG : Blk W3 w1.heap.size 31 (msgCells ⟨yk, yg, ys, yd, yb, yt, yc, yq, zb, zl⟩ (.slice A1 zb.length d1) (.slice A2 zl.length d2)) := by rw [hW3]; exact (Blk.new w1 _ _).alloc _
              have hWt : Blk W3 (w1.heap.size + 1) 31 (msgCells ⟨yk, yg, ys, yd, yb, yt, yc, yq, zb, zl⟩ (.slice B1 zb.length e1') (.slice B2 zl.length e2')) := by rw [hW3]; have := Blk.new (w1.alloc (.cells (msgCells ⟨yk, yg, ys, yd, yb, yt, yc, yq, zb, zl⟩ (.slice A1 zb.length d1) (.slice A2 zl.length d2)) 31)) 31 (msgCells ⟨yk, yg, ys, yd, yb, yt, yc, yq, zb, zl⟩ (.slice B1 zb.length e1') (.slice B2 zl.length e2')); rwa [World.size_alloc] at this
              have hN3 := hN2.below hb3
              have hown3 := own_below hown2 hb3
              have hz2 := hbw2.size
              have hrow3 := RowsOf.keep (S' := fun k => k < w.heap.size) RMsg.kept hrow2 (fun k hk => hb3.block k (by omega)) (fun _ g => g)
              have hbw3 := hbw2.trans (hb3.mono hz2)
              have hlit := World.ownsRow_lit (base := W3.heap.size) (e := 31) (size := 10) W3 #[] 0 (Nat.le_refl _) (by unfold maxLen; omega) rfl
              have hflat : ∀ j u, css2.flatten[j]? = some u → W3.cell? ⟨gm, j, none⟩ = some u := fun j u hu => by have := hown3.cells (g := gm) rfl j u hu; rwa [WideShapes.add_plain, Nat.zero_add] at this
              have hsrc1 : 0 < q → ∃ b off, some (⟨gm, 0, none⟩ : Addr) = some ⟨b, off, none⟩ ∧ ∀ j u, ((css2.take q).flatten)[j]? = some u → (W3.alloc (.cells #[] 31)).cell? ⟨b, off + j, none⟩ = some u := fun _ => ⟨gm, 0, rfl, fun j u hu => by
                rw [← take_flat hrow3.sizes, List.getElem?_take] at hu
                split at hu
                · rw [Nat.zero_add]; exact (World.cell?_alloc_lt W3 _ ⟨gm, _, none⟩ (by simp; omega)).trans (hflat j u hu)
                · cases hu⟩
              have hcl := hrow3.1
              have hfl := flatten_length hrow3.sizes
              have hlen1 : ((css2.take q).flatten).length = q * 10 := by rw [← take_flat hrow3.sizes, List.length_take, hfl, hcl]; omega
              have hlen2 : ((css2.drop (q + 1)).flatten).length = (ms.length - (q + 1)) * 10 := by rw [← drop_flat hrow3.sizes, List.length_drop, hfl, hcl]; omega
              have hone := hrow3.msg_one
              have hone1 : ∀ u ∈ (css2.take q).flatten, u.oneCell' = true := fun u hu => hone u (by rw [← take_flat hrow3.sizes] at hu; exact List.mem_of_mem_take hu)
              have hone2 : ∀ u ∈ (css2.drop (q + 1)).flatten, u.oneCell' = true := fun u hu => hone u (by rw [← drop_flat hrow3.sizes] at hu; exact List.mem_of_mem_drop hu)
              obtain ⟨AA, hA, hsrc2⟩ : ∃ AA : Addr, (if cm = q + 1 then some (⟨gm, 0, none⟩ : Addr) else some ⟨gm, (q + 1) * 10, none⟩) = some AA ∧ Hid (∀ w5, Below W3.heap.size W3 w5 → 0 < ms.length - (q + 1) → ∃ b off, some AA = some ⟨b, off, none⟩ ∧ ∀ j u, ((css2.drop (q + 1)).flatten)[j]? = some u → w5.cell? ⟨b, off + j, none⟩ = some u) := by
                by_cases hc : cm = q + 1
                · exact ⟨⟨gm, 0, none⟩, by simp [hc], fun w5 _ h0 => by omega⟩
                · refine ⟨⟨gm, (q + 1) * 10, none⟩, by simp [hc], fun w5 hb5 _ => ⟨gm, (q + 1) * 10, rfl, fun j u hu => ?_⟩⟩
                  rw [← drop_flat hrow3.sizes, List.getElem?_drop] at hu
                  exact (hb5.cell (p := ⟨gm, (q + 1) * 10 + j, none⟩) (by simp; omega)).trans (hflat _ u hu)
              have Hfresh : Hid (∀ w6 v6, Below W3.heap.size W3 w6 → w6.ownsRow W3.heap.size 31 10 v6 (q + (ms.length - (q + 1))) ((css2.take q).flatten ++ (css2.drop (q + 1)).flatten) → Two w room (ms.eraseIdx q) (ms.eraseIdx q) v6 w6) := Lib.hid (fun w6 v6 h1 h2 => Two.fresh hN3 hbw3 hrow3 hq h1 h2)
              have hgb := SliceOf.below (S' := F) RByte.kept hb1 hb3 (fun k h => by have := (HF.out k h).2; omega) (fun _ h => h)
              have hgl := SliceOf.below (S' := F) RVote.kept hl1 hb3 (fun k h => by have := (HF.out k h).2; omega) (fun _ h => h)
              have hwb := SliceOf.below (S' := fun k => k < w.heap.size) RByte.kept hxb hb3 (fun k h => by omega) (fun _ h => h)
              have hwl := SliceOf.below (S' := fun k => k < w.heap.size) RVote.kept hxl hb3 (fun k h => by omega) (fun _ h => h)
              have Hlit := Lib.hid hlit
              have Hsrc1 := Lib.hid hsrc1
              have Hlen1 := Lib.hid hlen1
              have Hlen2 := Lib.hid hlen2
              have Hone1 := Lib.hid hone1
              have Hone2 := Lib.hid hone2
              have HG := Lib.hid hG
              have HWt := Lib.hid hWt
              have Hgb := Lib.hid hgb
              have Hgl := Lib.hid hgl
              have Hwb := Lib.hid hwb
              have Hwl := Lib.hid hwl
              have HW3 := Lib.hid hW3
              have hzF : ∀ k, F k → k < W3.heap.size := fun k h => by have := (HF.out k h).2; omega
              have HzF := Lib.hid hzF
              have hwW : w.heap.size < W3.heap.size := by omega
              have hw13 : w1.heap.size + 1 < W3.heap.size := by omega
              clear htn hN2 hbw2 hown2 hrow2 hdis2 hxb hxl hxr hxc hb1 hl1 hb3 hW3 hG hWt hN3 hown3 hrow3 hbw3 hlit hflat hsrc1 hcl hfl hlen1 hlen2 hone hone1 hone2 hgb hgl hwb hwl hzF hz2 hsW
              go_wp2_with fail
              rw [← HW3.out]
              go_region_law (first
                | (refine step_append_src rfl _ _ 43 rfl W3.heap.size 31 (.agg msgZero.toArray) 10 112 Try.underlying43 msg_info (by rfl) (by omega) (.slice (some ⟨W3.heap.size, 0, none⟩) 0 0) 0 [] rfl (by exact Hlit.out) (some ⟨gm, 0, none⟩) q cm ((css2.take q).flatten) rfl Hlen1.out (by exact Hsrc1.out) Hone1.out (by omega) (by omega) (by simp) ?_; intro v5 w5 hown5 hg5 hat5; simp only [Nat.zero_add, List.nil_append] at hown5; obtain ⟨A5, c5, rfl⟩ := own_shape hown5; have hb5 : Below W3.heap.size W3 w5 := (((Below.refl W3.heap.size W3).alloc (Nat.le_refl _) (.cells #[] 31)).drew).grown hg5 (by simp) (fun k e => by simp [Value.ownBlock] at e; omega); have Hb5 := Lib.hid hb5; have Hown5 := Lib.hid hown5; clear hown5 hg5 hat5 hb5)
                | (refine step_append_src rfl _ _ 43 rfl W3.heap.size 31 (.agg msgZero.toArray) 10 112 Try.underlying43 msg_info (by rfl) (by omega) (.slice A5 q c5) q ((css2.take q).flatten) rfl (by exact Hown5.out) (some AA) (ms.length - (q + 1)) (cm - (q + 1)) ((css2.drop (q + 1)).flatten) rfl Hlen2.out (by exact hsrc2.out _ Hb5.out) Hone2.out (by omega) (by omega) (by have := Hb5.out.size; exact this) ?_; intro v6 w6 hown6 hg6 hat6; obtain ⟨A6, c6, rfl⟩ := own_shape hown6; have hb6 : Below W3.heap.size W3 w6 := Hb5.out.grown hg6 Hb5.out.size (fun k e => (Hown5.out.lt k e).1); have Hb6 := Lib.hid hb6; have Hown6 := Lib.hid hown6; clear hown6 hg6 hat6 hb6))
              all_goals
                have hG6 := HG.out.below Hb6.out (by omega)
                have hW6 := HWt.out.below Hb6.out (by omega)
                have hz6 := Hb6.out.size
                have r0 : w6.cell? ⟨w1.heap.size, 0, none⟩ = some (.int .i64 yk) := hG6.cell 0
                have r1 : w6.cell? ⟨w1.heap.size, 1, none⟩ = some (.int .i64 yg) := hG6.cell 1
                have r2 : w6.cell? ⟨w1.heap.size, 2, none⟩ = some (.int .i64 ys) := hG6.cell 2
                have r3 : w6.cell? ⟨w1.heap.size, 3, none⟩ = some (.int .i64 yd) := hG6.cell 3
                have r4 : w6.cell? ⟨w1.heap.size, 4, none⟩ = some (.int .i64 yb) := hG6.cell 4
                have r5 : w6.cell? ⟨w1.heap.size, 5, none⟩ = some (.int .i64 yt) := hG6.cell 5
                have r6 : w6.cell? ⟨w1.heap.size, 6, none⟩ = some (.int .i64 yc) := hG6.cell 6
                have r7 : w6.cell? ⟨w1.heap.size, 7, none⟩ = some (.int .i64 yq) := hG6.cell 7
                have r8 : w6.cell? ⟨w1.heap.size, 8, none⟩ = some (.slice A1 zb.length d1) := hG6.cell 8
                have r9 : w6.cell? ⟨w1.heap.size, 9, none⟩ = some (.slice A2 zl.length d2) := hG6.cell 9
                have s0 : w6.cell? ⟨w1.heap.size + 1, 0, none⟩ = some (.int .i64 yk) := hW6.cell 0
                have s1 : w6.cell? ⟨w1.heap.size + 1, 1, none⟩ = some (.int .i64 yg) := hW6.cell 1
                have s2 : w6.cell? ⟨w1.heap.size + 1, 2, none⟩ = some (.int .i64 ys) := hW6.cell 2
                have s3 : w6.cell? ⟨w1.heap.size + 1, 3, none⟩ = some (.int .i64 yd) := hW6.cell 3
                have s4 : w6.cell? ⟨w1.heap.size + 1, 4, none⟩ = some (.int .i64 yb) := hW6.cell 4
                have s5 : w6.cell? ⟨w1.heap.size + 1, 5, none⟩ = some (.int .i64 yt) := hW6.cell 5
                have s6 : w6.cell? ⟨w1.heap.size + 1, 6, none⟩ = some (.int .i64 yc) := hW6.cell 6
                have s7 : w6.cell? ⟨w1.heap.size + 1, 7, none⟩ = some (.int .i64 yq) := hW6.cell 7
                have s8 : w6.cell? ⟨w1.heap.size + 1, 8, none⟩ = some (.slice B1 zb.length e1') := hW6.cell 8
                have s9 : w6.cell? ⟨w1.heap.size + 1, 9, none⟩ = some (.slice B2 zl.length e2') := hW6.cell 9
                clear hG6 hW6
                go_wp2_with fail
                refine (same_any ⟨yk, yg, ys, yd, yb, yt, yc, yq, zb, zl⟩ (.slice A1 zb.length d1) (.slice A2 zl.length d2) (.slice B1 zb.length e1') (.slice B2 zl.length e2') F (fun k => k < w.heap.size) w6 (SliceOf.below RByte.kept Hgb.out Hb6.out HzF.out (fun _ h => h)) (SliceOf.below RVote.kept Hgl.out Hb6.out HzF.out (fun _ h => h)) (SliceOf.below RByte.kept Hwb.out Hb6.out (fun k h => by omega) (fun _ h => h)) (SliceOf.below RVote.kept Hwl.out Hb6.out (fun k h => by omega) (fun _ h => h)) (fun k h => Nat.lt_of_lt_of_le (HzF.out k h) hz6) (fun k h => by omega)).mono ?_
                rintro e w7 ⟨rfl, b7⟩
                have hp := (Hfresh.out w6 _ Hb6.out Hown6.out).below b7
                have Hp := Lib.hid hp
                clear b7 hp
                go_wp2_with fail
                go_meet
                exact ⟨ms.eraseIdx q, by rw [List.length_eraseIdx]; split <;> omega, Hsm.out.erase q, Hp.out⟩
            · have Hin := Lib.hid hin
              rcases Int.lt_or_le kn 0 with h0 | h0
              all_goals
                have hin2 := Hin.out
                first | (have g6 : ¬ (0 : Int) ≤ kn := by omega) | (have g6 : ¬ kn < (ms.length : Int) := by omega)
                clear hin2 hin
                go_wp2_with fail
                refine (take_no kn HN.out Hin.out).mono ?_
                rintro e w1 ⟨rfl, _, b1⟩
                have bz : Below w1.heap.size w1 ((w1.alloc (.cells #[.int .i64 0, .int .i64 0, .int .i64 0, .int .i64 0, .int .i64 0, .int .i64 0, .int .i64 0, .int .i64 0, .slice none 0 0, .slice none 0 0] 31)).alloc (.cells #[.int .i64 0, .int .i64 0, .int .i64 0, .int .i64 0, .int .i64 0, .int .i64 0, .int .i64 0, .int .i64 0, .slice none 0 0, .slice none 0 0] 31)) := ((Below.refl w1.heap.size w1).alloc (Nat.le_refl _) _).alloc (by simp) _
                have ht2 := (Ht.out.below b1).below bz
                have Ht2 := Lib.hid ht2
                clear b1 bz ht2
                simp only [msgNil]
                go_wp2_with fail
                refine (same_any msgNil (.slice none 0 0) (.slice none 0 0) (.slice none 0 0) (.slice none 0 0) (fun _ => False) (fun _ => False) _ (SliceOf.nil RByte 1 _ _) (SliceOf.nil RVote 3 _ _) (SliceOf.nil RByte 1 _ _) (SliceOf.nil RVote 3 _ _) (fun _ h => h.elim) (fun _ h => h.elim)).mono ?_
                rintro e w7 ⟨rfl, b7⟩
                have hp := Ht2.out.below b7
                have Hp := Lib.hid hp
                clear b7 hp
                go_wp2_with fail
                go_meet
                exact ⟨ms, hml, Hsm.out, Hp.out⟩
          · have e2 : (kind == 2) = false := by rw [beq_eq_false_iff_ne]; exact hk2
            have Hk2 := Lib.hid hk2
            clear hk2
            by_cases hk3 : kind = 3
            · have e3 : (kind == 3) = true := by rw [beq_iff_eq]; exact hk3
              have Hk3 := Lib.hid hk3
              clear hk3
              by_cases hin : 0 ≤ kn ∧ kn < ms.length
              · obtain ⟨q, rfl⟩ := Int.eq_ofNat_of_zero_le hin.1
                have hq : q < ms.length := by omega
                have g6 : (0 : Int) ≤ q := by omega
                have g7 : (q : Int) < ms.length := by omega
                clear hin
                obtain ⟨x, hx⟩ : ∃ x, ms[q]? = some x := ⟨ms[q], List.getElem?_eq_getElem hq⟩
                have hxs := Hsm.out x (List.mem_of_getElem? hx)
                obtain ⟨gm, rfl⟩ : ∃ gm, Am = some ⟨gm, 0, none⟩ := by
                  rcases Hown.out.2 with ⟨_, hz⟩ | ⟨g, cap, cur, e, _⟩
                  · omega
                  · injection e with e1 _ _; exact ⟨g, e1⟩
                by_cases hroom : (ms.length : Int) < room
                · have Hx := Lib.hid hx
                  have Hxs := Lib.hid hxs
                  clear hx hxs
                  go_wp2_with fail
                  refine (double_at q HN.out Hx.out (by omega) Hsm.out).mono ?_
                  rintro e w1 ⟨rfl, htn⟩
                  rw [decide_eq_true hroom]
                  rw [if_pos hroom] at htn
                  have ht1 := Two.turned HN.out Hbw.out Hown.out Hrow.out Hdis.out htn
                  obtain ⟨F2, css2, hN2, hbw2, hown2, hrow2, hdis2⟩ := ht1
                  obtain ⟨B1, n1, e1', B2, n2, e2', hn1, hn2, hxb, hxl, hxr, hxc⟩ := row_cells hown2 hrow2 Hx.out
                  obtain ⟨yk, yg, ys, yd, yb, yt, yc, yq, zb, zl⟩ := x
                  simp only at hn1 hn2 hxb hxl hxr hxc
                  subst hn1 hn2
                  have q0 : w1.cell? ⟨gm, q * 10, none⟩ = some (.int .i64 yk) := hxc 0 _ rfl
                  have q1 : w1.cell? ⟨gm, q * 10 + 1, none⟩ = some (.int .i64 yg) := hxc 1 _ rfl
                  have q2 : w1.cell? ⟨gm, q * 10 + 2, none⟩ = some (.int .i64 ys) := hxc 2 _ rfl
                  have q3 : w1.cell? ⟨gm, q * 10 + 3, none⟩ = some (.int .i64 yd) := hxc 3 _ rfl
                  have q4 : w1.cell? ⟨gm, q * 10 + 4, none⟩ = some (.int .i64 yb) := hxc 4 _ rfl
                  have q5 : w1.cell? ⟨gm, q * 10 + 5, none⟩ = some (.int .i64 yt) := hxc 5 _ rfl
                  have q6 : w1.cell? ⟨gm, q * 10 + 6, none⟩ = some (.int .i64 yc) := hxc 6 _ rfl
                  have q7 : w1.cell? ⟨gm, q * 10 + 7, none⟩ = some (.int .i64 yq) := hxc 7 _ rfl
                  have q8 : w1.cell? ⟨gm, q * 10 + 8, none⟩ = some (.slice B1 zb.length e1') := hxc 8 _ rfl
                  have q9 : w1.cell? ⟨gm, q * 10 + 9, none⟩ = some (.slice B2 zl.length e2') := hxc 9 _ rfl
                  have Hpush := Lib.hid (fun v5 w5 => @Two.append w w1 w5 F2 css2 room (ms ++ [⟨yk, yg, ys, yd, yb, yt, yc, yq, zb, zl⟩]) ms (.slice (some ⟨gm, 0, none⟩) ms.length cm) v5 ⟨yk, yg, ys, yd, yb, yt, yc, yq, zb, zl⟩ (msgCells ⟨yk, yg, ys, yd, yb, yt, yc, yq, zb, zl⟩ (.slice B1 zb.length e1') (.slice B2 zl.length e2')).toList (.cells (msgCells ⟨yk, yg, ys, yd, yb, yt, yc, yq, zb, zl⟩ (.slice B1 zb.length e1') (.slice B2 zl.length e2')) 31) hN2 hbw2 hown2 hrow2 hdis2 hxr rfl)
                  have Hown2 := Lib.hid hown2
                  have Hz2 : Hid (w.heap.size ≤ w1.heap.size) := Lib.hid hbw2.size
                  clear htn hN2 hbw2 hown2 hrow2 hdis2 hxb hxl hxr hxc
                  go_wp2_with (at_builtin; refine wpList_append_src rfl _ _ 43 rfl w.heap.size 31 (.agg msgZero.toArray) 10 112 Try.underlying43 msg_info (by rfl) (by omega) (.slice (some ⟨gm, 0, none⟩) ms.length cm) ms.length css2.flatten rfl (by exact Hown2.out.alloc _) (some ⟨w1.heap.size, 0, none⟩) 1 1 (msgCells ⟨yk, yg, ys, yd, yb, yt, yc, yq, zb, zl⟩ (.slice B1 zb.length e1') (.slice B2 zl.length e2')).toList rfl rfl (fun _ => ⟨w1.heap.size, 0, rfl, fun j u hj => by have := World.news_of_block (w := w1.alloc _) (heap_alloc_new w1 (.cells (msgCells ⟨yk, yg, ys, yd, yb, yt, yc, yq, zb, zl⟩ (.slice B1 zb.length e1') (.slice B2 zl.length e2')) 31)) j u hj; rwa [WideShapes.add_plain] at this⟩) (by intro u hu; simp at hu; rcases hu with rfl | rfl | rfl | rfl | rfl | rfl | rfl | rfl | rfl | rfl <;> rfl) (by omega) (by omega) (by have := Hz2.out; simp; omega) ?_; intro v5 w5 hown5 hg5 hat5)
                  have hp := Hpush.out v5 w5 hown5 hg5 hat5
                  have Hp := Lib.hid hp
                  obtain ⟨A9, c9, rfl⟩ := own_shape hown5
                  clear hp hown5 hg5 hat5
                  go_wp2_with fail
                  go_meet
                  exact ⟨ms ++ [⟨yk, yg, ys, yd, yb, yt, yc, yq, zb, zl⟩], by simp; omega, Hsm.out.snoc Hxs.out, Hp.out⟩
                · have Hx := Lib.hid hx
                  clear hx hxs
                  go_wp2_with fail
                  refine (double_at q HN.out Hx.out (by omega) Hsm.out).mono ?_
                  rintro e w1 ⟨rfl, htn⟩
                  have hroom2 : ¬ (ms.length : Int) < room := by omega
                  rw [decide_eq_false hroom2]
                  rw [if_neg hroom2] at htn
                  have ht1 := Two.turned HN.out Hbw.out Hown.out Hrow.out Hdis.out htn
                  have Ht1 := Lib.hid ht1
                  clear htn ht1
                  go_wp2_with fail
                  go_meet
                  exact ⟨ms, hml, Hsm.out, Ht1.out⟩
              · have Hin := Lib.hid hin
                rcases Int.lt_or_le kn 0 with h0 | h0
                all_goals
                  have hin2 := Hin.out
                  first | (have g6 : ¬ (0 : Int) ≤ kn := by omega) | (have g6 : ¬ kn < (ms.length : Int) := by omega)
                  clear hin2 hin
                  go_wp2_with fail
                  refine (double_no kn HN.out Hin.out).mono ?_
                  rintro e w1 ⟨rfl, rfl⟩
                  go_wp2_with fail
                  go_meet
                  exact ⟨ms, hml, Hsm.out, Ht.out⟩
            · have e3 : (kind == 3) = false := by rw [beq_eq_false_iff_ne]; exact hk3
              have Hk3 := Lib.hid hk3
              clear hk3
              go_wp2_with fail
              go_meet
              exact ⟨ms, hml, Hsm.out, Ht.out⟩
      case rest =>
        obtain ⟨ns, hnl, hns, ht2⟩ := hcut
        clear Hcc Hb Hl Hsm Ht Hbb c0 c1 hml
        have ht3 := ht2
        obtain ⟨F, css, hN, hb2, hown, hrow, hdis⟩ := ht3
        obtain ⟨Am, cm, rfl⟩ := own_shape hown
        have Ht2 := Lib.hid ht2
        have HN := Lib.hid hN
        have Hns := Lib.hid hns
        clear ht2 hN hb2 hown hrow hdis hns
        go_wp2_with fail
        refine (all_any HN.out Hns.out (by omega)).mono ?_
        rintro e w2 ⟨v2, rfl, hv2, b2⟩
        obtain ⟨A5, c5, rfl⟩ := slice_shape hv2
        have ht4 := Ht2.out.below b2
        have hv3 := SliceOf.below (S' := fun k => k < w2.heap.size) RMsg.kept hv2 (Below.refl w2.heap.size w2) (fun k h => h.2) (fun k h => h.2)
        have Ht4 := Lib.hid ht4
        have Hv3 := Lib.hid hv3
        have hnmax : ns.length ≤ 100 := by omega
        clear ht4 hv2 hv3 b2 HN Ht2
        go_wp2_with fail
        obtain ⟨F, css, hN, hb2, hown, hrow, hdis⟩ := Ht4.out
        refine (len_any hN).mono ?_
        rintro e w3 ⟨rfl, rfl⟩
        have hm3 : SliceOf RMsg 10 w2 (fun k => k < w2.heap.size) (.slice Am ns.length cm) ns := Owns.slice RMsg.kept (⟨css, hrow, hown⟩ : Owns RMsg 10 31 w2 w.heap.size (fun k => k < w.heap.size) _ ns) (fun k h => by have := hb2.size; omega) (fun k e => (hown.lt k e).2)
        have Hm3 := Lib.hid hm3
        clear hN hb2 hown hrow hdis hm3
        go_wp2_with fail
        go_loopw [17] (fun j wr => ∃ j' : Nat, j' ≤ ns.length ∧ j = .int .i64 j' ∧ Below w2.heap.size w2 wr) (fun j _ => ns.length - (intOf j).toNat)
        case atStart => exact ⟨0, Nat.zero_le _, rfl, Below.refl _ _⟩
        case round =>
          obtain ⟨j, hj, rfl, hbj⟩ := hrel
          by_cases hlj : j < ns.length
          · obtain ⟨x, hx⟩ : ∃ x, ns[j]? = some x := ⟨ns[j], List.getElem?_eq_getElem hlj⟩
            have g4 : (j : Int) < ns.length := by omega
            have g5 : (0 : Int) ≤ j := by omega
            have hzj := hbj.size
            obtain ⟨g1, o1, rfl, _, cs1, ⟨bv1, lv1, rfl, hb1, hl1⟩, _, hca⟩ := (SliceOf.below (S' := fun k => k < w2.heap.size) RMsg.kept Hv3.out hbj (fun k h => h) (fun _ h => h)).at hx
            obtain ⟨g2, o2, rfl, _, cs2, ⟨bv2, lv2, rfl, hb2, hl2⟩, _, hcb⟩ := (SliceOf.below (S' := fun k => k < w2.heap.size) RMsg.kept Hm3.out hbj (fun k h => h) (fun _ h => h)).at hx
            obtain ⟨xk, xg, xs, xd, xb, xt, xc, xq, yb, yl⟩ := x
            simp only at hb1 hl1 hca hb2 hl2 hcb
            obtain ⟨A1, d1, rfl⟩ := slice_shape hb1
            obtain ⟨A2, d2, rfl⟩ := slice_shape hl1
            obtain ⟨A3, d3, rfl⟩ := slice_shape hb2
            obtain ⟨A4, d4, rfl⟩ := slice_shape hl2
            have haveall : True := trivial
            have p0 : wr.cell? ⟨g1, o1 + j * 10, none⟩ = some (.int .i64 xk) := by simpa [Nat.add_assoc] using hca 0 _ rfl
            have p1 : wr.cell? ⟨g1, o1 + j * 10 + 1, none⟩ = some (.int .i64 xg) := by simpa [Nat.add_assoc] using hca 1 _ rfl
            have p2 : wr.cell? ⟨g1, o1 + j * 10 + 2, none⟩ = some (.int .i64 xs) := by simpa [Nat.add_assoc] using hca 2 _ rfl
            have p3 : wr.cell? ⟨g1, o1 + j * 10 + 3, none⟩ = some (.int .i64 xd) := by simpa [Nat.add_assoc] using hca 3 _ rfl
            have p4 : wr.cell? ⟨g1, o1 + j * 10 + 4, none⟩ = some (.int .i64 xb) := by simpa [Nat.add_assoc] using hca 4 _ rfl
            have p5 : wr.cell? ⟨g1, o1 + j * 10 + 5, none⟩ = some (.int .i64 xt) := by simpa [Nat.add_assoc] using hca 5 _ rfl
            have p6 : wr.cell? ⟨g1, o1 + j * 10 + 6, none⟩ = some (.int .i64 xc) := by simpa [Nat.add_assoc] using hca 6 _ rfl
            have p7 : wr.cell? ⟨g1, o1 + j * 10 + 7, none⟩ = some (.int .i64 xq) := by simpa [Nat.add_assoc] using hca 7 _ rfl
            have p8 : wr.cell? ⟨g1, o1 + j * 10 + 8, none⟩ = some (.slice A1 yb.length d1) := by simpa [Nat.add_assoc] using hca 8 _ rfl
            have p9 : wr.cell? ⟨g1, o1 + j * 10 + 9, none⟩ = some (.slice A2 yl.length d2) := by simpa [Nat.add_assoc] using hca 9 _ rfl
            have q0 : wr.cell? ⟨g2, o2 + j * 10, none⟩ = some (.int .i64 xk) := by simpa [Nat.add_assoc] using hcb 0 _ rfl
            have q1 : wr.cell? ⟨g2, o2 + j * 10 + 1, none⟩ = some (.int .i64 xg) := by simpa [Nat.add_assoc] using hcb 1 _ rfl
            have q2 : wr.cell? ⟨g2, o2 + j * 10 + 2, none⟩ = some (.int .i64 xs) := by simpa [Nat.add_assoc] using hcb 2 _ rfl
            have q3 : wr.cell? ⟨g2, o2 + j * 10 + 3, none⟩ = some (.int .i64 xd) := by simpa [Nat.add_assoc] using hcb 3 _ rfl
            have q4 : wr.cell? ⟨g2, o2 + j * 10 + 4, none⟩ = some (.int .i64 xb) := by simpa [Nat.add_assoc] using hcb 4 _ rfl
            have q5 : wr.cell? ⟨g2, o2 + j * 10 + 5, none⟩ = some (.int .i64 xt) := by simpa [Nat.add_assoc] using hcb 5 _ rfl
            have q6 : wr.cell? ⟨g2, o2 + j * 10 + 6, none⟩ = some (.int .i64 xc) := by simpa [Nat.add_assoc] using hcb 6 _ rfl
            have q7 : wr.cell? ⟨g2, o2 + j * 10 + 7, none⟩ = some (.int .i64 xq) := by simpa [Nat.add_assoc] using hcb 7 _ rfl
            have q8 : wr.cell? ⟨g2, o2 + j * 10 + 8, none⟩ = some (.slice A3 yb.length d3) := by simpa [Nat.add_assoc] using hcb 8 _ rfl
            have q9 : wr.cell? ⟨g2, o2 + j * 10 + 9, none⟩ = some (.slice A4 yl.length d4) := by simpa [Nat.add_assoc] using hcb 9 _ rfl
            have Hb1 := Lib.hid hb1
            have Hl1 := Lib.hid hl1
            have Hb2 := Lib.hid hb2
            have Hl2 := Lib.hid hl2
            have Hbj := Lib.hid hbj
            clear hb1 hl1 hb2 hl2 hca hcb hx hbj haveall
            go_wp2_with fail
            go_region_law (first
              | (go_simp; go_at_call 17; refine (same_any ⟨xk, xg, xs, xd, xb, xt, xc, xq, yb, yl⟩ (.slice A1 yb.length d1) (.slice A2 yl.length d2) (.slice A3 yb.length d3) (.slice A4 yl.length d4) (fun k => k < w2.heap.size) (fun k => k < w2.heap.size) _ (by exact SliceOf.heap RByte.kept Hb1.out rfl) (by exact SliceOf.heap RVote.kept Hl1.out rfl) (by exact SliceOf.heap RByte.kept Hb2.out rfl) (by exact SliceOf.heap RVote.kept Hl2.out rfl) (fun k h => by exact Nat.lt_of_lt_of_le h hzj) (fun k h => by exact Nat.lt_of_lt_of_le h hzj)).mono ?_; rintro e w5 ⟨rfl, hb5⟩; have hb6 : Below wr.heap.size wr w5 := ⟨hb5.os, hb5.tape, hb5.output, hb5.size, hb5.block⟩; have Hb6 := Lib.hid hb6; clear hb5 hb6))
            all_goals
              go_wp2_with fail
              go_roundw
              case rel => exact ⟨j + 1, by omega, by go_num, Hbj.out.trans (Hb6.out.mono hzj)⟩
              case measure => simp [intOf]; omega
          · have g4 : ¬ (j : Int) < ns.length := by omega
            have hfin : PlayIn w room (.slice Am ns.length cm) wr := ⟨ns, hnl, Hns.out, Ht4.out.below hbj⟩
            have Hfin := Lib.hid hfin
            clear hbj hfin
            go_wp2_with fail
            go_roundw
            case rel => exact ⟨i + 1, by omega, by omega, by go_num, Hfin.out⟩
            case measure => simp [intOf]; omega
    · obtain ⟨ms, hml, hsm, ht⟩ := hm
      have hend : SameEnd w (.returned (.bool true)) wr := by obtain ⟨_, _, _, h, _⟩ := ht; exact ⟨rfl, h⟩
      have Hend := Lib.hid hend
      have Hhk := Lib.hid hlt
      clear hend ht hsm hlt
      rcases Nat.lt_or_ge i l.length with hk1 | hk1
      all_goals
        have hk3 := Hhk.out
        try have hk4 : ¬ (i : Int) < 90 := by omega
        try have hk4 : ¬ (i : Int) < l.length := by omega
        clear hk3
        go_wp2_with fail
        go_ret
        exact Hend.out
end Go.Proofs.Ytelgnemlnhcdmaa
