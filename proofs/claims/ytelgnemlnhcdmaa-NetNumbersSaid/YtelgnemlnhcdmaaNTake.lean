/- Take. -/
import Derived.Test.YtelgnemlnhcdmaaNNet2
namespace Go.Proofs.Ytelgnemlnhcdmaa
open Go.RowKit

def msgNil : MsgT := ⟨0, 0, 0, 0, 0, 0, 0, 0, [], []⟩
set_option maxHeartbeats 1000000 in
theorem take_no {w : World} {base : Nat} {F : Nat → Prop} {D : Nat} {room : Int} {ms : List MsgT} (i : Int) (h : NetAt w base F D room ms) (hi : ¬ (0 ≤ i ∧ i < ms.length)) :
    Calls Try.prog 10 #[.pointer (some ⟨D, 0, none⟩), .int .i64 i] w fun e w' => e = .returned (.tuple #[.agg (msgCells msgNil (.slice none 0 0) (.slice none 0 0)), .bool false]) ∧ NetAt w' base F D room ms ∧ Below w.heap.size w w' := by
  obtain ⟨W0, hW0⟩ : ∃ W0, W0 = w.alloc (.cells msgZero.toArray 31) := ⟨_, rfl⟩
  have hbW : Below w.heap.size w W0 := by rw [hW0]; exact (Below.refl w.heap.size w).alloc (Nat.le_refl _) _
  have hT : Blk W0 w.heap.size 31 msgZero.toArray := by rw [hW0]; exact Blk.new w _ _
  have hsz : W0.heap.size = w.heap.size + 1 := by rw [hW0]; simp
  have hn := h.below hbW
  obtain ⟨A, cap, k0, k1, _, _⟩ := hn.slice
  have k1' : (w.alloc (.cells #[.int .i64 0, .int .i64 0, .int .i64 0, .int .i64 0, .int .i64 0, .int .i64 0, .int .i64 0, .int .i64 0, .slice none 0 0, .slice none 0 0] 31)).cell? ⟨D, 1, none⟩ = some (.slice A ms.length cap) := by rw [hW0] at k1; exact k1
  have HW0 := Lib.hid hW0
  have Hn := Lib.hid hn
  have Hb := Lib.hid hbW
  have Hcs := Lib.hid hT
  clear h hn hbW hT hW0
  have hres : Try.f10.results = #[.cell 4 31, .tmp 5] := rfl
  rcases Int.lt_or_le i 0 with h0 | h0
  · clear hi
    go_enter Try.func10, Try.ntmps10
    go_wp2_with fail
    try simp only [Exit.inBlock, Exit.then]
    rw [← HW0.out]
    refine bodyPost_ret (results_cell_tmp_row hres _ W0 w.heap.size 31 msgZero.toArray (0, 0) _ (.bool false) rfl rfl Hcs.out Try.underlying31 rfl (by kernel_rfl)) rfl ⟨rfl, Hn.out, Hb.out⟩
  · have h1 : ¬ i < (ms.length : Int) := by omega
    have h2 : ¬ i < 0 := by omega
    clear hi
    go_enter Try.func10, Try.ntmps10
    go_wp2_with fail
    try simp only [Exit.inBlock, Exit.then]
    rw [← HW0.out]
    refine bodyPost_ret (results_cell_tmp_row hres _ W0 w.heap.size 31 msgZero.toArray (0, 0) _ (.bool false) rfl rfl Hcs.out Try.underlying31 rfl (by kernel_rfl)) rfl ⟨rfl, Hn.out, Hb.out⟩

set_option maxHeartbeats 1000000 in
theorem take_at {w : World} {base : Nat} {F : Nat → Prop} {D : Nat} {room : Int} {ms : List MsgT} {x : MsgT} (k : Nat) (h : NetAt w base F D room ms) (hx : ms[k]? = some x) (hml : ms.length ≤ 1000) :
    Calls Try.prog 10 #[.pointer (some ⟨D, 0, none⟩), .int .i64 k] w fun e w' => (∃ bv lv, e = .returned (.tuple #[.agg (msgCells x bv lv), .bool true]) ∧ BytesAt w' F bv x.b ∧ SliceOf RVote 3 w' F lv x.l) ∧ NetTurned w base F D room (ms.eraseIdx k) w' := by
  obtain ⟨W0, hW0⟩ : ∃ W0, W0 = w.alloc (.cells msgZero.toArray 31) := ⟨_, rfl⟩
  have hbW : Below w.heap.size w W0 := by rw [hW0]; exact (Below.refl w.heap.size w).alloc (Nat.le_refl _) _
  have hT : Blk W0 w.heap.size 31 msgZero.toArray := by rw [hW0]; exact Blk.new w _ _
  have hsz : W0.heap.size = w.heap.size + 1 := by rw [hW0]; simp
  have hk : k < ms.length := (List.getElem?_eq_some_iff.1 hx).1
  have hwlt := h.lt
  obtain ⟨v, S, d1, ⟨css, hrow, hown⟩, d3, d4, d5, d6, d7, d8⟩ := h.below hbW
  have ho2 := hown.2
  rcases ho2 with ⟨_, hz⟩ | ⟨g, cap, cur, rfl, _, hgb, hnc, hcm, _⟩
  · omega
  have hs : SliceOf RMsg 10 W0 F (.slice (some ⟨g, 0, none⟩) ms.length cap) ms := Owns.slice RMsg.kept ⟨css, hrow, hown⟩ d4 d5
  obtain ⟨gb, off, he, hgS, cs, ⟨bv, lv, rfl, hb, hl⟩, _, hcc⟩ := hs.at hx
  injection he with he
  injection he with he1 he2 _
  subst he1 he2
  obtain ⟨mk, mg, ms', md, mb, mt, mc, mq, b, l⟩ := x
  simp only at hb hl hcc
  obtain ⟨Ab, cb', rfl⟩ := slice_shape hb
  obtain ⟨Al, cl', rfl⟩ := slice_shape hl
  have hbS : RMsg W0 S (msgCells ⟨mk, mg, ms', md, mb, mt, mc, mq, b, l⟩ (.slice Ab b.length cb') (.slice Al l.length cl')).toList ⟨mk, mg, ms', md, mb, mt, mc, mq, b, l⟩ := by
    have hkc : k < css.length := by rw [hrow.1]; exact hk
    obtain ⟨_, h2⟩ := hrow.2 k css[k] _ (List.getElem?_eq_getElem hkc) hx
    obtain ⟨bv, lv, e, h3, h4⟩ := h2
    have hfl : ∀ j u, css[k][j]? = some u → W0.cell? ⟨g, k * 10 + j, none⟩ = some u := fun j u hu => by
      have := hown.cells (g := g) rfl _ u (flatten_get hrow.sizes k j _ u (List.getElem?_eq_getElem hkc) hu)
      rwa [WideShapes.add_plain, Nat.zero_add] at this
    rw [e] at hfl
    have e8 := hfl 8 bv rfl
    have e9 := hfl 9 lv rfl
    have f8 := hcc 8 _ rfl
    have f9 := hcc 9 _ rfl
    rw [Nat.zero_add] at f8 f9
    rw [e8] at f8
    rw [e9] at f9
    injection f8 with f8
    injection f9 with f9
    subst f8 f9
    exact ⟨_, _, rfl, h3, h4⟩
  have hDlt := d8 D d3
  have hglt := d8 g (d5 g rfl)
  have hbase := hwlt.2 D hwlt.1
  have hgw := hwlt.2 g (d5 g rfl)
  have hgD : g ≠ D := own_apart hown d1 (by decide) rfl
  have kD : (w.alloc (.cells #[.int .i64 0, .int .i64 0, .int .i64 0, .int .i64 0, .int .i64 0, .int .i64 0, .int .i64 0, .int .i64 0, .slice none 0 0, .slice none 0 0] 31)).cell? ⟨D, 1, none⟩ = some (.slice (some ⟨g, 0, none⟩) ms.length cap) := by have := d1.cell 1; rw [hW0] at this; exact this
  have p0 : (w.alloc (.cells #[.int .i64 0, .int .i64 0, .int .i64 0, .int .i64 0, .int .i64 0, .int .i64 0, .int .i64 0, .int .i64 0, .slice none 0 0, .slice none 0 0] 31)).cell? ⟨g, k * 10, none⟩ = some (.int .i64 mk) := by have := hcc 0 _ rfl; rw [hW0] at this; simpa using this
  have p1 : (w.alloc (.cells #[.int .i64 0, .int .i64 0, .int .i64 0, .int .i64 0, .int .i64 0, .int .i64 0, .int .i64 0, .int .i64 0, .slice none 0 0, .slice none 0 0] 31)).cell? ⟨g, k * 10 + 1, none⟩ = some (.int .i64 mg) := by have := hcc 1 _ rfl; rw [hW0] at this; simpa using this
  have p2 : (w.alloc (.cells #[.int .i64 0, .int .i64 0, .int .i64 0, .int .i64 0, .int .i64 0, .int .i64 0, .int .i64 0, .int .i64 0, .slice none 0 0, .slice none 0 0] 31)).cell? ⟨g, k * 10 + 2, none⟩ = some (.int .i64 ms') := by have := hcc 2 _ rfl; rw [hW0] at this; simpa using this
  have p3 : (w.alloc (.cells #[.int .i64 0, .int .i64 0, .int .i64 0, .int .i64 0, .int .i64 0, .int .i64 0, .int .i64 0, .int .i64 0, .slice none 0 0, .slice none 0 0] 31)).cell? ⟨g, k * 10 + 3, none⟩ = some (.int .i64 md) := by have := hcc 3 _ rfl; rw [hW0] at this; simpa using this
  have p4 : (w.alloc (.cells #[.int .i64 0, .int .i64 0, .int .i64 0, .int .i64 0, .int .i64 0, .int .i64 0, .int .i64 0, .int .i64 0, .slice none 0 0, .slice none 0 0] 31)).cell? ⟨g, k * 10 + 4, none⟩ = some (.int .i64 mb) := by have := hcc 4 _ rfl; rw [hW0] at this; simpa using this
  have p5 : (w.alloc (.cells #[.int .i64 0, .int .i64 0, .int .i64 0, .int .i64 0, .int .i64 0, .int .i64 0, .int .i64 0, .int .i64 0, .slice none 0 0, .slice none 0 0] 31)).cell? ⟨g, k * 10 + 5, none⟩ = some (.int .i64 mt) := by have := hcc 5 _ rfl; rw [hW0] at this; simpa using this
  have p6 : (w.alloc (.cells #[.int .i64 0, .int .i64 0, .int .i64 0, .int .i64 0, .int .i64 0, .int .i64 0, .int .i64 0, .int .i64 0, .slice none 0 0, .slice none 0 0] 31)).cell? ⟨g, k * 10 + 6, none⟩ = some (.int .i64 mc) := by have := hcc 6 _ rfl; rw [hW0] at this; simpa using this
  have p7 : (w.alloc (.cells #[.int .i64 0, .int .i64 0, .int .i64 0, .int .i64 0, .int .i64 0, .int .i64 0, .int .i64 0, .int .i64 0, .slice none 0 0, .slice none 0 0] 31)).cell? ⟨g, k * 10 + 7, none⟩ = some (.int .i64 mq) := by have := hcc 7 _ rfl; rw [hW0] at this; simpa using this
  have p8 : (w.alloc (.cells #[.int .i64 0, .int .i64 0, .int .i64 0, .int .i64 0, .int .i64 0, .int .i64 0, .int .i64 0, .int .i64 0, .slice none 0 0, .slice none 0 0] 31)).cell? ⟨g, k * 10 + 8, none⟩ = some (.slice Ab b.length cb') := by have := hcc 8 _ rfl; rw [hW0] at this; simpa using this
  have p9 : (w.alloc (.cells #[.int .i64 0, .int .i64 0, .int .i64 0, .int .i64 0, .int .i64 0, .int .i64 0, .int .i64 0, .int .i64 0, .slice none 0 0, .slice none 0 0] 31)).cell? ⟨g, k * 10 + 9, none⟩ = some (.slice Al l.length cl') := by have := hcc 9 _ rfl; rw [hW0] at this; simpa using this
  obtain ⟨W1, hW1⟩ : ∃ W1, W1 = (w.alloc (.cells #[.int .i64 0, .int .i64 0, .int .i64 0, .int .i64 0, .int .i64 0, .int .i64 0, .int .i64 0, .int .i64 0, .slice none 0 0, .slice none 0 0] 31)).alloc (.cells #[.int .i64 mk, .int .i64 mg, .int .i64 ms', .int .i64 md, .int .i64 mb, .int .i64 mt, .int .i64 mc, .int .i64 mq, .slice Ab b.length cb', .slice Al l.length cl'] 31) := ⟨_, rfl⟩
  have hW1' : W1 = W0.alloc (.cells #[.int .i64 mk, .int .i64 mg, .int .i64 ms', .int .i64 md, .int .i64 mb, .int .i64 mt, .int .i64 mc, .int .i64 mq, .slice Ab b.length cb', .slice Al l.length cl'] 31) := by rw [hW1, hW0]
  have hb1 : Below W0.heap.size W0 W1 := by rw [hW1']; exact (Below.refl _ _).alloc (Nat.le_refl _) _
  have hT6 : Blk W1 (w.heap.size + 1) 31 (msgCells ⟨mk, mg, ms', md, mb, mt, mc, mq, b, l⟩ (.slice Ab b.length cb') (.slice Al l.length cl')) := by rw [hW1', ← hsz]; exact Blk.new W0 _ _
  have hT4 : Blk W1 w.heap.size 31 msgZero.toArray := hT.below hb1 (by omega)
  have hz1 : W1.heap.size = w.heap.size + 2 := by rw [hW1']; simp [hsz]
  have kD1 : W1.cell? ⟨D, 1, none⟩ = some (.slice (some ⟨g, 0, none⟩) ms.length cap) := (d1.below hb1 hDlt.2).cell 1
  have hk1 : (0 : Int) ≤ k := by omega
  have hk2 : ¬ (k : Int) < 0 := by omega
  have hk3 : (k : Int) < ms.length := by omega
  have hdel := delete_any base g cap ms.length k css W1 (own_below hown hb1) hrow.1 hrow.sizes hrow.msg_one hk (by omega)
  have Hdel := Lib.hid hdel
  have HW1 := Lib.hid hW1
  have Hcore : Hid (∀ w2 WF : World, w2.ownsRow base 31 10 (.slice (some ⟨g, 0, none⟩) (ms.length - 1) cap) (ms.length - 1) (css.eraseIdx k).flatten → Touch (fun k => k = g) W1 w2 → Touch (fun k => k = w.heap.size) (w2.setCell ⟨D, 1, none⟩ (.slice (some ⟨g, 0, none⟩) (ms.length - 1) cap)) WF →
      NetTurned w base F D room (ms.eraseIdx k) WF ∧ BytesAt WF F (.slice Ab b.length cb') b ∧ SliceOf RVote 3 WF F (.slice Al l.length cl') l) := by
    intro w2 WF ho ht htF
    have ht3 : Touch (fun k => k = D) w2 (w2.setCell ⟨D, 1, none⟩ (.slice (some ⟨g, 0, none⟩) (ms.length - 1) cap)) := Touch.setCell w2 _ (fun _ => rfl)
    have hz2 := ht.size
    have hz3 := ht3.size
    have hzF := htF.size
    have htall : Touch (fun k => k = g ∨ k = D ∨ k = w.heap.size) W0 WF :=
      (((Touch.of_below hb1 _).trans (ht.mono (fun _ _ e => .inl e)) (fun _ _ e => e)).trans (ht3.mono (fun _ _ e => .inr (.inl e))) (fun _ _ e => e)).trans (htF.mono (fun _ _ e => .inr (.inr e))) (fun _ _ e => e)
    have hSk : ∀ q, S q → WF.heap[q]? = W0.heap[q]? := fun q hq => htall.block q (d8 q (d4 q hq)).2 (fun e => by
      rcases e with e | e | e
      · subst e; exact d7 q rfl hq
      · subst e; exact d6 hq
      · have := (hwlt.2 q (d4 q hq)).2; omega)
    have dF : Blk WF D 45 #[.int .i64 room, .slice (some ⟨g, 0, none⟩) (ms.length - 1) cap] := by
      have := ((d1.below hb1 hDlt.2).touch ht (fun e => hgD e.symm)).set 1 (.slice (some ⟨g, 0, none⟩) (ms.length - 1) cap)
      have h2 := this.touch htF (by omega)
      simpa using h2
    have hoF := own_touch (own_touch ho ht3 (fun k e e' => by simp [Value.ownBlock] at e; omega)) htF (fun k e e' => by simp [Value.ownBlock] at e; omega)
    obtain ⟨bv, lv, e, h3, h4⟩ := hbS
    injection e with _ e; injection e with _ e; injection e with _ e; injection e with _ e; injection e with _ e; injection e with _ e; injection e with _ e; injection e with _ e; injection e with e8 e; injection e with e9 e
    subst e8 e9
    refine ⟨⟨F, ⟨_, S, dF, ⟨css.eraseIdx k, RowsOf.keep RMsg.kept (hrow.erase k) hSk (fun _ g => g), by rw [List.length_eraseIdx, if_pos hk]; exact hoF⟩, d3, d4, fun q e => d5 q e, d6, fun q e => d7 q e, fun q hq => ⟨(d8 q hq).1, by have := (d8 q hq).2; have := htall.size; omega⟩⟩, fun _ e => .inl e, ?_⟩, SliceOf.keep RByte.kept h3 hSk d4, SliceOf.keep RVote.kept h4 hSk d4⟩
    refine ((Touch.of_below hbW _).trans htall (fun _ _ e => e)).mono (fun q hq e => ?_)
    rcases e with e | e | e
    · subst e; exact d5 q rfl
    · subst e; exact d3
    · omega
  have HT6 := Lib.hid hT6
  have HT4 := Lib.hid hT4
  have HD1 := Lib.hid (d1.below hb1 hDlt.2)
  have hzw : w.heap.size + 2 = W1.heap.size := hz1.symm
  clear hdel hW0 hW1 hW1' hb1 hT6 hT4 hbS hcc hb hl hs hown hrow d1 d3 d4 d5 d6 d7 d8 h hx hT hbW hwlt hglt hDlt hcm hgb hnc
  have hres : Try.f10.results = #[.cell 4 31, .tmp 5] := rfl
  go_enter Try.func10, Try.ntmps10
  go_wp2_with fail
  rw [← HW1.out]
  refine Hdel.out.mono ?_
  rintro e w2 ⟨rfl, ho, ht⟩
  have hz2 := ht.size
  have hT62 := HT6.out.touch ht (by omega)
  have hT42 := HT4.out.touch ht (by omega)
  have hD2 := HD1.out.touch ht (fun e => hgD e.symm)
  have c1 : w2.cell? ⟨D, 1, none⟩ = some (.slice (some ⟨g, 0, none⟩) ms.length cap) := hD2.cell 1
  have f1 : w2.frozen? ⟨D, 1, none⟩ = false := hD2.frozen 1
  have hT6 := hT62.other (p := ⟨D, 1, none⟩) (by simp; omega) (.slice (some ⟨g, 0, none⟩) (ms.length - 1) cap)
  have hT4 := hT42.other (p := ⟨D, 1, none⟩) (by simp; omega) (.slice (some ⟨g, 0, none⟩) (ms.length - 1) cap)
  have t0 : (w2.setCell ⟨D, 1, none⟩ (.slice (some ⟨g, 0, none⟩) (ms.length - 1) cap)).cell? ⟨w.heap.size + 1, 0, none⟩ = some (.int .i64 mk) := hT6.cell 0
  have t1 : (w2.setCell ⟨D, 1, none⟩ (.slice (some ⟨g, 0, none⟩) (ms.length - 1) cap)).cell? ⟨w.heap.size + 1, 1, none⟩ = some (.int .i64 mg) := hT6.cell 1
  have t2 : (w2.setCell ⟨D, 1, none⟩ (.slice (some ⟨g, 0, none⟩) (ms.length - 1) cap)).cell? ⟨w.heap.size + 1, 2, none⟩ = some (.int .i64 ms') := hT6.cell 2
  have t3 : (w2.setCell ⟨D, 1, none⟩ (.slice (some ⟨g, 0, none⟩) (ms.length - 1) cap)).cell? ⟨w.heap.size + 1, 3, none⟩ = some (.int .i64 md) := hT6.cell 3
  have t4 : (w2.setCell ⟨D, 1, none⟩ (.slice (some ⟨g, 0, none⟩) (ms.length - 1) cap)).cell? ⟨w.heap.size + 1, 4, none⟩ = some (.int .i64 mb) := hT6.cell 4
  have t5 : (w2.setCell ⟨D, 1, none⟩ (.slice (some ⟨g, 0, none⟩) (ms.length - 1) cap)).cell? ⟨w.heap.size + 1, 5, none⟩ = some (.int .i64 mt) := hT6.cell 5
  have t6 : (w2.setCell ⟨D, 1, none⟩ (.slice (some ⟨g, 0, none⟩) (ms.length - 1) cap)).cell? ⟨w.heap.size + 1, 6, none⟩ = some (.int .i64 mc) := hT6.cell 6
  have t7 : (w2.setCell ⟨D, 1, none⟩ (.slice (some ⟨g, 0, none⟩) (ms.length - 1) cap)).cell? ⟨w.heap.size + 1, 7, none⟩ = some (.int .i64 mq) := hT6.cell 7
  have t8 : (w2.setCell ⟨D, 1, none⟩ (.slice (some ⟨g, 0, none⟩) (ms.length - 1) cap)).cell? ⟨w.heap.size + 1, 8, none⟩ = some (.slice Ab b.length cb') := hT6.cell 8
  have t9 : (w2.setCell ⟨D, 1, none⟩ (.slice (some ⟨g, 0, none⟩) (ms.length - 1) cap)).cell? ⟨w.heap.size + 1, 9, none⟩ = some (.slice Al l.length cl') := hT6.cell 9
  have q0 : (w2.setCell ⟨D, 1, none⟩ (.slice (some ⟨g, 0, none⟩) (ms.length - 1) cap)).cell? ⟨w.heap.size, 0, none⟩ = some (.int .i64 0) := hT4.cell 0
  have r0 : (w2.setCell ⟨D, 1, none⟩ (.slice (some ⟨g, 0, none⟩) (ms.length - 1) cap)).frozen? ⟨w.heap.size, 0, none⟩ = false := hT4.frozen 0
  have q1 : (w2.setCell ⟨D, 1, none⟩ (.slice (some ⟨g, 0, none⟩) (ms.length - 1) cap)).cell? ⟨w.heap.size, 1, none⟩ = some (.int .i64 0) := hT4.cell 1
  have r1 : (w2.setCell ⟨D, 1, none⟩ (.slice (some ⟨g, 0, none⟩) (ms.length - 1) cap)).frozen? ⟨w.heap.size, 1, none⟩ = false := hT4.frozen 1
  have q2 : (w2.setCell ⟨D, 1, none⟩ (.slice (some ⟨g, 0, none⟩) (ms.length - 1) cap)).cell? ⟨w.heap.size, 2, none⟩ = some (.int .i64 0) := hT4.cell 2
  have r2 : (w2.setCell ⟨D, 1, none⟩ (.slice (some ⟨g, 0, none⟩) (ms.length - 1) cap)).frozen? ⟨w.heap.size, 2, none⟩ = false := hT4.frozen 2
  have q3 : (w2.setCell ⟨D, 1, none⟩ (.slice (some ⟨g, 0, none⟩) (ms.length - 1) cap)).cell? ⟨w.heap.size, 3, none⟩ = some (.int .i64 0) := hT4.cell 3
  have r3 : (w2.setCell ⟨D, 1, none⟩ (.slice (some ⟨g, 0, none⟩) (ms.length - 1) cap)).frozen? ⟨w.heap.size, 3, none⟩ = false := hT4.frozen 3
  have q4 : (w2.setCell ⟨D, 1, none⟩ (.slice (some ⟨g, 0, none⟩) (ms.length - 1) cap)).cell? ⟨w.heap.size, 4, none⟩ = some (.int .i64 0) := hT4.cell 4
  have r4 : (w2.setCell ⟨D, 1, none⟩ (.slice (some ⟨g, 0, none⟩) (ms.length - 1) cap)).frozen? ⟨w.heap.size, 4, none⟩ = false := hT4.frozen 4
  have q5 : (w2.setCell ⟨D, 1, none⟩ (.slice (some ⟨g, 0, none⟩) (ms.length - 1) cap)).cell? ⟨w.heap.size, 5, none⟩ = some (.int .i64 0) := hT4.cell 5
  have r5 : (w2.setCell ⟨D, 1, none⟩ (.slice (some ⟨g, 0, none⟩) (ms.length - 1) cap)).frozen? ⟨w.heap.size, 5, none⟩ = false := hT4.frozen 5
  have q6 : (w2.setCell ⟨D, 1, none⟩ (.slice (some ⟨g, 0, none⟩) (ms.length - 1) cap)).cell? ⟨w.heap.size, 6, none⟩ = some (.int .i64 0) := hT4.cell 6
  have r6 : (w2.setCell ⟨D, 1, none⟩ (.slice (some ⟨g, 0, none⟩) (ms.length - 1) cap)).frozen? ⟨w.heap.size, 6, none⟩ = false := hT4.frozen 6
  have q7 : (w2.setCell ⟨D, 1, none⟩ (.slice (some ⟨g, 0, none⟩) (ms.length - 1) cap)).cell? ⟨w.heap.size, 7, none⟩ = some (.int .i64 0) := hT4.cell 7
  have r7 : (w2.setCell ⟨D, 1, none⟩ (.slice (some ⟨g, 0, none⟩) (ms.length - 1) cap)).frozen? ⟨w.heap.size, 7, none⟩ = false := hT4.frozen 7
  have q8 : (w2.setCell ⟨D, 1, none⟩ (.slice (some ⟨g, 0, none⟩) (ms.length - 1) cap)).cell? ⟨w.heap.size, 8, none⟩ = some (.slice none 0 0) := hT4.cell 8
  have r8 : (w2.setCell ⟨D, 1, none⟩ (.slice (some ⟨g, 0, none⟩) (ms.length - 1) cap)).frozen? ⟨w.heap.size, 8, none⟩ = false := hT4.frozen 8
  have q9 : (w2.setCell ⟨D, 1, none⟩ (.slice (some ⟨g, 0, none⟩) (ms.length - 1) cap)).cell? ⟨w.heap.size, 9, none⟩ = some (.slice none 0 0) := hT4.cell 9
  have r9 : (w2.setCell ⟨D, 1, none⟩ (.slice (some ⟨g, 0, none⟩) (ms.length - 1) cap)).frozen? ⟨w.heap.size, 9, none⟩ = false := hT4.frozen 9
  obtain ⟨WF, hWF⟩ : ∃ WF, WF = (((((((((((w2.setCell ⟨D, 1, none⟩ (.slice (some ⟨g, 0, none⟩) (ms.length - 1) cap)).setCell ⟨w.heap.size, 0, none⟩ (.int .i64 mk)).setCell ⟨w.heap.size, 1, none⟩ (.int .i64 mg)).setCell ⟨w.heap.size, 2, none⟩ (.int .i64 ms')).setCell ⟨w.heap.size, 3, none⟩ (.int .i64 md)).setCell ⟨w.heap.size, 4, none⟩ (.int .i64 mb)).setCell ⟨w.heap.size, 5, none⟩ (.int .i64 mt)).setCell ⟨w.heap.size, 6, none⟩ (.int .i64 mc)).setCell ⟨w.heap.size, 7, none⟩ (.int .i64 mq)).setCell ⟨w.heap.size, 8, none⟩ (.slice Ab b.length cb')).setCell ⟨w.heap.size, 9, none⟩ (.slice Al l.length cl')) := ⟨_, rfl⟩
  have hWF2 : WF = (w2.setCell ⟨D, 1, none⟩ (.slice (some ⟨g, 0, none⟩) (ms.length - 1) cap)).setCells w.heap.size 0 (msgCells ⟨mk, mg, ms', md, mb, mt, mc, mq, b, l⟩ (.slice Ab b.length cb') (.slice Al l.length cl')).toList := by rw [hWF]; rfl
  have htF : Touch (fun k => k = w.heap.size) (w2.setCell ⟨D, 1, none⟩ (.slice (some ⟨g, 0, none⟩) (ms.length - 1) cap)) WF := by rw [hWF2]; exact Touch.many (T := fun k => k = w.heap.size) rfl _ _ _
  obtain ⟨cs, hcs, hc2, hc3⟩ := Blk.many (msgCells ⟨mk, mg, ms', md, mb, mt, mc, mq, b, l⟩ (.slice Ab b.length cb') (.slice Al l.length cl')).toList 0 (w2.setCell ⟨D, 1, none⟩ (.slice (some ⟨g, 0, none⟩) (ms.length - 1) cap)) _ hT4 (by simp)
  rw [← hWF2] at hcs
  have hcs' : cs = (msgCells ⟨mk, mg, ms', md, mb, mt, mc, mq, b, l⟩ (.slice Ab b.length cb') (.slice Al l.length cl')) := by
    apply Array.toList_inj.1
    rw [hc3]
    rfl
  rw [hcs'] at hcs
  have hend := Hcore.out w2 WF ho ht htF
  have Hend := Lib.hid hend
  have Hcs := Lib.hid hcs
  have HWF := Lib.hid hWF
  clear hend hcs hcs' hc2 hc3 htF hWF2 hWF hT6 hT4 hT62 hT42 hD2 ho ht Hcore
  go_wp2_with fail
  try simp only [Exit.inBlock, Exit.then]
  rw [← HWF.out]
  refine bodyPost_ret (results_cell_tmp_row hres _ WF w.heap.size 31 (msgCells ⟨mk, mg, ms', md, mb, mt, mc, mq, b, l⟩ (.slice Ab b.length cb') (.slice Al l.length cl')) (0, 0) _ (.bool true) rfl rfl Hcs.out Try.underlying31 rfl (by kernel_rfl)) rfl ⟨⟨_, _, rfl, Hend.out.2.1, Hend.out.2.2⟩, Hend.out.1⟩
end Go.Proofs.Ytelgnemlnhcdmaa
