/- A net in memory; New, Len, Send. -/
import Derived.Test.YtelgnemlnhcdmaaNCopy
namespace Go.Proofs.Ytelgnemlnhcdmaa
open Go.RowKit

def NetAt (w : World) (base : Nat) (F : Nat → Prop) (D : Nat) (room : Int) (ms : List MsgT) : Prop :=
  ∃ v S, Blk w D 45 #[.int .i64 room, v] ∧ Owns RMsg 10 31 w base S v ms ∧ F D ∧ (∀ k, S k → F k) ∧ (∀ k, v.ownBlock = some k → F k) ∧ ¬ S D ∧ (∀ k, v.ownBlock = some k → ¬ S k) ∧ (∀ k, F k → base ≤ k ∧ k < w.heap.size)
def Smalls (ms : List MsgT) : Prop := ∀ m ∈ ms, Small m
theorem NetAt.touch {w w' : World} {base : Nat} {F T : Nat → Prop} {D : Nat} {room : Int} {ms : List MsgT} (h : NetAt w base F D room ms) (ht : Touch T w w') (hn : ∀ k, F k → ¬ T k) : NetAt w' base F D room ms := by
  obtain ⟨v, S, h1, h2, h3, h4, h5, h6, h7, h8⟩ := h
  exact ⟨v, S, h1.touch ht (hn D h3), Owns.touch RMsg.kept h2 ht (fun k e => hn k (h5 k e)) (fun k hk => ⟨(h8 k (h4 k hk)).2, hn k (h4 k hk)⟩) (fun _ g => g), h3, h4, h5, h6, h7, fun k hk => ⟨(h8 k hk).1, Nat.lt_of_lt_of_le (h8 k hk).2 ht.size⟩⟩
theorem NetAt.below {w w' : World} {base : Nat} {F : Nat → Prop} {D : Nat} {room : Int} {ms : List MsgT} (h : NetAt w base F D room ms) (hb : Below w.heap.size w w') : NetAt w' base F D room ms :=
  h.touch (Touch.of_below hb fun _ => False) (fun _ _ g => g)
theorem NetAt.new (w : World) (base : Nat) (room : Int) (hb : base ≤ w.heap.size) : NetAt (w.alloc (.cells #[.int .i64 room, .slice none 0 0] 45)) base (fun k => k = w.heap.size) w.heap.size room [] :=
  ⟨.slice none 0 0, fun _ => False, Blk.new w _ _, Owns.nil RMsg 10 _ _ base _, rfl, fun _ g => g.elim, fun k e => by simp [Value.ownBlock] at e, fun g => g, fun _ _ g => g, fun k e => by subst e; simp; omega⟩
theorem NetAt.slice {w : World} {base : Nat} {F : Nat → Prop} {D : Nat} {room : Int} {ms : List MsgT} (h : NetAt w base F D room ms) : ∃ A cap, w.cell? ⟨D, 0, none⟩ = some (.int .i64 room) ∧ w.cell? ⟨D, 1, none⟩ = some (.slice A ms.length cap) ∧ ms.length ≤ maxLen ∧ SliceOf RMsg 10 w F (.slice A ms.length cap) ms := by
  obtain ⟨v, S, h1, h2, h3, h4, h5, h6, h7, h8⟩ := h
  have hs := Owns.slice RMsg.kept h2 h4 h5
  have hs' := hs
  obtain ⟨A, cap, rfl, c1, c2, _⟩ := hs
  exact ⟨A, cap, h1.cell 0, h1.cell 1, Nat.le_trans c1 c2, hs'⟩
theorem NetAt.lt {w : World} {base : Nat} {F : Nat → Prop} {D : Nat} {room : Int} {ms : List MsgT} (h : NetAt w base F D room ms) : F D ∧ ∀ k, F k → base ≤ k ∧ k < w.heap.size := by
  obtain ⟨v, S, h1, h2, h3, h4, h5, h6, h7, h8⟩ := h
  exact ⟨h3, h8⟩
/-- What a call on a net leaves: the net's own blocks turned, and new ones. -/
def NetTurned (w : World) (base : Nat) (F : Nat → Prop) (D : Nat) (room : Int) (ms : List MsgT) (w' : World) : Prop :=
  ∃ F', NetAt w' base F' D room ms ∧ (∀ k, F' k → F k ∨ w.heap.size ≤ k) ∧ Touch F w w'

set_option maxHeartbeats 400000 in
theorem new_ok (room : Int) (w : World) (h1 : 1 ≤ room) (h2 : room ≤ 512) : Calls Try.prog 6 #[.int .i64 room] w fun e w' => e = .returned (.tuple #[.pointer (some ⟨w.heap.size, 0, none⟩), .int .i64 0]) ∧ w.alloc (.cells #[.int .i64 room, .slice none 0 0] 45) = w' := by
  go_enter Try.func6, Try.ntmps6
  go_wp2
  go_ret2
  exact ⟨rfl, rfl⟩
set_option maxHeartbeats 400000 in
theorem new_bad (room : Int) (w : World) (h : ¬ (1 ≤ room ∧ room ≤ 512)) : Calls Try.prog 6 #[.int .i64 room] w fun e w' => e = .returned (.tuple #[.pointer none, .int .i64 1]) ∧ w = w' := by
  by_cases h1 : room < 1
  · clear h
    go_enter Try.func6, Try.ntmps6
    go_wp2
    go_ret2
    exact ⟨rfl, rfl⟩
  · have h2 : room > 512 := by omega
    clear h
    go_enter Try.func6, Try.ntmps6
    go_wp2
    go_ret2
    exact ⟨rfl, rfl⟩
set_option maxHeartbeats 400000 in
theorem len_any {w : World} {base : Nat} {F : Nat → Prop} {D : Nat} {room : Int} {ms : List MsgT} (h : NetAt w base F D room ms) : Calls Try.prog 11 #[.pointer (some ⟨D, 0, none⟩)] w fun e w' => e = .returned (.int .i64 ms.length) ∧ w = w' := by
  obtain ⟨A, cap, hc0, hc1, _, _⟩ := h.slice
  clear h
  go_enter Try.func11, Try.ntmps11
  go_wp2
  go_ret
  exact ⟨rfl, rfl⟩

theorem append_net {w w1 w2 : World} {base : Nat} {F S : Nat → Prop} {D : Nat} {room : Int} {old : List MsgT} {x : MsgT} {v v2 bv lv : Value} {css : List (List Value)} {L : Obj}
    (d1 : Blk w D 45 #[.int .i64 room, v]) (hrow : RowsOf RMsg 10 w S css old) (hlt : ∀ k, v.ownBlock = some k → base ≤ k ∧ k < w.heap.size) (d3 : F D) (d4 : ∀ k, S k → F k) (d5 : ∀ k, v.ownBlock = some k → F k) (d6 : ¬ S D) (d7 : ∀ k, v.ownBlock = some k → ¬ S k) (d8 : ∀ k, F k → base ≤ k ∧ k < w.heap.size) (hv : ∀ k, v.ownBlock = some k → k ≠ D)
    (cb : BytesAt w1 (fun k => w.heap.size ≤ k ∧ k < w1.heap.size) bv x.b) (cl : SliceOf RVote 3 w1 (fun k => w.heap.size ≤ k ∧ k < w1.heap.size) lv x.l) (b1 : Below w.heap.size w w1) (h2 : w2.ownsRow base 31 10 v2 (old.length + 1) (css.flatten ++ (msgCells x bv lv).toList)) (g2 : (w1.alloc L).grownBy w2 v.ownBlock) (at2 : v2.ownBlock = v.ownBlock ∨ v2.ownBlock = some (w1.alloc L).heap.size) :
    NetTurned w base F D room (old ++ [x]) (w2.setCell ⟨D, 1, none⟩ v2) := by
  have hD := d8 D d3
  have hz1 := b1.size
  have ht2 : Touch (fun g => v.ownBlock = some g) w1 w2 := (Touch.alloc _ w1 _).trans (Touch.grown g2 (fun g _ e => e)) (fun _ _ h => h)
  have hz2 := ht2.size
  have ht3 : Touch (fun g => g = D) w2 (w2.setCell ⟨D, 1, none⟩ v2) := Touch.setCell w2 v2 (fun _ => rfl)
  have ht : Touch (fun g => v.ownBlock = some g ∨ g = D) w (w2.setCell ⟨D, 1, none⟩ v2) :=
    ((Touch.of_below b1 _).trans ht2 (fun _ _ e => .inl e)).trans ht3 (fun _ _ e => .inr e)
  have hz3 : (w2.setCell ⟨D, 1, none⟩ v2).heap.size = w2.heap.size := by simp [World.setCell]
  have hlt2 : ∀ g, v2.ownBlock = some g → v.ownBlock = some g ∨ w1.heap.size ≤ g ∧ g < w2.heap.size := fun g e => by
    have := h2.lt g e
    rcases at2 with e2 | e2
    · exact .inl (e2 ▸ e)
    · rw [e2] at e; simp at e; exact .inr ⟨by omega, this.2⟩
  have d1' : Blk (w2.setCell ⟨D, 1, none⟩ v2) D 45 #[.int .i64 room, v2] := by
    have := ((d1.touch (Touch.of_below b1 fun _ => False) (fun g => g)).touch ht2 (fun e => hv D e rfl)).set 1 v2
    simpa using this
  have hcss : (css ++ [(msgCells x bv lv).toList]).flatten = css.flatten ++ (msgCells x bv lv).toList := by simp
  have hrow' : RowsOf RMsg 10 (w2.setCell ⟨D, 1, none⟩ v2) (fun g => S g ∨ (w.heap.size ≤ g ∧ g < w1.heap.size)) css old :=
    RowsOf.keep RMsg.kept hrow (fun k hk => ht.block k (d8 k (d4 k hk)).2 (fun e => by
      rcases e with e | e
      · exact d7 k e hk
      · subst e; exact d6 hk)) (fun _ g => .inl g)
  have hk1 : ∀ k, (w.heap.size ≤ k ∧ k < w1.heap.size) → (w2.setCell ⟨D, 1, none⟩ v2).heap[k]? = w1.heap[k]? := fun k hk =>
    (ht3.block k (by omega) (by omega)).trans (ht2.block k hk.2 (fun e => by have := hlt k e; omega))
  have hnew : RMsg (w2.setCell ⟨D, 1, none⟩ v2) (fun g => S g ∨ (w.heap.size ≤ g ∧ g < w1.heap.size)) (msgCells x bv lv).toList x :=
    ⟨bv, lv, rfl, SliceOf.keep RByte.kept cb hk1 (fun _ h => .inr h), SliceOf.keep RVote.kept cl hk1 (fun _ h => .inr h)⟩
  refine ⟨fun g => F g ∨ w.heap.size ≤ g ∧ g < w2.heap.size, ⟨v2, fun g => S g ∨ (w.heap.size ≤ g ∧ g < w1.heap.size), d1', ⟨css ++ [(msgCells x bv lv).toList], hrow'.snoc rfl hnew, ?_⟩, .inl d3, ?_, ?_, ?_, ?_, ?_⟩, ?_, ?_⟩
  · rw [hcss, List.length_append]
    exact own_touch h2 ht3 (fun k e e' => by
      rcases hlt2 k e with g | g
      · exact hv k g e'
      · omega)
  · rintro k (hk | hk)
    · exact .inl (d4 k hk)
    · exact .inr ⟨by omega, by omega⟩
  · intro k e
    rcases hlt2 k e with g | g
    · exact .inl (d5 k g)
    · exact .inr ⟨by omega, by omega⟩
  · rintro (hk | hk)
    · exact d6 hk
    · omega
  · rintro k e (hk | hk)
    · rcases hlt2 k e with g | g
      · exact d7 k g hk
      · have := d8 k (d4 k hk); omega
    · rcases hlt2 k e with g | g
      · have := hlt k g; omega
      · omega
  · rintro k (hk | hk)
    · have := d8 k hk; omega
    · omega
  · rintro k (hk | hk)
    · exact .inl hk
    · exact .inr hk.1
  · exact ht.mono (fun k _ e => by
      rcases e with e | e
      · exact d5 k e
      · subst e; exact d3)

theorem net_touch_below {w w1 w2 : World} {base : Nat} {F : Nat → Prop} {D : Nat} {room : Int} {ms : List MsgT} (hb : Below w.heap.size w w1) (h : NetTurned w1 base F D room ms w2) : NetTurned w base F D room ms w2 := by
  obtain ⟨F', h1, h2, h3⟩ := h
  have hz := hb.size
  exact ⟨F', h1, fun k hk => by rcases h2 k hk with e | e; exact .inl e; exact .inr (by omega), (Touch.of_below hb F).trans h3 (fun _ _ e => e)⟩
set_option maxHeartbeats 1000000 in
/-- Send, where there is room. -/
theorem send_ok {w : World} {base : Nat} {F : Nat → Prop} {D : Nat} {room : Int} {ms : List MsgT} (x : MsgT) (bv lv : Value) (S : Nat → Prop) (h : NetAt w base F D room ms) (hr : (ms.length : Int) < room) (hr2 : room ≤ 1000) (hb : BytesAt w S bv x.b) (hl : SliceOf RVote 3 w S lv x.l) (hS : ∀ k, S k → k < w.heap.size) (hx : Small x) :
    Calls Try.prog 7 #[.pointer (some ⟨D, 0, none⟩), .agg (msgCells x bv lv)] w fun e w' => e = .returned (.bool true) ∧ NetTurned w base F D room (ms ++ [x]) w' := by
  obtain ⟨mk, mg, ms', md, mb, mt, mc, mq, b, l⟩ := x
  simp only at hb hl
  obtain ⟨W0, hW0⟩ : ∃ W0, W0 = w.alloc (.cells (msgCells ⟨mk, mg, ms', md, mb, mt, mc, mq, b, l⟩ bv lv) 31) := ⟨_, rfl⟩
  have hbW : Below w.heap.size w W0 := by rw [hW0]; exact (Below.refl w.heap.size w).alloc (Nat.le_refl _) _
  have hT0 : Blk W0 w.heap.size 31 (msgCells ⟨mk, mg, ms', md, mb, mt, mc, mq, b, l⟩ bv lv) := by rw [hW0]; exact Blk.new w _ _
  have hbB : BytesAt W0 S bv b := SliceOf.below RByte.kept hb hbW hS (fun _ h => h)
  have hlB : SliceOf RVote 3 W0 S lv l := SliceOf.below RVote.kept hl hbW hS (fun _ h => h)
  have hn := h.below hbW
  have hsz : W0.heap.size = w.heap.size + 1 := by rw [hW0]; simp
  obtain ⟨Ab, cb', rfl⟩ := slice_shape hb
  obtain ⟨Al, cl', rfl⟩ := slice_shape hl
  obtain ⟨v, S1, d1, ⟨css, hrow, hown⟩, d3, d4, d5, d6, d7, d8⟩ := hn
  have hD : D < W0.heap.size := (d8 D d3).2
  obtain ⟨Av, cv, rfl⟩ := own_shape hown
  have k0 : W0.cell? ⟨D, 0, none⟩ = some (.int .i64 room) := d1.cell 0
  have k1 : W0.cell? ⟨D, 1, none⟩ = some (.slice Av ms.length cv) := d1.cell 1
  have kf : W0.frozen? ⟨D, 1, none⟩ = false := d1.frozen 1
  have hvD : ∀ k, Value.ownBlock (.slice Av ms.length cv) = some k → k ≠ D := fun k e => own_apart hown d1 (by decide) e
  have hbase : base ≤ W0.heap.size := by have := d8 D d3; omega
  have hfin := fun (w1 w2 : World) (v2 bv1 lv1 : Value) (L : Obj) a1 a2 a3 a4 a5 a6 => append_net (w := W0) (w1 := w1) (w2 := w2) (v2 := v2) (bv := bv1) (lv := lv1) (x := ⟨mk, mg, ms', md, mb, mt, mc, mq, b, l⟩) (L := L) d1 hrow hown.lt d3 d4 d5 d6 d7 d8 hvD a1 a2 a3 a4 a5 a6
  have p0 : W0.cell? ⟨w.heap.size, 0, none⟩ = some (.int .i64 mk) := hT0.cell 0
  have p1 : W0.cell? ⟨w.heap.size, 1, none⟩ = some (.int .i64 mg) := hT0.cell 1
  have p2 : W0.cell? ⟨w.heap.size, 2, none⟩ = some (.int .i64 ms') := hT0.cell 2
  have p3 : W0.cell? ⟨w.heap.size, 3, none⟩ = some (.int .i64 md) := hT0.cell 3
  have p4 : W0.cell? ⟨w.heap.size, 4, none⟩ = some (.int .i64 mb) := hT0.cell 4
  have p5 : W0.cell? ⟨w.heap.size, 5, none⟩ = some (.int .i64 mt) := hT0.cell 5
  have p6 : W0.cell? ⟨w.heap.size, 6, none⟩ = some (.int .i64 mc) := hT0.cell 6
  have p7 : W0.cell? ⟨w.heap.size, 7, none⟩ = some (.int .i64 mq) := hT0.cell 7
  have p8 : W0.cell? ⟨w.heap.size, 8, none⟩ = some (.slice Ab b.length cb') := hT0.cell 8
  have p9 : W0.cell? ⟨w.heap.size, 9, none⟩ = some (.slice Al l.length cl') := hT0.cell 9
  have Hfin := Lib.hid hfin
  have HW0 := Lib.hid hW0
  have HbW := Lib.hid hbW
  have HbB := Lib.hid hbB
  have HlB := Lib.hid hlB
  have HS0 : Hid (∀ k, S k → k < W0.heap.size) := Lib.hid (fun k hk => by have := hS k hk; omega)
  have Hx := Lib.hid hx
  have Hown := Lib.hid hown
  have HvD := Lib.hid hvD
  clear hb hl hS hx h hbW hbB hlB hrow hown d1 d3 d4 d5 d6 d7 d8 hvD hfin hT0 hW0
  go_enter Try.func7, Try.ntmps7
  go_wp2_with fail
  rw [← HW0.out]
  go_quiet (fail)
  go_wp2_with fail
  go_region_law (first
    | (go_simp; go_at_call 14; refine (copy_any ⟨mk, mg, ms', md, mb, mt, mc, mq, b, l⟩ (.slice Ab b.length cb') (.slice Al l.length cl') S _ (by exact SliceOf.heap RByte.kept HbB.out rfl) (by exact SliceOf.heap RVote.kept HlB.out rfl) (by exact HS0.out) Hx.out).mono ?_; rintro e w1 ⟨bv1, lv1, rfl, cb1, cl1, hb0⟩; have hb1 : Below W0.heap.size W0 w1 := ⟨hb0.os, hb0.tape, hb0.output, hb0.size, hb0.block⟩; clear hb0; obtain ⟨A1, c1, rfl⟩ := slice_shape cb1; obtain ⟨A2, c2, rfl⟩ := slice_shape cl1; have hcell1 := (hb1.cell (p := ⟨D, 1, none⟩) hD).trans k1; have hfr1 := (hb1.frozen (p := ⟨D, 1, none⟩) hD).trans kf; have hcA := fun o => (World.cell?_alloc_lt w1 o ⟨D, 1, none⟩ (Nat.lt_of_lt_of_le hD hb1.size)).trans hcell1; have Hcb : Hid (BytesAt w1 (fun k => W0.heap.size ≤ k ∧ k < w1.heap.size) (.slice A1 b.length c1) b) := cb1; have Hcl : Hid (SliceOf RVote 3 w1 (fun k => W0.heap.size ≤ k ∧ k < w1.heap.size) (.slice A2 l.length c2) l) := cl1; have Hb1 := Lib.hid hb1; clear cb1 cl1 hb1)
    | (refine step_append_src rfl _ _ 43 rfl base 31 (.agg msgZero.toArray) 10 112 Try.underlying43 msg_info (by rfl) (by omega) (.slice Av ms.length cv) ms.length css.flatten rfl ((own_below Hown.out Hb1.out).alloc _) (some ⟨w1.heap.size, 0, none⟩) 1 1 (msgCells ⟨mk, mg, ms', md, mb, mt, mc, mq, b, l⟩ (.slice A1 b.length c1) (.slice A2 l.length c2)).toList rfl rfl (fun _ => ⟨w1.heap.size, 0, rfl, fun j u hj => by have := World.news_of_block (w := w1.alloc _) (heap_alloc_new w1 (.cells (msgCells ⟨mk, mg, ms', md, mb, mt, mc, mq, b, l⟩ (.slice A1 b.length c1) (.slice A2 l.length c2)) 31)) j u hj; rwa [WideShapes.add_plain] at this⟩) (by intro u hu; simp at hu; rcases hu with rfl | rfl | rfl | rfl | rfl | rfl | rfl | rfl | rfl | rfl <;> rfl) (by omega) (by omega) (by have := Hb1.out.size; simp at this ⊢; omega) ?_; intro v2 w2 hown2 hg2 hat2; obtain ⟨A3, c3, rfl⟩ := own_shape hown2; have hcell2 := (hg2.cell_far ⟨D, 1, none⟩ (by have := Hb1.out.size; simp; omega) (fun e => HvD.out D e.symm rfl)).trans ((World.cell?_alloc_lt w1 _ ⟨D, 1, none⟩ (by have := Hb1.out.size; simp; omega)).trans hcell1); have hfr2 := (hg2.frozen_far ⟨D, 1, none⟩ (by have := Hb1.out.size; simp; omega) (fun e => HvD.out D e.symm rfl)).trans ((frozen_alloc w1 _ ⟨D, 1, none⟩ (by have := Hb1.out.size; simp; omega)).trans hfr1); have Hown2 := Lib.hid hown2; have Hg2 := Lib.hid hg2; have Hat2 := Lib.hid hat2; clear hown2 hg2 hat2))
  all_goals
    go_wp2_with fail
    go_ret
    exact ⟨rfl, net_touch_below HbW.out (Hfin.out _ _ _ _ _ _ Hcb.out Hcl.out Hb1.out Hown2.out Hg2.out Hat2.out)⟩
end Go.Proofs.Ytelgnemlnhcdmaa
