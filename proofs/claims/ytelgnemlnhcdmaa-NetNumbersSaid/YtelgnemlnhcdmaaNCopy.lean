/- The contract of msg.Copy. -/
import Derived.Test.YtelgnemlnhcdmaaNDelete
namespace Go.Proofs.Ytelgnemlnhcdmaa
open Go.RowKit

/-- The votes that the call has copied, in a row of its own. -/
def OutMem (w : World) (out : List VoteT) (ov : Value) (wr : World) : Prop :=
  ∃ S css, wr.ownsRow w.heap.size 52 3 ov out.length css.flatten ∧ RowsOf RVote 3 wr S css out ∧ (∀ k, S k → w.heap.size ≤ k ∧ k < wr.heap.size) ∧ (∀ k, ov.ownBlock = some k → ¬ S k) ∧ Below w.heap.size w wr
theorem OutMem.push {w wA wr w2 : World} {out : List VoteT} {ov v2 : Value} {x : VoteT} {bv : Value} {Sb S : Nat → Prop} {css : List (List Value)} {L : Obj}
    (h1 : wA.ownsRow w.heap.size 52 3 ov out.length css.flatten) (h2 : RowsOf RVote 3 wA S css out) (h3 : ∀ k, S k → w.heap.size ≤ k ∧ k < wA.heap.size) (h4 : ∀ k, ov.ownBlock = some k → ¬ S k) (h6 : Below w.heap.size w wA) (hb : Below wA.heap.size wA wr)
    (hbv : BytesAt wr Sb bv x.v) (hSb : ∀ k, Sb k → wA.heap.size ≤ k ∧ k < wr.heap.size)
    (hown : w2.ownsRow w.heap.size 52 3 v2 (out.length + 1) (css.flatten ++ [.int .i64 x.slot, .int .i64 x.ballot, bv])) (hg : (wr.alloc L).grownBy w2 ov.ownBlock) (hat : v2.ownBlock = ov.ownBlock ∨ v2.ownBlock = some (wr.alloc L).heap.size) :
    OutMem w (out ++ [x]) v2 w2 := by
  have ht : Touch (fun k => ov.ownBlock = some k) wr w2 := (Touch.alloc _ wr L).trans (Touch.grown hg (fun g _ e => e)) (fun _ _ h => h)
  have hz := ht.size
  have hzb := hb.size
  have hlt := h1.lt
  have hk : ∀ k, S k → w2.heap[k]? = wA.heap[k]? := fun k hk => (ht.block k (by have := h3 k hk; omega) (fun e => h4 k e hk)).trans (hb.block k (h3 k hk).2)
  have hkb : ∀ k, Sb k → w2.heap[k]? = wr.heap[k]? := fun k hk => ht.block k (hSb k hk).2 (fun e => by have := hlt k e; have := hSb k hk; omega)
  refine ⟨fun k => S k ∨ Sb k, css ++ [[.int .i64 x.slot, .int .i64 x.ballot, bv]], by rw [List.length_append]; simpa using hown, (RowsOf.keep RVote.kept h2 hk (fun _ h => .inl h)).snoc rfl ⟨_, rfl, SliceOf.keep RByte.kept hbv hkb (fun _ h => .inr h)⟩, ?_, ?_, (h6.trans (hb.mono h6.size)).trans (ht.below (fun k e => (hlt k e).1) (by have := h6.size; omega))⟩
  · rintro k (h | h)
    · have := h3 k h; exact ⟨this.1, by omega⟩
    · have := hSb k h; have := h6.size; exact ⟨by omega, by omega⟩
  · rintro k e (h | h)
    · rcases hat with e2 | e2
      · exact h4 k (e2 ▸ e) h
      · rw [e2] at e; simp at e; have := h3 k h; omega
    · rcases hat with e2 | e2
      · have := hlt k (e2 ▸ e); have := hSb k h; omega
      · rw [e2] at e; simp at e; have := hSb k h; omega
theorem vote_more {l : List VoteT} {q : Nat} {x : VoteT} (h : l[q]? = some x) : l.take (q + 1) = l.take q ++ [x] := by
  obtain ⟨hk, rfl⟩ := List.getElem?_eq_some_iff.1 h
  rw [List.take_succ_eq_append_getElem hk]

/-- A message as a value. -/
abbrev msgCells (x : MsgT) (bv lv : Value) : Array Value := #[.int .i64 x.kind, .int .i64 x.group, .int .i64 x.src, .int .i64 x.dst, .int .i64 x.ballot, .int .i64 x.slot, .int .i64 x.client, .int .i64 x.seq, bv, lv]
def Small (x : MsgT) : Prop := x.b.length ≤ 1000000000 ∧ x.l.length ≤ 1000000000 ∧ ∀ v ∈ x.l, v.v.length ≤ 140737488351232
def CopyEnd (w : World) (x : MsgT) (e : Ending) (w' : World) : Prop :=
  ∃ bv lv, e = .returned (.agg (msgCells x bv lv)) ∧ BytesAt w' (fun k => w.heap.size ≤ k ∧ k < w'.heap.size) bv x.b ∧ SliceOf RVote 3 w' (fun k => w.heap.size ≤ k ∧ k < w'.heap.size) lv x.l ∧ Below w.heap.size w w'
set_option maxHeartbeats 1000000 in
theorem copy_any (x : MsgT) (bv lv : Value) (S : Nat → Prop) (w : World) (hb : BytesAt w S bv x.b) (hl : SliceOf RVote 3 w S lv x.l) (hS : ∀ k, S k → k < w.heap.size) (hx : Small x) :
    Calls Try.prog 14 #[.agg (msgCells x bv lv)] w (CopyEnd w x) := by
  obtain ⟨mk, mg, ms, md, mb, mt, mc, mq, b, l⟩ := x
  obtain ⟨hx1, hx2, hx3⟩ := hx
  simp only at hb hl hx1 hx2 hx3
  obtain ⟨Ab, cb, rfl⟩ := slice_shape hb
  obtain ⟨Al, cl, rfl⟩ := slice_shape hl
  obtain ⟨W0, hW0⟩ : ∃ W0, W0 = (w.alloc (.cells (msgCells ⟨mk, mg, ms, md, mb, mt, mc, mq, b, l⟩ (.slice Ab b.length cb) (.slice Al l.length cl)) 31)).alloc (.cells msgZero.toArray 31) := ⟨_, rfl⟩
  have hbW : Below w.heap.size w W0 := by rw [hW0]; exact ((Below.refl w.heap.size w).alloc (Nat.le_refl _) _).alloc (by simp) _
  have hT0 : Blk W0 w.heap.size 31 (msgCells ⟨mk, mg, ms, md, mb, mt, mc, mq, b, l⟩ (.slice Ab b.length cb) (.slice Al l.length cl)) := by rw [hW0]; exact (Blk.new w _ _).alloc _
  have hT1 : Blk W0 (w.heap.size + 1) 31 msgZero.toArray := by rw [hW0]; have := Blk.new (w.alloc (.cells (msgCells ⟨mk, mg, ms, md, mb, mt, mc, mq, b, l⟩ (.slice Ab b.length cb) (.slice Al l.length cl)) 31)) 31 msgZero.toArray; rwa [World.size_alloc] at this
  have hbB : BytesAt W0 (fun k => k < w.heap.size) (.slice Ab b.length cb) b := SliceOf.below RByte.kept hb hbW hS hS
  have hlB : SliceOf RVote 3 W0 (fun k => k < w.heap.size) (.slice Al l.length cl) l := SliceOf.below RVote.kept hl hbW hS hS
  have hsz : W0.heap.size = w.heap.size + 2 := by rw [hW0]; simp
  have HW0 := Lib.hid hW0
  have HbW := Lib.hid hbW
  have HT0 := Lib.hid hT0
  have HT1 := Lib.hid hT1
  have HbB := Lib.hid hbB
  have HlB := Lib.hid hlB
  clear hb hl hS hW0 hbW hT0 hT1 hbB hlB
  go_enter Try.func14, Try.ntmps14
  go_wp2_with fail
  rw [← HW0.out]
  refine (clone_any _ b (fun k => k < w.heap.size) W0 HbB.out (fun k h => by omega) (by omega)).mono ?_
  rintro e w1 ⟨v1, rfl, ho1, b1⟩
  obtain ⟨A1, c1, rfl⟩ := own_shape ho1
  have hT0 := HT0.out.below b1 (by omega)
  have hT1 := HT1.out.below b1 (by omega)
  have hz1 := b1.size
  have k8 : w1.cell? ⟨w.heap.size, 8, none⟩ = some (.slice Ab b.length cb) := hT0.cell 8
  have f8 : w1.frozen? ⟨w.heap.size, 8, none⟩ = false := hT0.frozen 8
  have k9 : (w1.setCell ⟨w.heap.size, 8, none⟩ (.slice A1 b.length c1)).cell? ⟨w.heap.size, 9, none⟩ = some (.slice Al l.length cl) := (hT0.set 8 (.slice A1 b.length c1)).cell 9
  obtain ⟨W2, hW2⟩ : ∃ W2, W2 = w1.setCell ⟨w.heap.size, 8, none⟩ (.slice A1 b.length c1) := ⟨_, rfl⟩
  have hts : Touch (fun k => k = w.heap.size) w1 W2 := by rw [hW2]; exact Touch.setCell w1 _ (fun _ => rfl)
  have hzs := hts.size
  have hT02 : Blk W2 w.heap.size 31 (msgCells ⟨mk, mg, ms, md, mb, mt, mc, mq, b, l⟩ (.slice A1 b.length c1) (.slice Al l.length cl)) := by rw [hW2]; exact hT0.set 8 _
  have hT12 : Blk W2 (w.heap.size + 1) 31 msgZero.toArray := by rw [hW2]; exact hT1.other (p := ⟨w.heap.size, 8, none⟩) (by simp) _
  have hB2 : BytesAt W2 (fun k => w.heap.size + 2 ≤ k ∧ k < W2.heap.size) (.slice A1 b.length c1) b :=
    Owns.slice RByte.kept (owns_bytes (S := fun _ => False) (own_touch ho1 hts (fun k e e' => by have := ho1.lt k e; omega))) (fun _ g => g.elim) (fun k e => by have := ho1.lt k e; omega)
  have hL2 : SliceOf RVote 3 W2 (fun k => k < w.heap.size) (.slice Al l.length cl) l :=
    SliceOf.touch RVote.kept (SliceOf.below (S' := fun k => k < w.heap.size) RVote.kept HlB.out b1 (fun k h => by omega) (fun _ h => h)) hts (fun k h => ⟨by omega, by omega⟩) (fun _ h => h)
  have hbw2 : Below w.heap.size w W2 := (HbW.out.trans (b1.mono (by omega))).trans (hts.below (fun k e => by omega) (by omega))
  have HW2 := Lib.hid hW2
  have HT02 := Lib.hid hT02
  have HT12 := Lib.hid hT12
  have HB2 := Lib.hid hB2
  have HL2 := Lib.hid hL2
  have Hbw2 := Lib.hid hbw2
  have hsz2 : w.heap.size + 2 ≤ W2.heap.size := by omega
  clear hT0 hT1 ho1 b1 hts hzs hT02 hT12 hB2 hL2 hbw2 hz1
  go_wp2_with fail
  rw [← HW2.out]
  clear k8 f8 k9 HW2 HW0 HbW HT0 HT1 HbB HlB
  go_loopw [3, 13] (fun ov i wr => ∃ k : Nat, k ≤ l.length ∧ i = .int .i64 k ∧ OutMem W2 (l.take k) ov wr) (fun _ i _ => l.length - (intOf i).toNat)
  case atStart => exact ⟨0, Nat.zero_le _, rfl, fun _ => False, [], World.ownsRow_nil _ _ _ _, RowsOf.nil RVote 3 _ _, fun _ h => h.elim, fun k e => by simp [Value.ownBlock] at e, Below.refl _ _⟩
  case round =>
    obtain ⟨k, hk, rfl, hm⟩ := hrel
    by_cases hlt : k < l.length
    · obtain ⟨r, hr⟩ : ∃ r, l[k]? = some r := ⟨l[k], List.getElem?_eq_getElem hlt⟩
      have hbb : Below W2.heap.size W2 wr := by obtain ⟨_, _, _, _, _, _, h⟩ := hm; exact h
      have hzb := hbb.size
      obtain ⟨bl, ol, rfl, hblS, cs, ⟨vv, rfl, hvv⟩, hl1, hcc⟩ := (SliceOf.below (S' := fun k => k < w.heap.size) RVote.kept HL2.out hbb (fun k h => by omega) (fun _ g => g)).at hr
      have hrv := hx3 r (List.mem_of_getElem? hr)
      have hmore := vote_more hr
      obtain ⟨rs, rb, rv⟩ := r
      simp only at hvv hrv hcc
      have hc0 : wr.cell? ⟨bl, ol + k * 3, none⟩ = some (.int .i64 rs) := by simpa using hcc 0 _ rfl
      have hc1 : wr.cell? ⟨bl, ol + k * 3 + 1, none⟩ = some (.int .i64 rb) := by have := hcc 1 _ rfl; rwa [← Nat.add_assoc] at this
      have hc2 : wr.cell? ⟨bl, ol + k * 3 + 2, none⟩ = some vv := by have := hcc 2 _ rfl; rwa [← Nat.add_assoc] at this
      obtain ⟨Av, cv, rfl⟩ := slice_shape hvv
      obtain ⟨S, css, g1, g2, g3, g4, g6⟩ := hm
      have hn : (l.take k).length = k := by rw [List.length_take]; omega
      rw [hn] at g1
      obtain ⟨Ao, co, rfl⟩ := own_shape g1
      have hal : Below wr.heap.size wr (wr.alloc (.cells #[.int .i64 rs, .int .i64 rb, .slice Av rv.length cv] 52)) := (Below.refl _ _).alloc (Nat.le_refl _) _
      have hvv2 := SliceOf.below (S' := fun k => k < w.heap.size) RByte.kept hvv hal (fun k h => by omega) (fun _ h => h)
      have Hvv2 := Lib.hid hvv2
      have G1 := Lib.hid g1
      have G2 := Lib.hid g2
      have G3 := Lib.hid g3
      have G4 := Lib.hid g4
      have G6 := Lib.hid g6
      have Hn := Lib.hid hn
      have Hmore := Lib.hid hmore
      clear hvv hvv2 g1 g2 g3 g4 g6 hn hmore hbb hr hl1 hcc hal
      go_wp2_with fail
      refine (clone_any _ rv (fun k => k < w.heap.size) _ Hvv2.out (fun k h => by simp; omega) hrv).mono ?_
      rintro e w3 ⟨v3, rfl, ho3, b3⟩
      obtain ⟨A3, c3, rfl⟩ := own_shape ho3
      have hz3 := b3.size
      simp only [World.size_alloc] at hz3
      have hV := (Blk.new wr 52 #[.int .i64 rs, .int .i64 rb, .slice Av rv.length cv]).below b3 (by simp)
      have v0 : w3.cell? ⟨wr.heap.size, 0, none⟩ = some (.int .i64 rs) := hV.cell 0
      have v1 : w3.cell? ⟨wr.heap.size, 1, none⟩ = some (.int .i64 rb) := hV.cell 1
      have v2 : w3.cell? ⟨wr.heap.size, 2, none⟩ = some (.slice Av rv.length cv) := hV.cell 2
      have f2 : w3.frozen? ⟨wr.heap.size, 2, none⟩ = false := hV.frozen 2
      obtain ⟨W4, hW4⟩ : ∃ W4, W4 = w3.setCell ⟨wr.heap.size, 2, none⟩ (.slice A3 rv.length c3) := ⟨_, rfl⟩
      have hts : Touch (fun k => k = wr.heap.size) w3 W4 := by rw [hW4]; exact Touch.setCell w3 _ (fun _ => rfl)
      have hzs := hts.size
      have hV4 : Blk W4 wr.heap.size 52 #[.int .i64 rs, .int .i64 rb, .slice A3 rv.length c3] := by rw [hW4]; exact hV.set 2 _
      have hb4 : Below wr.heap.size wr W4 := (((Below.refl wr.heap.size wr).alloc (Nat.le_refl _) _).trans (b3.mono (by simp))).trans (hts.below (fun k e => by omega) (by omega))
      have hB4 : BytesAt W4 (fun k => wr.heap.size ≤ k ∧ k < W4.heap.size) (.slice A3 rv.length c3) rv :=
        Owns.slice RByte.kept (owns_bytes (S := fun _ => False) (own_touch ho3 hts (fun k e e' => by have := (ho3.lt k e).1; simp at this; omega))) (fun _ g => g.elim) (fun k e => by have := ho3.lt k e; simp at this; omega)
      have v40 : W4.cell? ⟨wr.heap.size, 0, none⟩ = some (.int .i64 rs) := hV4.cell 0
      have v41 : W4.cell? ⟨wr.heap.size, 1, none⟩ = some (.int .i64 rb) := hV4.cell 1
      have v42 : W4.cell? ⟨wr.heap.size, 2, none⟩ = some (.slice A3 rv.length c3) := hV4.cell 2
      have HW4 := Lib.hid hW4
      have hsW4 := Lib.hid (show W4.heap.size = w3.heap.size by rw [hW4]; simp)
      have HB4 := Lib.hid hB4
      have Hb4 := Lib.hid hb4
      have G14 := Lib.hid (own_below G1.out hb4)
      have hz4 := hb4.size
      have hzW : W2.heap.size ≤ wr.heap.size := hzb
      have Hpush := Lib.hid (fun v5 w5 => @OutMem.push W2 wr W4 w5 (l.take k) (.slice Ao k co) v5 ⟨rs, rb, rv⟩ (.slice A3 rv.length c3) (fun k => wr.heap.size ≤ k ∧ k < W4.heap.size) S css (.cells #[.int .i64 rs, .int .i64 rb, .slice A3 rv.length c3] 52) (by rw [Hn.out]; exact G1.out) G2.out G3.out G4.out G6.out hb4 hB4 (fun _ h => h))
      clear hW4 hB4 hb4 hV4 hV ho3 b3 hts hzs hz3 HL2 Hvv2 HT02 HT12 HB2
      go_wp2_with (at_builtin; rw [← HW4.out]; refine wpList_append_src rfl _ _ 29 rfl W2.heap.size 52 (.agg #[.int .i64 0, .int .i64 0, .slice none 0 0]) 3 40 Try.underlying29 vote_info rfl (by omega) (.slice Ao k co) k css.flatten rfl (by exact G14.out.alloc _) (some ⟨w3.heap.size, 0, none⟩) 1 1 [.int .i64 rs, .int .i64 rb, .slice A3 rv.length c3] rfl rfl (fun _ => ⟨w3.heap.size, 0, rfl, fun j u hj => by have := World.news_of_block (w := W4.alloc _) (heap_alloc_new W4 (.cells #[.int .i64 rs, .int .i64 rb, .slice A3 rv.length c3] 52)) j u hj; rw [hsW4.out] at this; rwa [WideShapes.add_plain] at this⟩) (by intro u hu; simp at hu; rcases hu with rfl | rfl | rfl <;> rfl) (by omega) (by omega) (by simp; omega) ?_; intro v5 w5 hown5 hg5 hat5)
      have hp := Hpush.out v5 w5 (by rw [Hn.out]; exact hown5) hg5 hat5
      rw [← Hmore.out] at hp
      have Hp := Lib.hid hp
      obtain ⟨A5, c5, rfl⟩ := own_shape hown5
      clear hp hown5 hg5 hat5
      go_wp2_with fail
      go_roundw
      case rel => exact ⟨k + 1, by omega, by go_num, Hp.out⟩
      case measure => simp [intOf]; omega
    · have hkl : l.take k = l := List.take_of_length_le (by omega)
      rw [hkl] at hm
      obtain ⟨S, css, g1, g2, g3, g4, g6⟩ := hm
      obtain ⟨Ao, co, rfl⟩ := own_shape g1
      have hz6 := g6.size
      have hT0 := HT02.out.below g6 (by omega)
      have hT1 := HT12.out.below g6 (by omega)
      have p0 : wr.cell? ⟨w.heap.size, 0, none⟩ = some (.int .i64 mk) := hT0.cell 0
      have p1 : wr.cell? ⟨w.heap.size, 1, none⟩ = some (.int .i64 mg) := hT0.cell 1
      have p2 : wr.cell? ⟨w.heap.size, 2, none⟩ = some (.int .i64 ms) := hT0.cell 2
      have p3 : wr.cell? ⟨w.heap.size, 3, none⟩ = some (.int .i64 md) := hT0.cell 3
      have p4 : wr.cell? ⟨w.heap.size, 4, none⟩ = some (.int .i64 mb) := hT0.cell 4
      have p5 : wr.cell? ⟨w.heap.size, 5, none⟩ = some (.int .i64 mt) := hT0.cell 5
      have p6 : wr.cell? ⟨w.heap.size, 6, none⟩ = some (.int .i64 mc) := hT0.cell 6
      have p7 : wr.cell? ⟨w.heap.size, 7, none⟩ = some (.int .i64 mq) := hT0.cell 7
      have p8 : wr.cell? ⟨w.heap.size, 8, none⟩ = some (.slice A1 b.length c1) := hT0.cell 8
      have p9 : wr.cell? ⟨w.heap.size, 9, none⟩ = some (.slice Al l.length cl) := hT0.cell 9
      have f9 : wr.frozen? ⟨w.heap.size, 9, none⟩ = false := hT0.frozen 9
      have q0 : wr.cell? ⟨w.heap.size + 1, 0, none⟩ = some (.int .i64 0) := hT1.cell 0
      have q1 : wr.cell? ⟨w.heap.size + 1, 1, none⟩ = some (.int .i64 0) := hT1.cell 1
      have q2 : wr.cell? ⟨w.heap.size + 1, 2, none⟩ = some (.int .i64 0) := hT1.cell 2
      have q3 : wr.cell? ⟨w.heap.size + 1, 3, none⟩ = some (.int .i64 0) := hT1.cell 3
      have q4 : wr.cell? ⟨w.heap.size + 1, 4, none⟩ = some (.int .i64 0) := hT1.cell 4
      have q5 : wr.cell? ⟨w.heap.size + 1, 5, none⟩ = some (.int .i64 0) := hT1.cell 5
      have q6 : wr.cell? ⟨w.heap.size + 1, 6, none⟩ = some (.int .i64 0) := hT1.cell 6
      have q7 : wr.cell? ⟨w.heap.size + 1, 7, none⟩ = some (.int .i64 0) := hT1.cell 7
      have q8 : wr.cell? ⟨w.heap.size + 1, 8, none⟩ = some (.slice none 0 0) := hT1.cell 8
      have q9 : wr.cell? ⟨w.heap.size + 1, 9, none⟩ = some (.slice none 0 0) := hT1.cell 9
      have r0 : wr.frozen? ⟨w.heap.size + 1, 0, none⟩ = false := hT1.frozen 0
      have r1 : wr.frozen? ⟨w.heap.size + 1, 1, none⟩ = false := hT1.frozen 1
      have r2 : wr.frozen? ⟨w.heap.size + 1, 2, none⟩ = false := hT1.frozen 2
      have r3 : wr.frozen? ⟨w.heap.size + 1, 3, none⟩ = false := hT1.frozen 3
      have r4 : wr.frozen? ⟨w.heap.size + 1, 4, none⟩ = false := hT1.frozen 4
      have r5 : wr.frozen? ⟨w.heap.size + 1, 5, none⟩ = false := hT1.frozen 5
      have r6 : wr.frozen? ⟨w.heap.size + 1, 6, none⟩ = false := hT1.frozen 6
      have r7 : wr.frozen? ⟨w.heap.size + 1, 7, none⟩ = false := hT1.frozen 7
      have r8 : wr.frozen? ⟨w.heap.size + 1, 8, none⟩ = false := hT1.frozen 8
      have r9 : wr.frozen? ⟨w.heap.size + 1, 9, none⟩ = false := hT1.frozen 9
      obtain ⟨WF, hWF⟩ : ∃ WF, WF = (((((((((((wr.setCell ⟨w.heap.size, 9, none⟩ (.slice Ao l.length co)).setCell ⟨w.heap.size + 1, 0, none⟩ (.int .i64 mk)).setCell ⟨w.heap.size + 1, 1, none⟩ (.int .i64 mg)).setCell ⟨w.heap.size + 1, 2, none⟩ (.int .i64 ms)).setCell ⟨w.heap.size + 1, 3, none⟩ (.int .i64 md)).setCell ⟨w.heap.size + 1, 4, none⟩ (.int .i64 mb)).setCell ⟨w.heap.size + 1, 5, none⟩ (.int .i64 mt)).setCell ⟨w.heap.size + 1, 6, none⟩ (.int .i64 mc)).setCell ⟨w.heap.size + 1, 7, none⟩ (.int .i64 mq)).setCell ⟨w.heap.size + 1, 8, none⟩ (.slice A1 b.length c1)).setCell ⟨w.heap.size + 1, 9, none⟩ (.slice Ao l.length co)) := ⟨_, rfl⟩
      have hfin : Blk WF (w.heap.size + 1) 31 (msgCells ⟨mk, mg, ms, md, mb, mt, mc, mq, b, l⟩ (.slice A1 b.length c1) (.slice Ao l.length co)) := by
        have h := (((((((((((hT1.other (p := ⟨w.heap.size, 9, none⟩) (by simp) (.slice Ao l.length co)).set 0 (.int .i64 mk)).set 1 (.int .i64 mg)).set 2 (.int .i64 ms)).set 3 (.int .i64 md)).set 4 (.int .i64 mb)).set 5 (.int .i64 mt)).set 6 (.int .i64 mc)).set 7 (.int .i64 mq)).set 8 (.slice A1 b.length c1)).set 9 (.slice Ao l.length co))
        simp only [List.setIfInBounds_toArray, List.set_cons_zero, List.set_cons_succ] at h
        rw [hWF]
        exact h
      have htF : Touch (fun k => k = w.heap.size ∨ k = w.heap.size + 1) wr WF := by rw [hWF]; exact (((((((((((Touch.setCell (T := fun k => k = w.heap.size ∨ k = w.heap.size + 1) wr (p := ⟨w.heap.size, 9, none⟩) (.slice Ao l.length co) (fun _ => .inl rfl)).trans (Touch.setCell (p := ⟨w.heap.size + 1, 0, none⟩) _ (.int .i64 mk) (fun _ => .inr rfl)) (fun _ _ h => h)).trans (Touch.setCell (p := ⟨w.heap.size + 1, 1, none⟩) _ (.int .i64 mg) (fun _ => .inr rfl)) (fun _ _ h => h)).trans (Touch.setCell (p := ⟨w.heap.size + 1, 2, none⟩) _ (.int .i64 ms) (fun _ => .inr rfl)) (fun _ _ h => h)).trans (Touch.setCell (p := ⟨w.heap.size + 1, 3, none⟩) _ (.int .i64 md) (fun _ => .inr rfl)) (fun _ _ h => h)).trans (Touch.setCell (p := ⟨w.heap.size + 1, 4, none⟩) _ (.int .i64 mb) (fun _ => .inr rfl)) (fun _ _ h => h)).trans (Touch.setCell (p := ⟨w.heap.size + 1, 5, none⟩) _ (.int .i64 mt) (fun _ => .inr rfl)) (fun _ _ h => h)).trans (Touch.setCell (p := ⟨w.heap.size + 1, 6, none⟩) _ (.int .i64 mc) (fun _ => .inr rfl)) (fun _ _ h => h)).trans (Touch.setCell (p := ⟨w.heap.size + 1, 7, none⟩) _ (.int .i64 mq) (fun _ => .inr rfl)) (fun _ _ h => h)).trans (Touch.setCell (p := ⟨w.heap.size + 1, 8, none⟩) _ (.slice A1 b.length c1) (fun _ => .inr rfl)) (fun _ _ h => h)).trans (Touch.setCell (p := ⟨w.heap.size + 1, 9, none⟩) _ (.slice Ao l.length co) (fun _ => .inr rfl)) (fun _ _ h => h))
      have hzF := htF.size
      have hcF : CopyEnd w ⟨mk, mg, ms, md, mb, mt, mc, mq, b, l⟩ (.returned (.agg (msgCells ⟨mk, mg, ms, md, mb, mt, mc, mq, b, l⟩ (.slice A1 b.length c1) (.slice Ao l.length co)))) WF := by
        refine ⟨_, _, rfl, ?_, ?_, (Hbw2.out.trans (g6.mono (by omega))).trans (htF.below (fun k e => by omega) (by omega))⟩
        · exact SliceOf.touch RByte.kept (SliceOf.below (S' := fun k => w.heap.size + 2 ≤ k ∧ k < W2.heap.size) RByte.kept HB2.out g6 (fun k h => h.2) (fun _ h => h)) htF (fun k h => ⟨by omega, by omega⟩) (fun k h => ⟨by omega, by omega⟩)
        · have ho : Owns RVote 3 52 wr W2.heap.size S (.slice Ao l.length co) l := ⟨css, g2, g1⟩
          have ho2 := Owns.touch (S' := fun k => W2.heap.size ≤ k ∧ k < WF.heap.size) RVote.kept ho htF (fun k e e2 => by have := ho.lt k e; omega) (fun k h => ⟨by have := g3 k h; omega, by have := g3 k h; omega⟩) (fun k h => by have := g3 k h; omega)
          exact Owns.slice RVote.kept ho2 (fun k h => by omega) (fun k e => by have := ho2.lt k e; omega)
      have HWF := Lib.hid hWF
      have HF := Lib.hid hfin
      have HcF := Lib.hid hcF
      have hb2 := HB2.out
      have Hm : Hid (OutMem W2 l (.slice Ao l.length co) wr) := ⟨S, css, g1, g2, g3, g4, g6⟩
      have Hbb := Lib.hid g6
      have Hbt := Lib.hid hb2
      clear hWF hfin htF hzF hcF g1 g2 g3 g4 g6 hb2 hT0 hT1 HT02 HT12 HB2 HL2 hkl
      go_wp2_with fail
      try simp only [Exit.inBlock, Exit.then]
      rw [← HWF.out]
      refine bodyPost_ret ?_ rfl HcF.out
      have hres : Try.f14.results = #[.cell 2 31] := rfl
      exact results_cell_row hres _ WF (w.heap.size + 1) 31 _ (0, 0) _ rfl HF.out Try.underlying31 rfl (by kernel_rfl)
end Go.Proofs.Ytelgnemlnhcdmaa
