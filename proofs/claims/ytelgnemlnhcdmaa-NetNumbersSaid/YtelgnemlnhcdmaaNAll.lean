/- The contract of All. -/
import Derived.Test.YtelgnemlnhcdmaaNFew
namespace Go.Proofs.Ytelgnemlnhcdmaa
open Go.RowKit

/-- What a call has put together so far, in a row of its own. -/
def OutRow {α : Type} (R : Rep α) (size : Nat) (e : TypeId) (w : World) (out : List α) (ov : Value) (wr : World) : Prop :=
  ∃ S css, wr.ownsRow w.heap.size e size ov out.length css.flatten ∧ RowsOf R size wr S css out ∧ (∀ k, S k → w.heap.size ≤ k ∧ k < wr.heap.size) ∧ (∀ k, ov.ownBlock = some k → ¬ S k) ∧ Below w.heap.size w wr
theorem OutRow.nil {α : Type} (R : Rep α) (size : Nat) (e : TypeId) (w : World) : OutRow R size e w ([] : List α) (.slice none 0 0) w :=
  ⟨fun _ => False, [], World.ownsRow_nil _ _ _ _, RowsOf.nil R size w _, fun _ h => h.elim, fun _ _ h => h, Below.refl _ _⟩
theorem OutRow.push {α : Type} {R : Rep α} (hR : Rep.Kept R) {size : Nat} {e : TypeId} {w wA wr w2 : World} {out : List α} {ov v2 : Value} {x : α} {cs : List Value} {Sb S : Nat → Prop} {css : List (List Value)} {L : Obj}
    (h1 : wA.ownsRow w.heap.size e size ov out.length css.flatten) (h2 : RowsOf R size wA S css out) (h3 : ∀ k, S k → w.heap.size ≤ k ∧ k < wA.heap.size) (h4 : ∀ k, ov.ownBlock = some k → ¬ S k) (h6 : Below w.heap.size w wA) (hb : Below wA.heap.size wA wr)
    (hlen : cs.length = size) (hx : R wr Sb cs x) (hSb : ∀ k, Sb k → wA.heap.size ≤ k ∧ k < wr.heap.size)
    (hown : w2.ownsRow w.heap.size e size v2 (out.length + 1) (css.flatten ++ cs)) (hg : (wr.alloc L).grownBy w2 ov.ownBlock) (hat : v2.ownBlock = ov.ownBlock ∨ v2.ownBlock = some (wr.alloc L).heap.size) :
    OutRow R size e w (out ++ [x]) v2 w2 := by
  have ht : Touch (fun k => ov.ownBlock = some k) wr w2 := (Touch.alloc _ wr L).trans (Touch.grown hg (fun g _ e => e)) (fun _ _ h => h)
  have hz := ht.size
  have hzb := hb.size
  have hlt := h1.lt
  have hk : ∀ k, S k → w2.heap[k]? = wA.heap[k]? := fun k hk => (ht.block k (by have := h3 k hk; omega) (fun e => h4 k e hk)).trans (hb.block k (h3 k hk).2)
  have hkb : ∀ k, Sb k → w2.heap[k]? = wr.heap[k]? := fun k hk => ht.block k (hSb k hk).2 (fun e => by have := hlt k e; have := hSb k hk; omega)
  refine ⟨fun k => S k ∨ Sb k, css ++ [cs], by rw [List.length_append]; simpa using hown, (RowsOf.keep hR h2 hk (fun _ h => .inl h)).snoc hlen (hR.keep hx hkb (fun _ h => .inr h)), ?_, ?_, (h6.trans (hb.mono h6.size)).trans (ht.below (fun k e => (hlt k e).1) (by have := h6.size; omega))⟩
  · rintro k (h | h)
    · have := h3 k h; exact ⟨this.1, by omega⟩
    · have := hSb k h; have := h6.size; exact ⟨by omega, by omega⟩
  · rintro k e (h | h)
    · rcases hat with e2 | e2
      · exact h4 k (e2 ▸ e) h
      · rw [e2] at e; simp at e; have := h3 k h; omega
    · rcases hat with e2 | e2
      · have := hlt k (e2 ▸ e); have := hSb k h; omega
      · rw [e2] at e; simp at e; have := hSb k h; omega
theorem OutRow.slice {α : Type} {R : Rep α} (hR : Rep.Kept R) {size : Nat} {e : TypeId} {w wr : World} {out : List α} {ov : Value} (h : OutRow R size e w out ov wr) : SliceOf R size wr (fun k => w.heap.size ≤ k ∧ k < wr.heap.size) ov out ∧ Below w.heap.size w wr := by
  obtain ⟨S, css, g1, g2, g3, g4, g6⟩ := h
  have ho : Owns R size e wr w.heap.size S ov out := ⟨css, g2, g1⟩
  exact ⟨Owns.slice hR ho g3 (fun k e => ho.lt k e), g6⟩
theorem take_more {α : Type} {l : List α} {q : Nat} {x : α} (h : l[q]? = some x) : l.take (q + 1) = l.take q ++ [x] := by
  obtain ⟨hk, rfl⟩ := List.getElem?_eq_some_iff.1 h
  rw [List.take_succ_eq_append_getElem hk]

def AllEnd (w : World) (ms : List MsgT) (e : Ending) (w' : World) : Prop := ∃ v, e = .returned v ∧ SliceOf RMsg 10 w' (fun k => w.heap.size ≤ k ∧ k < w'.heap.size) v ms ∧ Below w.heap.size w w'
set_option maxHeartbeats 2000000 in
theorem all_any {w : World} {base : Nat} {F : Nat → Prop} {D : Nat} {room : Int} {ms : List MsgT} (h : NetAt w base F D room ms) (hsm : Smalls ms) (hml : ms.length ≤ 1000) :
    Calls Try.prog 18 #[.pointer (some ⟨D, 0, none⟩)] w (AllEnd w ms) := by
  obtain ⟨A, cap, k0, k1, _, hs⟩ := h.slice
  have hF := fun k hk => (h.lt.2 k hk).2
  have Hs := Lib.hid hs
  have HF := Lib.hid hF
  have Hsm := Lib.hid hsm
  clear h hs hF hsm
  go_enter Try.func18, Try.ntmps18
  go_wp2_with fail
  go_loopw [3, 11] (fun ov i wr => ∃ k : Nat, k ≤ ms.length ∧ i = .int .i64 k ∧ OutRow RMsg 10 31 w (ms.take k) ov wr) (fun _ i _ => ms.length - (intOf i).toNat)
  case atStart => exact ⟨0, Nat.zero_le _, rfl, OutRow.nil _ _ _ _⟩
  case round =>
    obtain ⟨k, hk, rfl, hm⟩ := hrel
    by_cases hlt : k < ms.length
    · obtain ⟨x, hx⟩ : ∃ x, ms[k]? = some x := ⟨ms[k], List.getElem?_eq_getElem hlt⟩
      have hbb : Below w.heap.size w wr := by obtain ⟨_, _, _, _, _, _, h⟩ := hm; exact h
      have hzb := hbb.size
      obtain ⟨gb, off, rfl, hgS, cs, ⟨bv, lv, rfl, hb, hl⟩, _, hcc⟩ := (SliceOf.below (S' := fun k => k < w.heap.size) RMsg.kept Hs.out hbb HF.out HF.out).at hx
      have hxs := Hsm.out x (List.mem_of_getElem? hx)
      have hmore := take_more hx
      obtain ⟨mk, mg, ms', md, mb, mt, mc, mq, b, l⟩ := x
      simp only at hb hl hcc
      obtain ⟨Ab, cb', rfl⟩ := slice_shape hb
      obtain ⟨Al, cl', rfl⟩ := slice_shape hl
      have p0 : wr.cell? ⟨gb, off + k * 10, none⟩ = some (.int .i64 mk) := by simpa [Nat.add_assoc] using hcc 0 _ rfl
      have p1 : wr.cell? ⟨gb, off + k * 10 + 1, none⟩ = some (.int .i64 mg) := by simpa [Nat.add_assoc] using hcc 1 _ rfl
      have p2 : wr.cell? ⟨gb, off + k * 10 + 2, none⟩ = some (.int .i64 ms') := by simpa [Nat.add_assoc] using hcc 2 _ rfl
      have p3 : wr.cell? ⟨gb, off + k * 10 + 3, none⟩ = some (.int .i64 md) := by simpa [Nat.add_assoc] using hcc 3 _ rfl
      have p4 : wr.cell? ⟨gb, off + k * 10 + 4, none⟩ = some (.int .i64 mb) := by simpa [Nat.add_assoc] using hcc 4 _ rfl
      have p5 : wr.cell? ⟨gb, off + k * 10 + 5, none⟩ = some (.int .i64 mt) := by simpa [Nat.add_assoc] using hcc 5 _ rfl
      have p6 : wr.cell? ⟨gb, off + k * 10 + 6, none⟩ = some (.int .i64 mc) := by simpa [Nat.add_assoc] using hcc 6 _ rfl
      have p7 : wr.cell? ⟨gb, off + k * 10 + 7, none⟩ = some (.int .i64 mq) := by simpa [Nat.add_assoc] using hcc 7 _ rfl
      have p8 : wr.cell? ⟨gb, off + k * 10 + 8, none⟩ = some (.slice Ab b.length cb') := by simpa [Nat.add_assoc] using hcc 8 _ rfl
      have p9 : wr.cell? ⟨gb, off + k * 10 + 9, none⟩ = some (.slice Al l.length cl') := by simpa [Nat.add_assoc] using hcc 9 _ rfl
      obtain ⟨S, css, g1, g2, g3, g4, g6⟩ := hm
      have hn : (ms.take k).length = k := by rw [List.length_take]; omega
      rw [hn] at g1
      obtain ⟨Ao, co, rfl⟩ := own_shape g1
      have hal : Below wr.heap.size wr (wr.alloc (.cells (msgCells ⟨mk, mg, ms', md, mb, mt, mc, mq, b, l⟩ (.slice Ab b.length cb') (.slice Al l.length cl')) 31)) := (Below.refl _ _).alloc (Nat.le_refl _) _
      have hcall := copy_any ⟨mk, mg, ms', md, mb, mt, mc, mq, b, l⟩ (.slice Ab b.length cb') (.slice Al l.length cl') (fun k => k < w.heap.size) _ (SliceOf.below (S' := fun k => k < w.heap.size) RByte.kept hb hal (fun k h => by omega) (fun _ h => h)) (SliceOf.below (S' := fun k => k < w.heap.size) RVote.kept hl hal (fun k h => by omega) (fun _ h => h)) (fun k h => by simp; omega) hxs
      have Hcall := Lib.hid hcall
      have Hal := Lib.hid hal
      have G1 := Lib.hid g1
      have G2 := Lib.hid g2
      have G3 := Lib.hid g3
      have G4 := Lib.hid g4
      have G6 := Lib.hid g6
      have Hn := Lib.hid hn
      have Hmore := Lib.hid hmore
      clear hb hl hcall hal g1 g2 g3 g4 g6 hn hmore hbb hx hcc hxs
      go_wp2_with fail
      refine Hcall.out.mono ?_
      rintro e w3 ⟨bv3, lv3, rfl, hb3, hl3, b3⟩
      obtain ⟨A3, c3, rfl⟩ := slice_shape hb3
      obtain ⟨A4, c4, rfl⟩ := slice_shape hl3
      have hb4 : Below wr.heap.size wr w3 := Hal.out.trans (b3.mono (by simp))
      have hz4 := hb4.size
      have hx3 : RMsg w3 (fun k => wr.heap.size ≤ k ∧ k < w3.heap.size) (msgCells ⟨mk, mg, ms', md, mb, mt, mc, mq, b, l⟩ (.slice A3 b.length c3) (.slice A4 l.length c4)).toList ⟨mk, mg, ms', md, mb, mt, mc, mq, b, l⟩ := ⟨_, _, rfl, SliceOf.below RByte.kept hb3 (Below.refl w3.heap.size w3) (fun k h => h.2) (fun k h => by simp at h; omega), SliceOf.below RVote.kept hl3 (Below.refl w3.heap.size w3) (fun k h => h.2) (fun k h => by simp at h; omega)⟩
      have G14 := Lib.hid (own_below G1.out hb4)
      have Hpush := Lib.hid (fun v5 w5 => @OutRow.push MsgT RMsg RMsg.kept 10 31 w wr w3 w5 (ms.take k) (.slice Ao k co) v5 ⟨mk, mg, ms', md, mb, mt, mc, mq, b, l⟩ (msgCells ⟨mk, mg, ms', md, mb, mt, mc, mq, b, l⟩ (.slice A3 b.length c3) (.slice A4 l.length c4)).toList (fun k => wr.heap.size ≤ k ∧ k < w3.heap.size) S css (.cells (msgCells ⟨mk, mg, ms', md, mb, mt, mc, mq, b, l⟩ (.slice A3 b.length c3) (.slice A4 l.length c4)) 31) (by rw [Hn.out]; exact G1.out) G2.out G3.out G4.out G6.out hb4 rfl hx3 (fun _ h => h))
      clear hb3 hl3 b3 hb4 hx3
      go_wp2_with (at_builtin; refine wpList_append_src rfl _ _ 43 rfl w.heap.size 31 (.agg msgZero.toArray) 10 112 Try.underlying43 msg_info (by rfl) (by omega) (.slice Ao k co) k css.flatten rfl (by exact G14.out.alloc _) (some ⟨w3.heap.size, 0, none⟩) 1 1 (msgCells ⟨mk, mg, ms', md, mb, mt, mc, mq, b, l⟩ (.slice A3 b.length c3) (.slice A4 l.length c4)).toList rfl rfl (fun _ => ⟨w3.heap.size, 0, rfl, fun j u hj => by have := World.news_of_block (w := w3.alloc _) (heap_alloc_new w3 (.cells (msgCells ⟨mk, mg, ms', md, mb, mt, mc, mq, b, l⟩ (.slice A3 b.length c3) (.slice A4 l.length c4)) 31)) j u hj; rwa [WideShapes.add_plain] at this⟩) (by intro u hu; simp at hu; rcases hu with rfl | rfl | rfl | rfl | rfl | rfl | rfl | rfl | rfl | rfl <;> rfl) (by omega) (by omega) (by simp; omega) ?_; intro v5 w5 hown5 hg5 hat5)
      have hp := Hpush.out v5 w5 (by rw [Hn.out]; exact hown5) hg5 hat5
      rw [← Hmore.out] at hp
      have Hp := Lib.hid hp
      obtain ⟨A5, c5, rfl⟩ := own_shape hown5
      clear hp hown5 hg5 hat5
      go_wp2_with fail
      go_roundw
      case rel => exact ⟨k + 1, by omega, by go_num, Hp.out⟩
      case measure => simp [intOf]; omega
    · have hkl : ms.take k = ms := List.take_of_length_le (by omega)
      rw [hkl] at hm
      obtain ⟨he1, he2⟩ := OutRow.slice RMsg.kept hm
      have He1 := Lib.hid he1
      have He2 := Lib.hid he2
      clear hm hkl he1 he2
      go_wp2_with fail
      go_ret
      exact ⟨_, rfl, He1.out, He2.out⟩
end Go.Proofs.Ytelgnemlnhcdmaa
