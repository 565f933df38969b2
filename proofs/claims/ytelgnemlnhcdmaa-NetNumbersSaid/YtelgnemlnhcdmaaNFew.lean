/- The contract of the statements' helper 'few'. -/
import Derived.Test.YtelgnemlnhcdmaaNSame
namespace Go.Proofs.Ytelgnemlnhcdmaa
open Go.RowKit

def fewT (x : MsgT) : MsgT := { x with b := x.b.take 20, l := x.l.take 3 }
def FewEnd (w : World) (S : Nat → Prop) (x : MsgT) (e : Ending) (w' : World) : Prop :=
  ∃ A n c A' n' c', n = x.b.length ∧ n' = x.l.length ∧ e = .returned (.agg (msgCells x (.slice A n c) (.slice A' n' c'))) ∧ BytesAt w' S (.slice A n c) x.b ∧ SliceOf RVote 3 w' S (.slice A' n' c') x.l ∧ Below w.heap.size w w'
set_option maxHeartbeats 2000000 in
theorem few_any (x : MsgT) (bv lv : Value) (S : Nat → Prop) (w : World) (hb : BytesAt w S bv x.b) (hl : SliceOf RVote 3 w S lv x.l) (hS : ∀ k, S k → k < w.heap.size) :
    Calls Try.prog 16 #[.agg (msgCells x bv lv)] w (FewEnd w S (fewT x)) := by
  obtain ⟨mk, mg, ms, md, mb, mt, mc, mq, b, l⟩ := x
  simp only at hb hl
  obtain ⟨Ab, cb, rfl⟩ := slice_shape hb
  obtain ⟨Al, cl, rfl⟩ := slice_shape hl
  have hcb : b.length ≤ cb ∧ cb ≤ 9223372036854775807 := by obtain ⟨_, _, e, h1, h2, _⟩ := hb; injection e with _ _ e; subst e; unfold maxLen at h2; omega
  have hcl : l.length ≤ cl ∧ cl ≤ 9223372036854775807 := by obtain ⟨_, _, e, h1, h2, _⟩ := hl; injection e with _ _ e; subst e; unfold maxLen at h2; omega
  have hfin : ∀ (n n' : Nat) (o o' : Obj), n ≤ b.length → n' ≤ l.length → b.take n = b.take 20 → l.take n' = l.take 3 → FewEnd w S (fewT ⟨mk, mg, ms, md, mb, mt, mc, mq, b, l⟩) (.returned (.agg (msgCells ⟨mk, mg, ms, md, mb, mt, mc, mq, b, l⟩ (.slice Ab n cb) (.slice Al n' cl)))) ((w.alloc o).alloc o') := by
    intro n n' o o' h1 h2 h3 h4
    have hbel : Below w.heap.size w ((w.alloc o).alloc o') := ((Below.refl w.heap.size w).alloc (Nat.le_refl _) _).alloc (by simp) _
    have hb2 := (SliceOf.take hb n (by omega)).2
    have hl2 := (SliceOf.take hl n' (by omega)).2
    rw [h3] at hb2
    rw [h4] at hl2
    refine ⟨_, _, _, _, _, _, ?_, ?_, rfl, SliceOf.below RByte.kept hb2 hbel hS (fun _ h => h), SliceOf.below RVote.kept hl2 hbel hS (fun _ h => h), hbel⟩
    · show n = (b.take 20).length
      rw [← h3, List.length_take]; omega
    · show n' = (l.take 3).length
      rw [← h4, List.length_take]; omega
  have Hfin := Lib.hid hfin
  clear hb hl hS hfin
  have hres : Try.f16.results = #[.cell 2 31] := rfl
  by_cases h1 : 20 < b.length
  · have g1 : (20 : Int) < b.length := by omega
    have g2 : 20 ≤ cb := by omega
    by_cases h2 : 3 < l.length
    · have g3 : (3 : Int) < l.length := by omega
      have g4 : 3 ≤ cl := by omega
      go_enter Try.func16, Try.ntmps16
      go_wp2_with fail
      try simp only [Exit.inBlock, Exit.then]
      exact bodyPost_ret (results_cell_row hres _ _ (w.heap.size + 1) 31 (msgCells ⟨mk, mg, ms, md, mb, mt, mc, mq, b, l⟩ (.slice Ab 20 cb) (.slice Al 3 cl)) (0, 0) _ rfl (heap_alloc2_new w _ _) Try.underlying31 rfl (by kernel_rfl)) rfl (Hfin.out 20 (3) _ _ (by omega) (by omega) rfl rfl)
    · have g3 : ¬ (3 : Int) < l.length := by omega
      go_enter Try.func16, Try.ntmps16
      go_wp2_with fail
      try simp only [Exit.inBlock, Exit.then]
      exact bodyPost_ret (results_cell_row hres _ _ (w.heap.size + 1) 31 (msgCells ⟨mk, mg, ms, md, mb, mt, mc, mq, b, l⟩ (.slice Ab 20 cb) (.slice Al l.length cl)) (0, 0) _ rfl (heap_alloc2_new w _ _) Try.underlying31 rfl (by kernel_rfl)) rfl (Hfin.out 20 (l.length) _ _ (by omega) (by omega) rfl (by rw [List.take_of_length_le (Nat.le_refl _), List.take_of_length_le (by omega)]))
  · have g1 : ¬ (20 : Int) < b.length := by omega
    by_cases h2 : 3 < l.length
    · have g3 : (3 : Int) < l.length := by omega
      have g4 : 3 ≤ cl := by omega
      go_enter Try.func16, Try.ntmps16
      go_wp2_with fail
      try simp only [Exit.inBlock, Exit.then]
      exact bodyPost_ret (results_cell_row hres _ _ (w.heap.size + 1) 31 (msgCells ⟨mk, mg, ms, md, mb, mt, mc, mq, b, l⟩ (.slice Ab b.length cb) (.slice Al 3 cl)) (0, 0) _ rfl (heap_alloc2_new w _ _) Try.underlying31 rfl (by kernel_rfl)) rfl (Hfin.out b.length (3) _ _ (by omega) (by omega) (by rw [List.take_of_length_le (Nat.le_refl _), List.take_of_length_le (by omega)]) rfl)
    · have g3 : ¬ (3 : Int) < l.length := by omega
      go_enter Try.func16, Try.ntmps16
      go_wp2_with fail
      try simp only [Exit.inBlock, Exit.then]
      exact bodyPost_ret (results_cell_row hres _ _ (w.heap.size + 1) 31 (msgCells ⟨mk, mg, ms, md, mb, mt, mc, mq, b, l⟩ (.slice Ab b.length cb) (.slice Al l.length cl)) (0, 0) _ rfl (heap_alloc2_new w _ _) Try.underlying31 rfl (by kernel_rfl)) rfl (Hfin.out b.length (l.length) _ _ (by omega) (by omega) (by rw [List.take_of_length_le (Nat.le_refl _), List.take_of_length_le (by omega)]) (by rw [List.take_of_length_le (Nat.le_refl _), List.take_of_length_le (by omega)]))
end Go.Proofs.Ytelgnemlnhcdmaa
