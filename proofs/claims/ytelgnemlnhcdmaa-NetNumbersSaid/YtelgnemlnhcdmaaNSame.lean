/- The contract of the reference's Same, of messages that are the same. -/
import Derived.Test.YtelgnemlnhcdmaaNKnown
namespace Go.Proofs.Ytelgnemlnhcdmaa
open Go.RowKit

theorem below_drewN {B : Nat} {w w' : World} (h : Below B w w') (n : Nat) : Below B w (w'.drewN n) := by
  induction n with
  | zero => exact h
  | succ n ih => exact Below.drew ih
set_option maxRecDepth 100000 in
set_option maxHeartbeats 2000000 in
theorem same_any (x : MsgT) (bv lv bv' lv' : Value) (S S' : Nat → Prop) (w : World) (hb : BytesAt w S bv x.b) (hl : SliceOf RVote 3 w S lv x.l) (hb' : BytesAt w S' bv' x.b) (hl' : SliceOf RVote 3 w S' lv' x.l) (hS : ∀ k, S k → k < w.heap.size) (hS' : ∀ k, S' k → k < w.heap.size) :
    Calls Try.prog 17 #[.agg (msgCells x bv lv), .agg (msgCells x bv' lv')] w (SameEnd w) := by
  obtain ⟨mk, mg, ms, md, mb, mt, mc, mq, b, l⟩ := x
  simp only at hb hl hb' hl'
  obtain ⟨Ab, cb, rfl⟩ := slice_shape hb
  obtain ⟨Al, cl, rfl⟩ := slice_shape hl
  obtain ⟨Ab', cb', rfl⟩ := slice_shape hb'
  obtain ⟨Al', cl', rfl⟩ := slice_shape hl'
  obtain ⟨W0, hW0⟩ : ∃ W0, W0 = (w.alloc (.cells (msgCells ⟨mk, mg, ms, md, mb, mt, mc, mq, b, l⟩ (.slice Ab b.length cb) (.slice Al l.length cl)) 31)).alloc (.cells (msgCells ⟨mk, mg, ms, md, mb, mt, mc, mq, b, l⟩ (.slice Ab' b.length cb') (.slice Al' l.length cl')) 31) := ⟨_, rfl⟩
  have hbW : Below w.heap.size w W0 := by rw [hW0]; exact ((Below.refl w.heap.size w).alloc (Nat.le_refl _) _).alloc (by simp) _
  have hT0 : Blk W0 w.heap.size 31 (msgCells ⟨mk, mg, ms, md, mb, mt, mc, mq, b, l⟩ (.slice Ab b.length cb) (.slice Al l.length cl)) := by rw [hW0]; exact (Blk.new w _ _).alloc _
  have hT1 : Blk W0 (w.heap.size + 1) 31 (msgCells ⟨mk, mg, ms, md, mb, mt, mc, mq, b, l⟩ (.slice Ab' b.length cb') (.slice Al' l.length cl')) := by rw [hW0]; have := Blk.new (w.alloc (.cells (msgCells ⟨mk, mg, ms, md, mb, mt, mc, mq, b, l⟩ (.slice Ab b.length cb) (.slice Al l.length cl)) 31)) 31 (msgCells ⟨mk, mg, ms, md, mb, mt, mc, mq, b, l⟩ (.slice Ab' b.length cb') (.slice Al' l.length cl')); rwa [World.size_alloc] at this
  have hB := SliceOf.below (S' := fun k => k < w.heap.size) RByte.kept hb hbW hS hS
  have hL := SliceOf.below (S' := fun k => k < w.heap.size) RVote.kept hl hbW hS hS
  have hB' := SliceOf.below (S' := fun k => k < w.heap.size) RByte.kept hb' hbW hS' hS'
  have hL' := SliceOf.below (S' := fun k => k < w.heap.size) RVote.kept hl' hbW hS' hS'
  have hmax : l.length ≤ 9223372036854775807 := by obtain ⟨_, _, _, _, h2, _⟩ := hl; unfold maxLen at h2; omega
  have kx : ∀ n, (convert 28 9 (.slice Ab b.length cb)).run Try.prog (W0.drewN n) = .ok (.string ⟨b.toArray⟩) (W0.drewN n) := fun n => conv_bytes hB Try.underlying28 Try.underlying5 Try.underlying9 (fun _ _ => rfl)
  have ky : ∀ n, (convert 28 9 (.slice Ab' b.length cb')).run Try.prog (W0.drewN n) = .ok (.string ⟨b.toArray⟩) (W0.drewN n) := fun n => conv_bytes hB' Try.underlying28 Try.underlying5 Try.underlying9 (fun _ _ => rfl)
  have p0 : W0.cell? ⟨w.heap.size, 0, none⟩ = some (.int .i64 mk) := hT0.cell 0
  have p1 : W0.cell? ⟨w.heap.size, 1, none⟩ = some (.int .i64 mg) := hT0.cell 1
  have p2 : W0.cell? ⟨w.heap.size, 2, none⟩ = some (.int .i64 ms) := hT0.cell 2
  have p3 : W0.cell? ⟨w.heap.size, 3, none⟩ = some (.int .i64 md) := hT0.cell 3
  have p4 : W0.cell? ⟨w.heap.size, 4, none⟩ = some (.int .i64 mb) := hT0.cell 4
  have p5 : W0.cell? ⟨w.heap.size, 5, none⟩ = some (.int .i64 mt) := hT0.cell 5
  have p6 : W0.cell? ⟨w.heap.size, 6, none⟩ = some (.int .i64 mc) := hT0.cell 6
  have p7 : W0.cell? ⟨w.heap.size, 7, none⟩ = some (.int .i64 mq) := hT0.cell 7
  have p8 : W0.cell? ⟨w.heap.size, 8, none⟩ = some (.slice Ab b.length cb) := hT0.cell 8
  have p9 : W0.cell? ⟨w.heap.size, 9, none⟩ = some (.slice Al l.length cl) := hT0.cell 9
  have q0 : W0.cell? ⟨w.heap.size + 1, 0, none⟩ = some (.int .i64 mk) := hT1.cell 0
  have q1 : W0.cell? ⟨w.heap.size + 1, 1, none⟩ = some (.int .i64 mg) := hT1.cell 1
  have q2 : W0.cell? ⟨w.heap.size + 1, 2, none⟩ = some (.int .i64 ms) := hT1.cell 2
  have q3 : W0.cell? ⟨w.heap.size + 1, 3, none⟩ = some (.int .i64 md) := hT1.cell 3
  have q4 : W0.cell? ⟨w.heap.size + 1, 4, none⟩ = some (.int .i64 mb) := hT1.cell 4
  have q5 : W0.cell? ⟨w.heap.size + 1, 5, none⟩ = some (.int .i64 mt) := hT1.cell 5
  have q6 : W0.cell? ⟨w.heap.size + 1, 6, none⟩ = some (.int .i64 mc) := hT1.cell 6
  have q7 : W0.cell? ⟨w.heap.size + 1, 7, none⟩ = some (.int .i64 mq) := hT1.cell 7
  have q8 : W0.cell? ⟨w.heap.size + 1, 8, none⟩ = some (.slice Ab' b.length cb') := hT1.cell 8
  have q9 : W0.cell? ⟨w.heap.size + 1, 9, none⟩ = some (.slice Al' l.length cl') := hT1.cell 9
  have kx0 : (convert 28 9 (.slice Ab b.length cb)).run Try.prog W0 = .ok (.string ⟨b.toArray⟩) W0 := kx 0
  have ky0 : (convert 28 9 (.slice Ab' b.length cb')).run Try.prog W0 = .ok (.string ⟨b.toArray⟩) W0 := ky 0
  rw [hW0] at kx0 ky0
  have HW0 := Lib.hid hW0
  have HbW := Lib.hid hbW
  have HL := Lib.hid hL
  have HL' := Lib.hid hL'
  have Kx := Lib.hid kx
  have Ky := Lib.hid ky
  clear hb hl hb' hl' hS hS' hW0 hbW hT0 hT1 hB hL hB' hL' kx ky
  go_enter Try.func17, Try.ntmps17
  go_wp2_with fail
  rw [← HW0.out]
  clear kx0 ky0
  have Hend : Hid (∀ n, SameEnd w (.returned (.bool true)) (W0.drewN n)) := Lib.hid (fun n => ⟨rfl, below_drewN HbW.out n⟩)
  go_loopw [5] (fun i wr => ∃ k : Nat, k ≤ l.length ∧ i = .int .i64 k ∧ ∃ n, wr = W0.drewN n) (fun i _ => l.length - (intOf i).toNat)
  case atStart => exact ⟨0, Nat.zero_le _, rfl, 0, rfl⟩
  case round =>
    obtain ⟨k, hk, rfl, n, rfl⟩ := hrel
    by_cases hlt : k < l.length
    · obtain ⟨r, hr⟩ : ∃ r, l[k]? = some r := ⟨l[k], List.getElem?_eq_getElem hlt⟩
      obtain ⟨ba, oa, rfl, _, cs, ⟨x, rfl, hx⟩, _, hc⟩ := HL.out.at hr
      obtain ⟨bb, ob, rfl, _, cs', ⟨y, rfl, hy⟩, _, hc'⟩ := HL'.out.at hr
      obtain ⟨rs, rb, rv⟩ := r
      simp only at hx hy hc hc'
      have hx0 : W0.cell? ⟨ba, oa + k * 3, none⟩ = some (.int .i64 rs) := by simpa using hc 0 _ rfl
      have hx1 : W0.cell? ⟨ba, oa + k * 3 + 1, none⟩ = some (.int .i64 rb) := by have := hc 1 _ rfl; rwa [← Nat.add_assoc] at this
      have hx2 : W0.cell? ⟨ba, oa + k * 3 + 2, none⟩ = some x := by have := hc 2 _ rfl; rwa [← Nat.add_assoc] at this
      have hy0 : W0.cell? ⟨bb, ob + k * 3, none⟩ = some (.int .i64 rs) := by simpa using hc' 0 _ rfl
      have hy1 : W0.cell? ⟨bb, ob + k * 3 + 1, none⟩ = some (.int .i64 rb) := by have := hc' 1 _ rfl; rwa [← Nat.add_assoc] at this
      have hy2 : W0.cell? ⟨bb, ob + k * 3 + 2, none⟩ = some y := by have := hc' 2 _ rfl; rwa [← Nat.add_assoc] at this
      have lx : ∀ n, (convert 28 9 x).run Try.prog (W0.drewN n) = .ok (.string ⟨rv.toArray⟩) (W0.drewN n) := fun n => conv_bytes hx Try.underlying28 Try.underlying5 Try.underlying9 (fun _ _ => rfl)
      have ly : ∀ n, (convert 28 9 y).run Try.prog (W0.drewN n) = .ok (.string ⟨rv.toArray⟩) (W0.drewN n) := fun n => conv_bytes hy Try.underlying28 Try.underlying5 Try.underlying9 (fun _ _ => rfl)
      have gk : (0 : Int) ≤ k := by omega
      have gl : (k : Int) < l.length := by omega
      clear hx hy hc hc' hr
      go_wp2_with fail
      go_quiet (fail)
      go_wp2_with fail
      go_roundw
      case rel => exact ⟨k + 1, by omega, by go_num, _, rfl⟩
      case measure => simp [intOf]; omega
    · go_wp2_with fail
      go_ret
      exact Hend.out n
end Go.Proofs.Ytelgnemlnhcdmaa
