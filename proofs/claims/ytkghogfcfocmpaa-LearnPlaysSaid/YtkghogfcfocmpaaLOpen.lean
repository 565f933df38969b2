/- The draws of the statements, opened. -/
import Derived.Test.YtkghogfcfocmpaaLFirm2
import Derived.Test.YtkghogfcfocmpaaOpen
import Derived.ProofKit
import Derived.Deep.Strs
import Derived.OpenShut
namespace Go.Proofs.Ytkghogfcfocmpaa
open Go.RowKit Go.ChangeShapes Go.WideShapes Go.Deep

def RInt : Rep Int := fun _ _ cs x => cs = [.int .i64 x] ∧ -9223372036854775808 ≤ x ∧ x ≤ 9223372036854775807
theorem RInt.kept : Rep.Kept RInt := ⟨fun h _ _ => h⟩
theorem open_intcell {H : Type} {enc : TypeId × Value → H} {w : World} {base : Nat} {spare : Nat → Bool} {held : Bool} (n : Nat) (cs : List Value) (y : DataW H × List MemPlace) (h : DataW.trod enc Try.prog w base spare held n 3 cs = some y) (_ : cs.length = 1) : ∃ x, RInt w (fun k => k < w.heap.size) cs x := by
  obtain ⟨z, rfl, _, hw⟩ := DataW.trod_int Try.underlying3 h
  have hb := bounds_i64 hw
  exact ⟨z, rfl, hb.1, hb.2⟩
theorem open_ints {H : Type} {enc : TypeId × Value → H} {w : World} {base : Nat} {spare : Nat → Bool} {held : Bool} {fuel : Nat} {v : Value} {y : DataW H × List MemPlace} (h : DataW.trod enc Try.prog w base spare held fuel 23 [v] = some y) : ∃ l, SliceOf RInt 1 w (fun k => k < w.heap.size) v l :=
  open_sliceOf Try.underlying23 (by kernel_rfl) (by omega) open_intcell h
theorem trod_struct6 {H : Type} {enc : TypeId × Value → H} {P : Program} {w : World} {base : Nat} {spare : Nat → Bool} {held : Bool} {t : TypeId} {f0 f1 f2 f3 f4 f5 : Field} {fuel : Nat} {cs : List Value} {x : DataW H × List MemPlace} (ht : P.underlying t = some (.struct #[f0, f1, f2, f3, f4, f5])) (h : DataW.trod enc P w base spare held fuel t cs = some x) :
    ∃ y0 y1 y2 y3 y4 y5 n, DataW.trod enc P w base spare held n f0.type ((cs.drop f0.offset).take (P.cellsOf f0.type)) = some y0 ∧ DataW.trod enc P w base spare held n f1.type ((cs.drop f1.offset).take (P.cellsOf f1.type)) = some y1 ∧ DataW.trod enc P w base spare held n f2.type ((cs.drop f2.offset).take (P.cellsOf f2.type)) = some y2 ∧ DataW.trod enc P w base spare held n f3.type ((cs.drop f3.offset).take (P.cellsOf f3.type)) = some y3 ∧ DataW.trod enc P w base spare held n f4.type ((cs.drop f4.offset).take (P.cellsOf f4.type)) = some y4 ∧ DataW.trod enc P w base spare held n f5.type ((cs.drop f5.offset).take (P.cellsOf f5.type)) = some y5 := by
  obtain ⟨xs, n, _, rfl, hl, hlen, hf⟩ := DataW.trod_struct ht h
  match xs, hlen with
  | [y0, y1, y2, y3, y4, y5], _ => exact ⟨y0, y1, y2, y3, y4, y5, n, by simpa using hf 0 f0 rfl, by simpa using hf 1 f1 rfl, by simpa using hf 2 f2 rfl, by simpa using hf 3 f3 rfl, by simpa using hf 4 f4 rfl, by simpa using hf 5 f5 rfl⟩
theorem ask_struct : ∃ f0 f1 f2 f3 f4 f5, Try.prog.underlying 30 = some (.struct #[f0, f1, f2, f3, f4, f5]) ∧ f0.type = 3 ∧ f0.offset = 0 ∧ f1.type = 3 ∧ f1.offset = 1 ∧ f2.type = 3 ∧ f2.offset = 2 ∧ f3.type = 3 ∧ f3.offset = 3 ∧ f4.type = 3 ∧ f4.offset = 4 ∧ f5.type = 4 ∧ f5.offset = 5 := ⟨_, _, _, _, _, _, Try.underlying30, rfl, rfl, rfl, rfl, rfl, rfl, rfl, rfl, rfl, rfl, rfl, rfl⟩
instance : Inhabited LAskT := ⟨⟨0, 0, 0, 0, 0, false⟩⟩
theorem open_ask {H : Type} {enc : TypeId × Value → H} {w : World} {base : Nat} {spare : Nat → Bool} {held : Bool} (n : Nat) (cs : List Value) (y : DataW H × List MemPlace) (h : DataW.trod enc Try.prog w base spare held n 30 cs = some y) (hl : cs.length = 6) : ∃ x, RLAsk w (fun k => k < w.heap.size) cs x := by
  obtain ⟨f0, f1, f2, f3, f4, f5, hs, t0, o0, t1, o1, t2, o2, t3, o3, t4, o4, t5, o5⟩ := ask_struct
  obtain ⟨y0, y1, y2, y3, y4, y5, m, h0, h1, h2, h3, h4, h5⟩ := trod_struct6 hs h
  match cs, hl with
  | [a, b, c, d, e, g], _ =>
    rw [t0, o0] at h0
    rw [t1, o1] at h1
    rw [t2, o2] at h2
    rw [t3, o3] at h3
    rw [t4, o4] at h4
    rw [t5, o5] at h5
    have c3 : Try.prog.cellsOf 3 = 1 := by kernel_rfl
    have c4 : Try.prog.cellsOf 4 = 1 := by kernel_rfl
    rw [c3] at h0 h1 h2 h3 h4
    rw [c4] at h5
    obtain ⟨z0, q0, _, w0⟩ := DataW.trod_int Try.underlying3 h0
    obtain ⟨z1, q1, _, w1⟩ := DataW.trod_int Try.underlying3 h1
    obtain ⟨z2, q2, _, w2⟩ := DataW.trod_int Try.underlying3 h2
    obtain ⟨z3, q3, _, w3⟩ := DataW.trod_int Try.underlying3 h3
    obtain ⟨z4, q4, _, w4⟩ := DataW.trod_int Try.underlying3 h4
    obtain ⟨z5, q5, _⟩ := DataW.trod_bool Try.underlying4 h5
    simp at q0 q1 q2 q3 q4 q5
    subst q0 q1 q2 q3 q4 q5
    exact ⟨⟨z0, z1, z2, z3, z4, z5⟩, rfl, bounds_i64 w0, bounds_i64 w1, bounds_i64 w2, bounds_i64 w3, bounds_i64 w4⟩
theorem open_asks {H : Type} {enc : TypeId × Value → H} {w : World} {base : Nat} {spare : Nat → Bool} {held : Bool} {fuel : Nat} {v : Value} {y : DataW H × List MemPlace} (h : DataW.trod enc Try.prog w base spare held fuel 22 [v] = some y) : ∃ l, SliceOf RLAsk 6 w (fun k => k < w.heap.size) v l :=
  open_sliceOf Try.underlying22 (by kernel_rfl) (by omega) open_ask h
end Go.Proofs.Ytkghogfcfocmpaa
