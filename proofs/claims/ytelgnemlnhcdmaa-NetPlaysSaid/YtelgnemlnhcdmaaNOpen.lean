/- The draws of the statements, opened. -/
import Derived.Test.YtelgnemlnhcdmaaNOrders
import Derived.Test.YtelgnemlnhcdmaaOpen
import Derived.ProofKit
import Derived.Deep.Strs
import Derived.OpenShut
namespace Go.Proofs.Ytelgnemlnhcdmaa
open Go.RowKit Go.ChangeShapes Go.WideShapes Go.Deep

theorem open_intcell {H : Type} {enc : TypeId × Value → H} {w : World} {base : Nat} {spare : Nat → Bool} {held : Bool} (n : Nat) (cs : List Value) (y : DataW H × List MemPlace) (h : DataW.trod enc Try.prog w base spare held n 3 cs = some y) (_ : cs.length = 1) : ∃ x, RInt w (fun k => k < w.heap.size) cs x := by
  obtain ⟨z, rfl, _, hw⟩ := DataW.trod_int Try.underlying3 h
  have hb := bounds_i64 hw
  exact ⟨z, rfl, hb.1, hb.2⟩
theorem open_ints {H : Type} {enc : TypeId × Value → H} {w : World} {base : Nat} {spare : Nat → Bool} {held : Bool} {fuel : Nat} {v : Value} {y : DataW H × List MemPlace} (h : DataW.trod enc Try.prog w base spare held fuel 22 [v] = some y) : ∃ l, SliceOf RInt 1 w (fun k => k < w.heap.size) v l :=
  open_sliceOf Try.underlying22 (by kernel_rfl) (by omega) open_intcell h
end Go.Proofs.Ytelgnemlnhcdmaa
