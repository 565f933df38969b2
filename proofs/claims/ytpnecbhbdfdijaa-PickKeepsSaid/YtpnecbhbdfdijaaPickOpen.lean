/- The draws of a statement, opened: lists of lists of votes as they are drawn. -/
import Derived.Test.YtpnecbhbdfdijaaPickLists
import Derived.Test.YtpnecbhbdfdijaaOpen
import Derived.ProofKit
import Derived.Deep.Strs
import Derived.OpenShut
namespace Go.Proofs.Ytpnecbhbdfdijaa
open Go.RowKit Go.ChangeShapes Go.WideShapes Go.Deep

theorem draw_struct : ∃ f0 f1 f2, Try.prog.underlying 41 = some (.struct #[f0, f1, f2]) ∧ f0.type = 3 ∧ f1.type = 3 ∧ f2.type = 22 ∧ f0.offset = 0 ∧ f1.offset = 1 ∧ f2.offset = 2 := ⟨_, _, _, Try.underlying41, rfl, rfl, rfl, rfl, rfl, rfl⟩
instance : Inhabited VoteT := ⟨⟨0, 0, []⟩⟩
theorem open_draw {H : Type} {enc : TypeId × Value → H} {w : World} {base : Nat} {spare : Nat → Bool} {held : Bool} (n : Nat) (cs : List Value) (y : DataW H × List MemPlace) (h : DataW.trod enc Try.prog w base spare held n 41 cs = some y) (hl : cs.length = 3) : ∃ x, RDraw w (fun k => k < w.heap.size) cs x := by
  obtain ⟨f0, f1, f2, hs, t0, t1, t2, o0, o1, o2⟩ := draw_struct
  obtain ⟨y0, y1, y2, m, _, _, h0, h1, h2⟩ := trod_struct3 hs h
  match cs, hl with
  | [a, b, c], _ =>
    rw [t0, o0] at h0
    rw [t1, o1] at h1
    rw [t2, o2] at h2
    have c3 : Try.prog.cellsOf 3 = 1 := by kernel_rfl
    have c22 : Try.prog.cellsOf 22 = 1 := by kernel_rfl
    rw [c3] at h0 h1
    rw [c22] at h2
    obtain ⟨z, hz, _, wz⟩ := DataW.trod_int Try.underlying3 h0
    obtain ⟨u, hu, _, wu⟩ := DataW.trod_int Try.underlying3 h1
    obtain ⟨lb, hb⟩ := open_bytes (v := c) h2
    have bz := bounds_i64 wz
    have bu := bounds_i64 wu
    simp at hz hu
    subst hz
    subst hu
    exact ⟨⟨z, u, lb⟩, ⟨c, rfl, hb⟩, bz.1, bz.2, bu.1, bu.2⟩
theorem open_drawrow {H : Type} {enc : TypeId × Value → H} {w : World} {base : Nat} {spare : Nat → Bool} {held : Bool} (n : Nat) (cs : List Value) (y : DataW H × List MemPlace) (h : DataW.trod enc Try.prog w base spare held n 39 cs = some y) (hl : cs.length = 1) : ∃ x, RDraws w (fun k => k < w.heap.size) cs x := by
  match cs, hl with
  | [v], _ =>
    obtain ⟨l, hl⟩ := open_sliceOf (size := 3) (R := RDraw) Try.underlying39 (by kernel_rfl) (by omega) open_draw h
    exact ⟨l, v, rfl, hl⟩
theorem open_draws {H : Type} {enc : TypeId × Value → H} {w : World} {base : Nat} {spare : Nat → Bool} {held : Bool} {fuel : Nat} {v : Value} {y : DataW H × List MemPlace} (h : DataW.trod enc Try.prog w base spare held fuel 31 [v] = some y) : ∃ l, SliceOf RDraws 1 w (fun k => k < w.heap.size) v l :=
  open_sliceOf Try.underlying31 (by kernel_rfl) (by omega) open_drawrow h
end Go.Proofs.Ytpnecbhbdfdijaa
