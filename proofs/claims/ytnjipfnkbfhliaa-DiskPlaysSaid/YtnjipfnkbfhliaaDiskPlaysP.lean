/- The statement DiskPlays returns true for every l. No condition. -/
import Derived.Test.YtnjipfnkbfhliaaRows
import Derived.Test.YtnjipfnkbfhliaaDiskPlays
import Derived.WalkKit
import Derived.ProofKit
import Derived.OpenShut
import Derived.ChangeOld
import Derived.Deep.Strs
import Derived.Below
namespace Go.Proofs.Ytnjipfnkbfhliaa.diskPlays
open Go.ChangeShapes Go.WideShapes Go.ChangeAt Go.RowKit Go.Deep
set_option linter.unusedVariables false

theorem own : ownKnob Try.prog.godebug = none := by kernel_rfl
theorem laidOut : laidOutB Try.prog = true := by kernel_rfl

theorem ask_struct : ∃ f0 f1 f2, Try.prog.underlying 32 = some (.struct #[f0, f1, f2]) ∧ f0.type = 3 ∧ f1.type = 30 ∧ f2.type = 26 ∧ f0.offset = 0 ∧ f1.offset = 1 ∧ f2.offset = 2 := ⟨_, _, _, Try.underlying32, rfl, rfl, rfl, rfl, rfl, rfl⟩
theorem open_ask {H : Type} {enc : TypeId × Value → H} {w : World} {base : Nat} {spare : Nat → Bool} {held : Bool} (n : Nat) (cs : List Value) (y : DataW H × List MemPlace) (h : DataW.trod enc Try.prog w base spare held n 32 cs = some y) (hl : cs.length = 3) : ∃ x, RAsk w (fun k => k < w.heap.size) cs x := by
  obtain ⟨f0, f1, f2, hs, t0, t1, t2, o0, o1, o2⟩ := ask_struct
  obtain ⟨y0, y1, y2, m, _, _, h0, h1, h2⟩ := trod_struct3 hs h
  match cs, hl with
  | [a, b, c], _ =>
    rw [t0, o0] at h0
    rw [t1, o1] at h1
    rw [t2, o2] at h2
    have c3 : Try.prog.cellsOf 3 = 1 := by kernel_rfl
    have c30 : Try.prog.cellsOf 30 = 1 := by kernel_rfl
    have c26 : Try.prog.cellsOf 26 = 1 := by kernel_rfl
    rw [c3] at h0
    rw [c30] at h1
    rw [c26] at h2
    obtain ⟨z, hz, _, _⟩ := DataW.trod_int Try.underlying3 h0
    obtain ⟨lb, hb⟩ := open_bytes (v := b) h1
    obtain ⟨ll, hll⟩ := open_texts (v := c) h2
    simp at hz
    subst hz
    exact ⟨⟨z, lb, ll⟩, b, c, rfl, hb, hll⟩

/-! ### From the walk to the statement -/
set_option maxRecDepth 100000 in
theorem lifted (os : Os) (started : os.Started) (H : Type) (enc : TypeId × Value → H) :
    ReturnsInHanded {} Try.checked os 4 .any (Rows.diskPlaysSpec.pre6 enc Try.prog Try.f4 Rows.diskPlaysRow.domain false) (Rows.diskPlaysSpec.post enc Try.prog Try.f4 false true false false) := by
  refine returnsInHanded_of_change (C := Try.checked) own started (by kernel_rfl) Try.func4
    (ChangeSpec.witness6 (enc := enc) (C := Try.checked) false ⟨#[], #[.slice none 0 0], []⟩ 8 (by kernel_rfl) (by kernel_rfl) (by kernel_rfl) (by kernel_rfl)) ?_
  intro W base args ds gs before hval0 hW hcnd hsz
  have hval : ∀ (j : Nat) t v, Try.f4.params[j]? = some t → args[j]? = some v → Value.okWide Try.prog W .any base t v := hval0
  have hW' := hW
  obtain ⟨p, q, hA0, hV, rfl, hfz, hnd⟩ := hW
  have hA : DataW.TrodAll enc Try.prog W 0 (fun _ => true) true Try.f4.params.toList args.toList ds p := hA0
  rw [Try.params4] at hA hval
  obtain ⟨v0, vs0, d0, ds0, p0, q0, hargs, rfl, rfl, h0, r0⟩ := trodAll_cons hA
  obtain ⟨rfl, rfl, rfl⟩ := trodAll_nil r0
  obtain rfl : args = #[v0] := by cases args; simp_all
  obtain ⟨rfl, rfl⟩ := trodVars_none hV
  obtain ⟨a0, len0, cap0, rfl⟩ := okWide_slice Try.underlying29 (hval 0 29 v0 rfl rfl)
  have k0 := h0
  have lt0 : ∀ x ∈ p0, x.block < W.heap.size := by obtain ⟨m, hm⟩ := k0; exact DataW.trod_lt m _ _ _ hm
  clear hA0 hval0
  obtain ⟨l, hl⟩ : ∃ l, SliceOf RAsk 3 W (fun g => g < W.heap.size) (.slice a0 len0 cap0) l := by obtain ⟨fuel, hx⟩ := h0; exact open_sliceOf Try.underlying29 (by kernel_rfl) (by omega) open_ask (by simpa [Value.cells] using hx)
  refine (plays_walk _ l W hl).mono fun e W' ⟨he, bel⟩ => ?_
  subst he
  exact ⟨_, rfl, _, _, _, [], _, [], hW', trodAll_mk1 (shut_bool Try.underlying4 _), (trodAll_cons_mk (Below.trod laidOut (by kernel_rfl) (of_decide_eq_true (by kernel_rfl)) k0 bel lt0) trodAll_mk0), rfl, bel.frame _, fun h => by cases h⟩

theorem over : Rows.diskPlaysRow.holds Try.pinned (OpenSpec.ofChange Rows.diskPlaysSpec) :=
  OpenClaim.holds_of_wide 4 Try.f4 rfl rfl rfl rfl rfl rfl rfl ⟨rfl, rfl, rfl, rfl, rfl⟩ rfl rfl rfl rfl rfl (by kernel_rfl) Try.func4 (by kernel_rfl)
    (of_decide_eq_true (by kernel_rfl)) (by unfold Func.isWrapper; first | (rw [if_pos (by decide +kernel)]; kernel_rfl) | (rw [if_neg (by decide +kernel)]; exact ⟨rfl, rfl⟩))
    (fun os started H enc _ => lifted os started H enc)

/-- The statement. -/
theorem proved : Rows.DiskPlaysSaid :=
  over
#print axioms proved
end Go.Proofs.Ytnjipfnkbfhliaa.diskPlays
