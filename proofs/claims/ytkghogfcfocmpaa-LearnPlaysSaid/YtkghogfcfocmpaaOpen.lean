/- Arguments that are slices, opened: what they read as. -/
import Derived.Test.YtkghogfcfocmpaaBytes
import Derived.ProofKit
import Derived.OpenShut
namespace Go.Proofs.Ytkghogfcfocmpaa
open Go.RowKit Go.ChangeShapes Go.WideShapes Go.Deep

theorem open_sliceOf {H : Type} {enc : TypeId × Value → H} {P : Program} {w : World} {base : Nat} {spare : Nat → Bool} {held : Bool} {t e : TypeId} {size fuel : Nat} {v : Value} {y : DataW H × List MemPlace} {α : Type} [Inhabited α] {R : Rep α}
    (ht : P.underlying t = some (.slice e)) (hc : P.cellsOf e = size) (hs : 0 < size)
    (hR : ∀ (n : Nat) (cs : List Value) (y : DataW H × List MemPlace), DataW.trod enc P w base spare held n e cs = some y → cs.length = size → ∃ x, R w (fun k => k < w.heap.size) cs x)
    (h : DataW.trod enc P w base spare held fuel t [v] = some y) : ∃ l, SliceOf R size w (fun k => k < w.heap.size) v l := by
  rcases open_slice ht h with ⟨hcs, _⟩ | ⟨a, len, cap, m, n, D, Pl, hcs, _, hl, hm, hmm, _, hV⟩
  · simp only [List.cons.injEq, and_true] at hcs
    subst hcs
    exact ⟨[], SliceOf.nil R size w _⟩
  · simp only [List.cons.injEq, and_true] at hcs
    subst hcs
    have hle : len ≤ m := by rw [hmm]; split <;> omega
    rw [hc] at hV
    have hX : ∀ i, i < len → ∃ x, ∃ cs, R w (fun k => k < w.heap.size) cs x ∧ cs.length = size ∧ ∀ j, j < size → w.cell? ((a.add (i * size)).add j) = cs[j]? := fun i hi => by
      obtain ⟨cs, h1, h2⟩ := hV i (by omega)
      obtain ⟨_, h3, h4⟩ := World.cells?_some h1
      obtain ⟨x, hx⟩ := hR n cs _ h2 h3
      exact ⟨x, cs, hx, h3, fun j hj => h4 j hj⟩
    obtain ⟨X, hX⟩ := choose_lt hX
    refine ⟨(List.range len).map X, some a, cap, by simp, by simpa using hl, hm, fun h0 => ?_⟩
    have hl0 : 0 < len := by simpa using h0
    obtain ⟨cs0, _, k0, k1⟩ := hX 0 hl0
    have hc0 := k1 0 hs
    obtain ⟨b, off, sp⟩ := a
    have hcell : w.cell? ⟨b, off, sp⟩ = some (cs0[0]'(by omega)) := by
      rw [List.getElem?_eq_getElem (by omega)] at hc0
      simpa [Addr.add] using hc0
    have hsp : sp = none := World.cell?_spot hcell
    subst hsp
    refine ⟨b, off, rfl, World.block_lt_of_cell? (w := w) (a := ⟨b, off, none⟩) hcell, fun i x hi => ?_⟩
    rw [List.getElem?_map] at hi
    obtain ⟨i', hi', rfl⟩ := Option.map_eq_some_iff.1 hi
    obtain ⟨hlt, rfl⟩ := List.getElem?_eq_some_iff.1 hi'
    simp only [List.length_range] at hlt
    simp only [List.getElem_range]
    obtain ⟨cs, hr, hlen, hcell'⟩ := hX i hlt
    refine ⟨cs, hr, hlen, fun j u hu => ?_⟩
    have hj : j < size := by rw [← hlen]; exact (List.getElem?_eq_some_iff.1 hu).1
    have := hcell' j hj
    rw [add_add, WideShapes.add_plain, hu] at this
    exact this

theorem open_byte {H : Type} {enc : TypeId × Value → H} {w : World} {base : Nat} {spare : Nat → Bool} {held : Bool} (n : Nat) (cs : List Value) (y : DataW H × List MemPlace) (h : DataW.trod enc Try.prog w base spare held n 5 cs = some y) (_ : cs.length = 1) : ∃ x, RByte w (fun k => k < w.heap.size) cs x := by
  obtain ⟨z, rfl, _, hw⟩ := DataW.trod_int Try.underlying5 h
  have hb := bounds_u8 hw
  refine ⟨UInt8.ofNat z.toNat, ?_⟩
  show [Value.int .u8 z] = [Value.int .u8 ((UInt8.ofNat z.toNat).toNat : Int)]
  have : ((UInt8.ofNat z.toNat).toNat : Int) = z := by
    rw [UInt8.toNat_ofNat']
    have : z.toNat % 2 ^ 8 = z.toNat := Nat.mod_eq_of_lt (by omega)
    rw [this]; omega
  rw [this]
theorem open_bytes {H : Type} {enc : TypeId × Value → H} {w : World} {base : Nat} {spare : Nat → Bool} {held : Bool} {fuel : Nat} {v : Value} {y : DataW H × List MemPlace} (h : DataW.trod enc Try.prog w base spare held fuel 32 [v] = some y) : ∃ l, BytesAt w (fun k => k < w.heap.size) v l :=
  open_sliceOf Try.underlying32 (by kernel_rfl) (by omega) open_byte h
theorem open_text {H : Type} {enc : TypeId × Value → H} {w : World} {base : Nat} {spare : Nat → Bool} {held : Bool} (n : Nat) (cs : List Value) (y : DataW H × List MemPlace) (h : DataW.trod enc Try.prog w base spare held n 32 cs = some y) (hl : cs.length = 1) : ∃ x, RText w (fun k => k < w.heap.size) cs x := by
  match cs, hl with
  | [v], _ =>
    obtain ⟨l, hl⟩ := open_bytes h
    exact ⟨l, v, rfl, hl⟩
end Go.Proofs.Ytkghogfcfocmpaa
