/- Rows of bytes that the statement writes into: only that they stay bytes is kept. And what a drawn call reads as. -/
import Derived.Test.YtnjipfnkbfhliaaDiskCopies
namespace Go.Proofs.Ytnjipfnkbfhliaa
open Go.RowKit

/-- A slice of n bytes that may be written, its block in S. -/
def ScrapOne (w : World) (S : Nat → Prop) (v : Value) (n : Nat) : Prop :=
  ∃ A c, v = .slice A n c ∧ (0 < n → ∃ b off, A = some ⟨b, off, none⟩ ∧ S b ∧ ∀ i, i < n → ∃ x : Int, 0 ≤ x ∧ x ≤ 255 ∧ w.cell? ⟨b, off + i, none⟩ = some (.int .u8 x) ∧ w.frozen? ⟨b, off + i, none⟩ = false)
theorem ScrapOne.store {w : World} {S : Nat → Prop} {v : Value} {n : Nat} (h : ScrapOne w S v n) (p : Addr) {x : Int} (h0 : 0 ≤ x) (h1 : x ≤ 255) : ScrapOne (w.setCell p (.int .u8 x)) S v n := by
  obtain ⟨A, c, rfl, hc⟩ := h
  refine ⟨A, c, rfl, fun hn => ?_⟩
  obtain ⟨b, off, hA, hS, hx⟩ := hc hn
  refine ⟨b, off, hA, hS, fun i hi => ?_⟩
  obtain ⟨y, y0, y1, hy, hf⟩ := hx i hi
  have hf' : (w.setCell p (.int .u8 x)).frozen? ⟨b, off + i, none⟩ = false := by rw [World.frozen?_setCell]; exact hf
  by_cases he : p = ⟨b, off + i, none⟩
  · subst he
    exact ⟨x, h0, h1, World.cell?_setCell_same w _ _ hy, hf'⟩
  · exact ⟨y, y0, y1, by rw [World.cell?_setCell_other w _ _ _ he]; exact hy, hf'⟩
theorem ScrapOne.of_own {w : World} {base : Nat} {v : Value} {l : List UInt8} (h : w.ownsRow base 5 1 v l.length (l.map byteV)) {S : Nat → Prop} (hS : ∀ k, v.ownBlock = some k → S k) : ScrapOne w S v l.length := by
  rcases h.2 with ⟨rfl, hz⟩ | ⟨g, cap, cur, rfl, _, hg, _⟩
  · exact ⟨none, 0, by rw [hz], fun hn => by omega⟩
  · refine ⟨_, cap, rfl, fun hn => ⟨g, 0, rfl, hS g rfl, fun i hi => ⟨(l[i].toNat : Int), by omega, by have := l[i].toNat_lt; omega, ?_, ?_⟩⟩⟩
    · have := h.cells (g := g) rfl i (byteV l[i]) (by rw [List.getElem?_map, List.getElem?_eq_getElem hi]; rfl)
      rwa [WideShapes.add_plain] at this
    · simp [World.frozen?, hg]

/-- Rows of bytes that may be written: the row itself lies outside S, from lo on. -/
def Scraps (w : World) (lo : Nat) (S : Nat → Prop) (v : Value) (ns : List Nat) : Prop :=
  (∀ k, S k → lo ≤ k) ∧ ∃ A c, v = .slice A ns.length c ∧ (0 < ns.length → ∃ b off, A = some ⟨b, off, none⟩ ∧ ¬ S b ∧ ∀ i n, ns[i]? = some n → ∃ x, w.cell? ⟨b, off + i, none⟩ = some x ∧ ScrapOne w S x n)
theorem Scraps.store {w : World} {lo : Nat} {S : Nat → Prop} {v : Value} {ns : List Nat} (h : Scraps w lo S v ns) {p : Addr} (hp : S p.block) {x : Int} (h0 : 0 ≤ x) (h1 : x ≤ 255) : Scraps (w.setCell p (.int .u8 x)) lo S v ns := by
  obtain ⟨hlo, A, c, rfl, hc⟩ := h
  refine ⟨hlo, A, c, rfl, fun hn => ?_⟩
  obtain ⟨b, off, hA, hS, hx⟩ := hc hn
  refine ⟨b, off, hA, hS, fun i n hi => ?_⟩
  obtain ⟨y, hy, hs⟩ := hx i n hi
  exact ⟨y, by rw [World.cell?_setCell_other w _ _ _ (fun e => hS (by rw [e] at hp; exact hp))]; exact hy, hs.store p h0 h1⟩
theorem Scraps.of_copies {w w1 : World} {recs : List (List UInt8)} {v : Value} (h : CopiesRel w recs recs.length v w1) : ∃ S, Scraps w1 w.heap.size S v (recs.map List.length) := by
  obtain ⟨S, ⟨css, ⟨hl, hrow⟩, hown⟩, hS, hn, _⟩ := h
  rw [List.take_length] at hl hrow hown
  refine ⟨S, fun k hk => (hS k hk).1, ?_⟩
  rcases hown.2 with ⟨rfl, hz⟩ | ⟨g, cap, cur, rfl, _⟩
  · exact ⟨none, 0, by rw [List.length_map, hz], fun h0 => by rw [List.length_map] at h0; omega⟩
  · refine ⟨_, cap, by rw [List.length_map], fun _ => ⟨g, 0, rfl, hn g rfl, fun i n hi => ?_⟩⟩
    rw [List.getElem?_map] at hi
    obtain ⟨r, hr, rfl⟩ := Option.map_eq_some_iff.1 hi
    have hic : i < css.length := by rw [hl]; exact (List.getElem?_eq_some_iff.1 hr).1
    obtain ⟨_, x, hx, ho, hs⟩ := hrow i css[i] r (List.getElem?_eq_getElem hic) hr
    have hf := flatten_get (size := 1) (fun cs hcs => by
      obtain ⟨j, hj, rfl⟩ := List.getElem_of_mem hcs
      exact (hrow j _ (recs[j]'(by rw [← hl]; exact hj)) (List.getElem?_eq_getElem hj) (List.getElem?_eq_getElem (by rw [← hl]; exact hj))).1) i 0 css[i] x (List.getElem?_eq_getElem hic) (by rw [hx]; rfl)
    have := hown.cells (g := g) rfl _ x hf
    rw [WideShapes.add_plain] at this
    exact ⟨x, by simpa using this, ScrapOne.of_own ho hs⟩
theorem wrap_u8 (x : Int) : 0 ≤ IntKind.u8.wrap (x + 1) ∧ IntKind.u8.wrap (x + 1) ≤ 255 := by
  rw [IntKind.wrap_u8]; omega

/-- A call that is drawn. -/
structure AskT where
  kind : Int
  b : List UInt8
  l : List (List UInt8)
instance : Inhabited AskT := ⟨⟨0, [], []⟩⟩
def RAsk : Rep AskT := fun w S cs x => ∃ vb vl, cs = [.int .i64 x.kind, vb, vl] ∧ BytesAt w S vb x.b ∧ SliceOf RText 1 w S vl x.l
theorem RAsk.kept : Rep.Kept RAsk := ⟨fun ⟨vb, vl, hv, h1, h2⟩ hk hS => ⟨vb, vl, hv, SliceOf.keep RByte.kept h1 hk hS, SliceOf.keep RText.kept h2 hk hS⟩⟩
end Go.Proofs.Ytnjipfnkbfhliaa
