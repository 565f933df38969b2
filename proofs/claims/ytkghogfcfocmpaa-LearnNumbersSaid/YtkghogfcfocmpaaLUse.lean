/- Take and Decided as their callers use them. -/
import Derived.Test.YtkghogfcfocmpaaLTake
namespace Go.Proofs.Ytkghogfcfocmpaa
open Go.RowKit

def LearnIn (w0 : World) (D : Nat) (n low : Int) (ts : List TallyT) (ds : List Nat) (wr : World) : Prop := ∃ tag lv dv, LearnAt wr w0.heap.size tag D n low ts ds lv dv ∧ Below w0.heap.size w0 wr
theorem LearnIn.below {w0 wr w' : World} {D : Nat} {n low : Int} {ts : List TallyT} {ds : List Nat} (h : LearnIn w0 D n low ts ds wr) (hb : Below wr.heap.size wr w') : LearnIn w0 D n low ts ds w' := by
  obtain ⟨tag, lv, dv, h1, h2⟩ := h
  exact ⟨tag, lv, dv, h1.below hb, h2.trans (hb.mono h2.size)⟩
theorem LearnIn.new (w : World) (n : Int) : LearnIn w w.heap.size n 0 [] [] (w.alloc (.cells #[.int .i64 n, .int .i64 0, .slice none 0 0, .slice none 0 0] 50)) :=
  ⟨_, _, _, LearnAt.new w w.heap.size n (Nat.le_refl _), (Below.refl _ _).alloc (Nat.le_refl _) _⟩
theorem LearnIn.sub {w0 wr : World} {D : Nat} {n low : Int} {ts : List TallyT} {ds : List Nat} (h : LearnIn w0 D n low ts ds wr) : Below w0.heap.size w0 wr := by obtain ⟨_, _, _, _, h⟩ := h; exact h
def SameEnd (w : World) (e : Ending) (w' : World) : Prop := e = .returned (.bool true) ∧ Below w.heap.size w w'

theorem take_of {w0 wr0 wr : World} {D : Nat} {n low : Int} {ts : List TallyT} {ds : List Nat} (slot b src : Int) (vv : Value) (v : List UInt8) (Sv : Nat → Prop) (h : LearnIn w0 D n low ts ds wr0) (hb : Below wr0.heap.size wr0 wr) (hr : isRight n = true) (hlow : 0 ≤ low) (hlow2 : low ≤ 1073741824) (hin : InReach n low slot b src)
    (hl : ts.length ≤ 1000000) (hdl : ds.length ≤ 1000000) (hsl : ∀ t ∈ ts, t.src.length ≤ 1000000) (hvl : v.length ≤ 1000000000) (hv : BytesAt wr Sv vv v) (hS : ∀ k, Sv k → (k < w0.heap.size ∨ wr0.heap.size ≤ k) ∧ k < wr.heap.size) :
    Calls Try.prog 9 #[.pointer (some ⟨D, 0, none⟩), .int .i64 slot, .int .i64 b, .int .i64 src, vv] wr fun e w' => ∃ T, (∀ (t : TallyT), t ∈ ts → t.p ≠ T) ∧ e = .returned (.bool (Took n ts ds slot b src v T).1) ∧ LearnIn w0 D n low (Took n ts ds slot b src v T).2.1 (Took n ts ds slot b src v T).2.2 w' := by
  obtain ⟨tag, lv, dv, h1, h2⟩ := h
  have hz := hb.size
  have hz2 := h2.size
  refine (take_in slot b src vv v Sv (h1.below hb) hr hlow hlow2 hin hl hdl hsl hvl hv (fun k hk => ⟨(hS k hk).2, ?_⟩)).mono ?_
  · by_cases hk0 : tag k = 0
    · exact hk0
    · have := h1.rng k hk0
      rcases (hS k hk).1 with e | e <;> omega
  · rintro e w' ⟨T, tag', lv', dv', hT, rfl, hL, htg, htc⟩
    exact ⟨T, hT, rfl, tag', lv', dv', hL, (h2.trans (hb.mono hz2)).trans (htc.below (fun k hk => (h1.rng k hk).1) (by omega))⟩
theorem take_not {w0 wr : World} {D : Nat} {n low : Int} {ts : List TallyT} {ds : List Nat} (slot b src : Int) (vv : Value) (h : LearnIn w0 D n low ts ds wr) (hlow : 0 ≤ low) (hlow2 : low ≤ 1073741824) (ho : ¬ InReach n low slot b src) :
    Calls Try.prog 9 #[.pointer (some ⟨D, 0, none⟩), .int .i64 slot, .int .i64 b, .int .i64 src, vv] wr fun e w' => e = .returned (.bool false) ∧ LearnIn w0 D n low ts ds w' := by
  have hn := h
  obtain ⟨tag, lv, dv, h1, h2⟩ := h
  refine (take_out slot b src vv h1 hlow hlow2 ho).mono ?_
  rintro e w' ⟨rfl, hb⟩
  exact ⟨rfl, hn.below hb⟩
theorem decided_of {w0 wr : World} {D : Nat} {n low : Int} {ts : List TallyT} {ds : List Nat} (s : Int) (h : LearnIn w0 D n low ts ds wr) (hl : ds.length ≤ 1000000000) (hv : ∀ t ∈ ts, t.v.length ≤ 1000000000) :
    Calls Try.prog 10 #[.pointer (some ⟨D, 0, none⟩), .int .i64 s] wr (DecEnd wr (valueOf ts ds s)) := by
  obtain ⟨tag, lv, dv, h1, h2⟩ := h
  exact decided_any s h1 hl hv
theorem DecEnd.below {w w' : World} {o : Option (List UInt8)} {e : Ending} (h : DecEnd w o e w') : Below w.heap.size w w' := by
  cases o with
  | none => obtain ⟨_, rfl⟩ := h; exact Below.refl _ _
  | some v => obtain ⟨_, _, _, _, h⟩ := h; exact h

/-! ### known -/
theorem took_1 (T : Nat) : Took 3 [] [] 0 1 0 [120] T = (true, [⟨T, 0, 1, [120], [0]⟩], []) := by
  simp [Took, withT, firstAt, isAt, addSrc]
theorem took_2 (T T' : Nat) : Took 3 [⟨T, 0, 1, [120], [0]⟩] [] 0 1 2 [120] T' = (true, [⟨T, 0, 1, [120], [0, 2]⟩], [T]) := by
  simp [Took, withT, firstAt, isAt, addSrc, findD]
theorem val_1 (T : Nat) : valueOf [⟨T, 0, 1, [120], [0, 2]⟩] [T] 0 = some [120] ∧ valueOf [⟨T, 0, 1, [120], [0, 2]⟩] [T] 1 = none := by
  constructor <;> simp [valueOf, findD, slotOf, look]
end Go.Proofs.Ytkghogfcfocmpaa
