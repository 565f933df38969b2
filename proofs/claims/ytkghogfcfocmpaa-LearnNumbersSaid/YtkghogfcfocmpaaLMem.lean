/- A learner in memory: which block is whose is said by a tag, so that blocks of two tags are two blocks. -/
import Derived.Test.YtkghogfcfocmpaaBytes
import Derived.Test.YtkghogfcfocmpaaWithin
import Derived.Deep.RegionHeld3
import Derived.Deep.RegionLaw
namespace Go.Proofs.Ytkghogfcfocmpaa
open Go.RowKit

structure TallyT where
  p : Nat
  slot : Int
  b : Int
  v : List UInt8
  src : List Int
def ptrV (p : Nat) : Value := .pointer (some ⟨p, 0, none⟩)
def intV (x : Int) : Value := .int .i64 x
def TallyAt (w : World) (base : Nat) (tag : Nat → Nat) (t : TallyT) : Prop :=
  ∃ A c fv, Blk w t.p 54 #[.int .i64 t.slot, .int .i64 t.b, .slice A t.v.length c, fv] ∧ BytesAt w (fun k => tag k = 5 + 3 * t.p) (.slice A t.v.length c) t.v ∧ w.ownsRow base 3 1 fv t.src.length (t.src.map intV) ∧ tag t.p = 4 + 3 * t.p ∧ ∀ k, fv.ownBlock = some k → tag k = 6 + 3 * t.p
structure LearnAt (w : World) (base : Nat) (tag : Nat → Nat) (D : Nat) (n low : Int) (ts : List TallyT) (ds : List Nat) (lv dv : Value) : Prop where
  blk : Blk w D 50 #[.int .i64 n, .int .i64 low, lv, dv]
  lrow : w.ownsRow base 52 1 lv ts.length (ts.map fun t => ptrV t.p)
  drow : w.ownsRow base 52 1 dv ds.length (ds.map ptrV)
  tally : ∀ (t : TallyT), t ∈ ts → TallyAt w base tag t
  tagD : tag D = 1
  tagl : ∀ (k : Nat), lv.ownBlock = some k → tag k = 2
  tagd : ∀ (k : Nat), dv.ownBlock = some k → tag k = 3
  rng : ∀ (k : Nat), tag k ≠ 0 → base ≤ k ∧ k < w.heap.size
  nd : (ts.map fun t => t.p).Nodup
  dec : ∀ (p : Nat), p ∈ ds → ∃ t, t ∈ ts ∧ t.p = p
theorem TallyAt.touch {w w' : World} {base : Nat} {tag tag' : Nat → Nat} {T : Nat → Prop} {t : TallyT} (h : TallyAt w base tag t) (ht : Touch T w w') (hr : ∀ k, tag k ≠ 0 → k < w.heap.size) (hn : ∀ k, tag k = 4 + 3 * t.p ∨ tag k = 5 + 3 * t.p ∨ tag k = 6 + 3 * t.p → ¬ T k ∧ tag' k = tag k) : TallyAt w' base tag' t := by
  obtain ⟨A, c, fv, h1, h2, h3, h4, h5⟩ := h
  refine ⟨A, c, fv, h1.touch ht (hn _ (.inl h4)).1, SliceOf.touch RByte.kept h2 ht (fun k hk => ⟨hr k (by omega), (hn k (.inr (.inl hk))).1⟩) (fun k hk => by rw [(hn k (.inr (.inl hk))).2]; exact hk), own_touch h3 ht (fun k e => (hn k (.inr (.inr (h5 k e)))).1), by rw [(hn _ (.inl h4)).2]; exact h4, fun k e => by rw [(hn k (.inr (.inr (h5 k e)))).2]; exact h5 k e⟩
theorem LearnAt.touch {w w' : World} {base : Nat} {tag : Nat → Nat} {T : Nat → Prop} {D : Nat} {n low : Int} {ts : List TallyT} {ds : List Nat} {lv dv : Value} (h : LearnAt w base tag D n low ts ds lv dv) (ht : Touch T w w') (hn : ∀ k, tag k ≠ 0 → ¬ T k) : LearnAt w' base tag D n low ts ds lv dv :=
  ⟨h.blk.touch ht (hn D (by rw [h.tagD]; omega)), own_touch h.lrow ht (fun k e => hn k (by rw [h.tagl k e]; omega)), own_touch h.drow ht (fun k e => hn k (by rw [h.tagd k e]; omega)), fun t hm => (h.tally t hm).touch ht (fun k hk => (h.rng k hk).2) (fun k hk => ⟨hn k (by omega), rfl⟩), h.tagD, h.tagl, h.tagd, fun k hk => ⟨(h.rng k hk).1, Nat.lt_of_lt_of_le (h.rng k hk).2 ht.size⟩, h.nd, h.dec⟩
theorem LearnAt.below {w w' : World} {base : Nat} {tag : Nat → Nat} {D : Nat} {n low : Int} {ts : List TallyT} {ds : List Nat} {lv dv : Value} (h : LearnAt w base tag D n low ts ds lv dv) (hb : Below w.heap.size w w') : LearnAt w' base tag D n low ts ds lv dv :=
  h.touch (Touch.of_below hb fun _ => False) (fun _ _ g => g)
theorem LearnAt.new (w : World) (base : Nat) (n : Int) (hb : base ≤ w.heap.size) : LearnAt (w.alloc (.cells #[.int .i64 n, .int .i64 0, .slice none 0 0, .slice none 0 0] 50)) base (fun k => if k = w.heap.size then 1 else 0) w.heap.size n 0 [] [] (.slice none 0 0) (.slice none 0 0) :=
  ⟨Blk.new w _ _, World.ownsRow_nil _ _ _ _, World.ownsRow_nil _ _ _ _, fun t h => (by cases h), by simp, fun k e => by simp [Value.ownBlock] at e, fun k e => by simp [Value.ownBlock] at e, fun k hk => by
    by_cases e : k = w.heap.size
    · subst e; simp; omega
    · simp [e] at hk, List.nodup_nil, fun p h => (by cases h)⟩

/-- A tally is put behind the others: T its block, vv its bytes' row. -/
theorem LearnAt.push {w w1 w2 : World} {base : Nat} {tag : Nat → Nat} {D : Nat} {n low slot b : Int} {ts : List TallyT} {ds : List Nat} {lv dv lv2 : Value} {v : List UInt8} {A : Option Addr} {c : Nat} {L : Obj} (h : LearnAt w base tag D n low ts ds lv dv) (b1 : Below w.heap.size w w1)
    (hv : w1.ownsRow w.heap.size 5 1 (.slice A v.length c) v.length (v.map byteV))
    (hown : w2.ownsRow base 52 1 lv2 (ts.length + 1) ((ts.map fun t => ptrV t.p) ++ [ptrV w1.heap.size])) (hg : ((w1.alloc (.cells #[.int .i64 slot, .int .i64 b, .slice A v.length c, .slice none 0 0] 54)).alloc L).grownBy w2 lv.ownBlock) (hat : lv2.ownBlock = lv.ownBlock ∨ lv2.ownBlock = some (w1.heap.size + 2)) :
    ∃ tag', LearnAt (w2.setCell ⟨D, 2, none⟩ lv2) base tag' D n low (ts ++ [⟨w1.heap.size, slot, b, v, []⟩]) ds lv2 dv ∧ (∀ k, tag' k ≠ 0 → tag k ≠ 0 ∨ w.heap.size ≤ k) ∧ Touch (fun k => tag k ≠ 0) w (w2.setCell ⟨D, 2, none⟩ lv2) := by
  have hz1 := b1.size
  have hD := h.rng D (by rw [h.tagD]; omega)
  have hlt := h.lrow.lt
  have ht2 : Touch (fun k => lv.ownBlock = some k) w1 w2 := ((Touch.alloc _ w1 _).trans (Touch.alloc _ _ L) (fun _ _ h => h)).trans (Touch.grown hg (fun g _ e => e)) (fun _ _ h => h)
  have hz2' : w1.heap.size + 2 ≤ w2.heap.size := by have := (Touch.grown (T := fun k => lv.ownBlock = some k) hg (fun g _ e => e)).size; simp at this; omega
  have ht3 : Touch (fun k => k = D) w2 (w2.setCell ⟨D, 2, none⟩ lv2) := Touch.setCell w2 lv2 (fun _ => rfl)
  have hz3 : (w2.setCell ⟨D, 2, none⟩ lv2).heap.size = w2.heap.size := by simp
  have hlD : ∀ k, lv.ownBlock = some k → k ≠ D := fun k e e2 => by have h1 := h.tagl k e; rw [e2, h.tagD] at h1; omega
  have ht : Touch (fun k => lv.ownBlock = some k ∨ k = D) w (w2.setCell ⟨D, 2, none⟩ lv2) := ((Touch.of_below b1 _).trans ht2 (fun _ _ e => .inl e)).trans ht3 (fun _ _ e => .inr e)
  have hvl := hv.lt
  have hTb : Blk w2 w1.heap.size 54 #[.int .i64 slot, .int .i64 b, .slice A v.length c, .slice none 0 0] := by
    have hb := ((Blk.new w1 54 #[.int .i64 slot, .int .i64 b, .slice A v.length c, .slice none 0 0]).alloc L)
    exact hb.touch (T := fun k => lv.ownBlock = some k) (Touch.grown hg (fun g _ e => e)) (fun e => by have := hlt _ e; omega)
  have hlt2 : ∀ k, lv2.ownBlock = some k → lv.ownBlock = some k ∨ (k = w1.heap.size + 2 ∧ k < w2.heap.size) := fun k e => by
    have := hown.lt k e
    rcases hat with e2 | e2
    · exact .inl (e2 ▸ e)
    · rw [e2] at e; simp at e; exact .inr ⟨e.symm, this.2⟩
  let tag' : Nat → Nat := fun k => if k = w1.heap.size then 4 + 3 * w1.heap.size else if Value.ownBlock (.slice A v.length c) = some k then 5 + 3 * w1.heap.size else if k = w1.heap.size + 2 ∧ k < w2.heap.size then 2 else tag k
  have hold : ∀ k, k < w.heap.size → tag' k = tag k := fun k hk => by
    have e1 : ¬ k = w1.heap.size := by omega
    have e2 : ¬ Value.ownBlock (.slice A v.length c) = some k := fun e => by have := hvl k e; omega
    have e3 : ¬ (k = w1.heap.size + 2 ∧ k < w2.heap.size) := by omega
    simp only [tag', if_neg e1, if_neg e2, if_neg e3]
  have hz : ∀ k, tag k ≠ 0 → k < w.heap.size := fun k hk => (h.rng k hk).2
  have htk : ∀ k, tag k ≠ 0 → tag' k = tag k := fun k hk => hold k (hz k hk)
  have hne : ∀ t, t ∈ ts → t.p < w.heap.size := fun t hm => by
    obtain ⟨_, _, _, _, _, _, h4, _⟩ := h.tally t hm
    exact hz _ (by omega)
  refine ⟨tag', ⟨?_, ?_, ?_, ?_, ?_, ?_, ?_, ?_, ?_, ?_⟩, ?_, ?_⟩
  · have := ((h.blk.touch (Touch.of_below b1 fun _ => False) (fun g => g)).touch ht2 (fun e => hlD D e rfl)).set 2 lv2
    simpa using this
  · rw [List.length_append, List.map_append]
    exact own_touch hown ht3 (fun k e e2 => by
      rcases hlt2 k e with g | g
      · exact hlD k g e2
      · omega)
  · exact own_touch h.drow ht (fun k e e2 => by
      have h1 := h.tagd k e
      rcases e2 with e2 | e2
      · have := h.tagl k e2; omega
      · rw [e2, h.tagD] at h1; omega)
  · intro t hm
    rcases List.mem_append.1 hm with e | e
    · have hp := hne t e
      refine (h.tally t e).touch ht hz (fun k hk => ⟨fun e2 => ?_, htk k (by omega)⟩)
      rcases e2 with e2 | e2
      · have := h.tagl k e2; omega
      · rw [e2, h.tagD] at hk; omega
    · simp at e
      subst e
      refine ⟨A, c, .slice none 0 0, ?_, ?_, World.ownsRow_nil _ _ _ _, ?_, fun k e => by simp [Value.ownBlock] at e⟩
      · exact hTb.touch ht3 (by omega)
      · have h1 : BytesAt w1 (fun k => Value.ownBlock (.slice A v.length c) = some k) (.slice A v.length c) v := Owns.slice RByte.kept (owns_bytes (S := fun _ => False) hv) (fun _ g => g.elim) (fun _ g => g)
        have h2 := SliceOf.touch (S' := fun k => Value.ownBlock (.slice A v.length c) = some k) RByte.kept h1 ht2 (fun k hk => ⟨(hvl k hk).2, fun e => by have := hvl k hk; have := hlt k e; omega⟩) (fun _ g => g)
        refine SliceOf.touch RByte.kept h2 ht3 (fun k hk => ⟨by have := (hvl k hk).2; have := ht2.size; omega, by have := hvl k hk; omega⟩) (fun k hk => ?_)
        have e1 : ¬ k = w1.heap.size := by have := (hvl k hk).2; omega
        simp only [tag', if_neg e1, if_pos hk]
      · simp [tag']
  · rw [htk D (by rw [h.tagD]; omega)]; exact h.tagD
  · intro k e
    rcases hlt2 k e with g | g
    · rw [htk k (by rw [h.tagl k g]; omega)]; exact h.tagl k g
    · have e1 : ¬ k = w1.heap.size := by omega
      have e2 : ¬ Value.ownBlock (.slice A v.length c) = some k := fun e => by have := hvl k e; omega
      simp only [tag', if_neg e1, if_neg e2, if_pos g]
  · intro k e
    rw [htk k (by rw [h.tagd k e]; omega)]; exact h.tagd k e
  · intro k hk
    rw [hz3]
    simp only [tag'] at hk
    by_cases e1 : k = w1.heap.size
    · omega
    · rw [if_neg e1] at hk
      by_cases e2 : Value.ownBlock (.slice A v.length c) = some k
      · have := hvl k e2; omega
      · rw [if_neg e2] at hk
        by_cases e3 : k = w1.heap.size + 2 ∧ k < w2.heap.size
        · omega
        · rw [if_neg e3] at hk
          have := h.rng k hk; omega
  · rw [List.map_append, List.nodup_append]
    refine ⟨h.nd, by simp, fun a ha b hb e => ?_⟩
    obtain ⟨t, hm, rfl⟩ := List.mem_map.1 ha
    simp at hb
    have := hne t hm
    omega
  · intro p hp
    obtain ⟨t, hm, e⟩ := h.dec p hp
    exact ⟨t, List.mem_append.2 (.inl hm), e⟩
  · intro k hk
    by_cases hkw : w.heap.size ≤ k
    · exact .inr hkw
    · exact .inl (by rw [← hold k (by omega)]; exact hk)
  · exact ht.mono (fun k _ e => by
      rcases e with e | e
      · rw [h.tagl k e]; omega
      · subst e; rw [h.tagD]; omega)
end Go.Proofs.Ytkghogfcfocmpaa
