/- A learner's memory: a voter more, a slot decided. -/
import Derived.Test.YtkghogfcfocmpaaLMem
namespace Go.Proofs.Ytkghogfcfocmpaa
open Go.RowKit

def addSrc (p : Nat) (x : Int) (u : TallyT) : TallyT := if u.p = p then { u with src := u.src ++ [x] } else u
theorem addSrc_p (p : Nat) (x : Int) (u : TallyT) : (addSrc p x u).p = u.p := by unfold addSrc; split <;> rfl
theorem map_addSrc (p : Nat) (x : Int) (ts : List TallyT) {β : Type} (f : Nat → β) : ((ts.map (addSrc p x)).map fun t => f t.p) = ts.map fun t => f t.p := by
  rw [List.map_map]
  congr 1
  funext u
  show f (addSrc p x u).p = f u.p
  rw [addSrc_p]
theorem nodup_same {ts : List TallyT} (h : (ts.map fun t => t.p).Nodup) {t u : TallyT} (ht : t ∈ ts) (hu : u ∈ ts) (e : u.p = t.p) : u = t := by
  induction ts with
  | nil => cases ht
  | cons a r ih =>
    rw [List.map_cons, List.nodup_cons] at h
    rcases List.mem_cons.1 ht with h1 | h1 <;> rcases List.mem_cons.1 hu with h2 | h2
    · rw [h1, h2]
    · exact absurd (List.mem_map.2 ⟨u, h2, by rw [e, h1]⟩) h.1
    · exact absurd (List.mem_map.2 ⟨t, h1, by rw [← e, h2]⟩) h.1
    · exact ih h.2 h1 h2
/-- A voter is put behind the others of a tally. -/
theorem LearnAt.more {w w2 : World} {base : Nat} {tag : Nat → Nat} {D : Nat} {n low x : Int} {ts : List TallyT} {ds : List Nat} {lv dv fv fv2 : Value} {t : TallyT} {A : Option Addr} {c : Nat} {L : Obj} (h : LearnAt w base tag D n low ts ds lv dv) (htm : t ∈ ts)
    (hT : Blk w t.p 54 #[.int .i64 t.slot, .int .i64 t.b, .slice A t.v.length c, fv]) (hB : BytesAt w (fun k => tag k = 5 + 3 * t.p) (.slice A t.v.length c) t.v) (hF : w.ownsRow base 3 1 fv t.src.length (t.src.map intV)) (htag : tag t.p = 4 + 3 * t.p) (htf : ∀ k, fv.ownBlock = some k → tag k = 6 + 3 * t.p)
    (hown : w2.ownsRow base 3 1 fv2 (t.src.length + 1) (t.src.map intV ++ [intV x])) (hg : (w.alloc L).grownBy w2 fv.ownBlock) (hat : fv2.ownBlock = fv.ownBlock ∨ fv2.ownBlock = some (w.alloc L).heap.size) :
    ∃ tag', LearnAt (w2.setCell ⟨t.p, 3, none⟩ fv2) base tag' D n low (ts.map (addSrc t.p x)) ds lv dv ∧ (∀ k, tag' k ≠ 0 → tag k ≠ 0 ∨ w.heap.size ≤ k) ∧ Touch (fun k => tag k ≠ 0) w (w2.setCell ⟨t.p, 3, none⟩ fv2) := by
  have hlt := hF.lt
  have hz : ∀ k, tag k ≠ 0 → k < w.heap.size := fun k hk => (h.rng k hk).2
  have hp := hz t.p (by omega)
  have ht2 : Touch (fun k => fv.ownBlock = some k) w w2 := (Touch.alloc _ w L).trans (Touch.grown hg (fun g _ e => e)) (fun _ _ h => h)
  have ht3 : Touch (fun k => k = t.p) w2 (w2.setCell ⟨t.p, 3, none⟩ fv2) := Touch.setCell w2 fv2 (fun _ => rfl)
  have hz2 := ht2.size
  have hz3 : (w2.setCell ⟨t.p, 3, none⟩ fv2).heap.size = w2.heap.size := by simp
  have ht : Touch (fun k => fv.ownBlock = some k ∨ k = t.p) w (w2.setCell ⟨t.p, 3, none⟩ fv2) := (ht2.mono (fun _ _ e => .inl e)).trans (ht3.mono (fun _ _ e => .inr e)) (fun _ _ e => e)
  have hfp : ∀ k, fv.ownBlock = some k → k ≠ t.p := fun k e e2 => by have := htf k e; rw [e2, htag] at this; omega
  have hlt2 : ∀ k, fv2.ownBlock = some k → fv.ownBlock = some k ∨ (w.heap.size ≤ k ∧ k < w2.heap.size) := fun k e => by
    have := hown.lt k e
    rcases hat with e2 | e2
    · exact .inl (e2 ▸ e)
    · rw [e2] at e; simp at e; exact .inr ⟨by omega, this.2⟩
  let tag' : Nat → Nat := fun k => if w.heap.size ≤ k ∧ k < w2.heap.size ∧ fv2.ownBlock = some k then 6 + 3 * t.p else tag k
  have hold : ∀ k, k < w.heap.size → tag' k = tag k := fun k hk => by
    have e3 : ¬ (w.heap.size ≤ k ∧ k < w2.heap.size ∧ fv2.ownBlock = some k) := by omega
    simp only [tag', if_neg e3]
  have htk : ∀ k, tag k ≠ 0 → tag' k = tag k := fun k hk => hold k (hz k hk)
  refine ⟨tag', ⟨?_, ?_, ?_, ?_, ?_, ?_, ?_, ?_, ?_, ?_⟩, ?_, ?_⟩
  · exact h.blk.touch ht (fun e => by
      rcases e with e | e
      · have := htf D e; rw [h.tagD] at this; omega
      · have := h.tagD; rw [e, htag] at this; omega)
  · rw [List.length_map, map_addSrc]
    exact own_touch h.lrow ht (fun k e e2 => by
      have h1 := h.tagl k e
      rcases e2 with e2 | e2
      · have := htf k e2; omega
      · rw [e2, htag] at h1; omega)
  · exact own_touch h.drow ht (fun k e e2 => by
      have h1 := h.tagd k e
      rcases e2 with e2 | e2
      · have := htf k e2; omega
      · rw [e2, htag] at h1; omega)
  · intro u hm
    obtain ⟨u, hu, rfl⟩ := List.mem_map.1 hm
    by_cases e : u.p = t.p
    · have hut := nodup_same h.nd htm hu e
      subst hut
      have ea : addSrc u.p x u = { u with src := u.src ++ [x] } := by unfold addSrc; rw [if_pos rfl]
      rw [ea]
      refine ⟨A, c, fv2, ?_, ?_, ?_, ?_, fun k e2 => ?_⟩
      · have := (hT.touch ht2 (fun e => hfp _ e rfl)).set 3 fv2
        simpa using this
      · exact SliceOf.touch RByte.kept hB ht (fun k hk => ⟨hz k (by omega), fun e2 => by
          rcases e2 with e2 | e2
          · have := htf k e2; omega
          · rw [e2, htag] at hk; omega⟩) (fun k hk => by rw [htk k (by omega)]; exact hk)
      · show (w2.setCell ⟨u.p, 3, none⟩ fv2).ownsRow base 3 1 fv2 (u.src ++ [x]).length ((u.src ++ [x]).map intV)
        rw [List.length_append, List.map_append]
        exact own_touch hown ht3 (fun k e2 e3 => by
          rcases hlt2 k e2 with g | g
          · exact hfp k g e3
          · omega)
      · show tag' u.p = 4 + 3 * u.p
        rw [htk _ (by omega)]; exact htag
      · show tag' k = 6 + 3 * u.p
        rcases hlt2 k e2 with g | g
        · rw [htk k (by rw [htf k g]; omega)]; exact htf k g
        · have e3 : w.heap.size ≤ k ∧ k < w2.heap.size ∧ fv2.ownBlock = some k := ⟨g.1, g.2, e2⟩
          simp only [tag', if_pos e3]
    · have ea : addSrc t.p x u = u := by unfold addSrc; rw [if_neg e]
      rw [ea]
      refine (h.tally u hu).touch ht hz (fun k hk => ⟨fun e2 => ?_, htk k (by omega)⟩)
      rcases e2 with e2 | e2
      · have := htf k e2; omega
      · rw [e2, htag] at hk; omega
  · rw [htk D (by rw [h.tagD]; omega)]; exact h.tagD
  · intro k e
    rw [htk k (by rw [h.tagl k e]; omega)]; exact h.tagl k e
  · intro k e
    rw [htk k (by rw [h.tagd k e]; omega)]; exact h.tagd k e
  · intro k hk
    rw [hz3]
    simp only [tag'] at hk
    by_cases e3 : w.heap.size ≤ k ∧ k < w2.heap.size ∧ fv2.ownBlock = some k
    · have := h.rng t.p (by omega); omega
    · rw [if_neg e3] at hk
      have := h.rng k hk; omega
  · exact (congrArg List.Nodup (map_addSrc t.p x ts fun p => p)).mpr h.nd
  · intro p hp
    obtain ⟨u, hu, e⟩ := h.dec p hp
    exact ⟨_, List.mem_map.2 ⟨u, hu, rfl⟩, by rw [addSrc_p]; exact e⟩
  · intro k hk
    by_cases hkw : w.heap.size ≤ k
    · exact .inr hkw
    · exact .inl (by rw [← hold k (by omega)]; exact hk)
  · exact ht.mono (fun k _ e => by
      rcases e with e | e
      · rw [htf k e]; omega
      · subst e; rw [htag]; omega)
/-- A slot is decided. -/
theorem LearnAt.done {w w2 : World} {base : Nat} {tag : Nat → Nat} {D p : Nat} {n low : Int} {ts : List TallyT} {ds : List Nat} {lv dv dv2 : Value} {L : Obj} (h : LearnAt w base tag D n low ts ds lv dv) (hp : ∃ t, t ∈ ts ∧ t.p = p)
    (hown : w2.ownsRow base 52 1 dv2 (ds.length + 1) (ds.map ptrV ++ [ptrV p])) (hg : (w.alloc L).grownBy w2 dv.ownBlock) (hat : dv2.ownBlock = dv.ownBlock ∨ dv2.ownBlock = some (w.alloc L).heap.size) :
    ∃ tag', LearnAt (w2.setCell ⟨D, 3, none⟩ dv2) base tag' D n low ts (ds ++ [p]) lv dv2 ∧ (∀ k, tag' k ≠ 0 → tag k ≠ 0 ∨ w.heap.size ≤ k) ∧ Touch (fun k => tag k ≠ 0) w (w2.setCell ⟨D, 3, none⟩ dv2) := by
  have hlt := h.drow.lt
  have hz : ∀ k, tag k ≠ 0 → k < w.heap.size := fun k hk => (h.rng k hk).2
  have hDr := h.rng D (by rw [h.tagD]; omega)
  have ht2 : Touch (fun k => dv.ownBlock = some k) w w2 := (Touch.alloc _ w L).trans (Touch.grown hg (fun g _ e => e)) (fun _ _ h => h)
  have ht3 : Touch (fun k => k = D) w2 (w2.setCell ⟨D, 3, none⟩ dv2) := Touch.setCell w2 dv2 (fun _ => rfl)
  have hz2 := ht2.size
  have hz3 : (w2.setCell ⟨D, 3, none⟩ dv2).heap.size = w2.heap.size := by simp
  have ht : Touch (fun k => dv.ownBlock = some k ∨ k = D) w (w2.setCell ⟨D, 3, none⟩ dv2) := (ht2.mono (fun _ _ e => .inl e)).trans (ht3.mono (fun _ _ e => .inr e)) (fun _ _ e => e)
  have hdD : ∀ k, dv.ownBlock = some k → k ≠ D := fun k e e2 => by have := h.tagd k e; rw [e2, h.tagD] at this; omega
  have hlt2 : ∀ k, dv2.ownBlock = some k → dv.ownBlock = some k ∨ (w.heap.size ≤ k ∧ k < w2.heap.size) := fun k e => by
    have := hown.lt k e
    rcases hat with e2 | e2
    · exact .inl (e2 ▸ e)
    · rw [e2] at e; simp at e; exact .inr ⟨by omega, this.2⟩
  let tag' : Nat → Nat := fun k => if w.heap.size ≤ k ∧ k < w2.heap.size ∧ dv2.ownBlock = some k then 3 else tag k
  have hold : ∀ k, k < w.heap.size → tag' k = tag k := fun k hk => by
    have e3 : ¬ (w.heap.size ≤ k ∧ k < w2.heap.size ∧ dv2.ownBlock = some k) := by omega
    simp only [tag', if_neg e3]
  have htk : ∀ k, tag k ≠ 0 → tag' k = tag k := fun k hk => hold k (hz k hk)
  refine ⟨tag', ⟨?_, ?_, ?_, ?_, ?_, ?_, ?_, ?_, h.nd, ?_⟩, ?_, ?_⟩
  · have := (h.blk.touch ht2 (fun e => hdD D e rfl)).set 3 dv2
    simpa using this
  · exact own_touch h.lrow ht (fun k e e2 => by
      have h1 := h.tagl k e
      rcases e2 with e2 | e2
      · have := h.tagd k e2; omega
      · rw [e2, h.tagD] at h1; omega)
  · rw [List.length_append, List.map_append]
    exact own_touch hown ht3 (fun k e e2 => by
      rcases hlt2 k e with g | g
      · exact hdD k g e2
      · omega)
  · intro u hu
    refine (h.tally u hu).touch ht hz (fun k hk => ⟨fun e2 => ?_, htk k (by omega)⟩)
    rcases e2 with e2 | e2
    · have := h.tagd k e2; omega
    · rw [e2, h.tagD] at hk; omega
  · rw [htk D (by rw [h.tagD]; omega)]; exact h.tagD
  · intro k e
    rw [htk k (by rw [h.tagl k e]; omega)]; exact h.tagl k e
  · intro k e
    rcases hlt2 k e with g | g
    · rw [htk k (by rw [h.tagd k g]; omega)]; exact h.tagd k g
    · have e3 : w.heap.size ≤ k ∧ k < w2.heap.size ∧ dv2.ownBlock = some k := ⟨g.1, g.2, e⟩
      simp only [tag', if_pos e3]
  · intro k hk
    rw [hz3]
    simp only [tag'] at hk
    by_cases e3 : w.heap.size ≤ k ∧ k < w2.heap.size ∧ dv2.ownBlock = some k
    · omega
    · rw [if_neg e3] at hk
      have := h.rng k hk; omega
  · intro q hq
    rcases List.mem_append.1 hq with e | e
    · exact h.dec q e
    · simp at e; subst e; exact hp
  · intro k hk
    by_cases hkw : w.heap.size ≤ k
    · exact .inr hkw
    · exact .inl (by rw [← hold k (by omega)]; exact hk)
  · exact ht.mono (fun k _ e => by
      rcases e with e | e
      · rw [h.tagd k e]; omega
      · subst e; rw [h.tagD]; omega)
end Go.Proofs.Ytkghogfcfocmpaa
