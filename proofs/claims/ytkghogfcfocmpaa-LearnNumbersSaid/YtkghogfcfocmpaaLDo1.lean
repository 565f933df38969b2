/- The learner and the reference side by side, in memory. -/
import Derived.Test.YtkghogfcfocmpaaLSame
namespace Go.Proofs.Ytkghogfcfocmpaa
open Go.RowKit

theorem RefAt.keep {w w' : World} {base : Nat} {S : Nat → Prop} {M : Nat} {n low : Int} {L : List TakeT} {Ds : List DoneT} {lv dv : Value} (h : RefAt w base S M n low L Ds lv dv) (hk : ∀ k, (k = M ∨ S k) → w'.heap[k]? = w.heap[k]?) : RefAt w' base S M n low L Ds lv dv := by
  obtain ⟨cl, l1, l2⟩ := h.lrow
  obtain ⟨cd, d1, d2⟩ := h.drow
  refine ⟨(hk M (.inl rfl)).trans h.blk, ⟨cl, RowsOf.keep RTake.kept l1 (fun k e => hk k (.inr e)) (fun _ e => e), own_block l2 (fun k e => hk k (.inr (h.inl k e)))⟩, ⟨cd, RowsOf.keep RDone.kept d1 (fun k e => hk k (.inr e)) (fun _ e => e), own_block d2 (fun k e => hk k (.inr (h.ind k e)))⟩, h.inl, h.ind, fun k e => ⟨(h.rng k e).1, ?_, (h.rng k e).2.2⟩⟩
  have h1 := hk k (.inr e)
  rw [Array.getElem?_eq_getElem (h.rng k e).2.1] at h1
  exact (Array.getElem?_eq_some_iff.1 h1).1
/-- The others' blocks are touched, and there are more of them. -/
theorem LearnF.grow {F F' T : Nat → Prop} {w0 wr w' : World} {D : Nat} {n low : Int} {ts : List TallyT} {ds : List Nat} (h : LearnF F w0 D n low ts ds wr) (ht : Touch T wr w') (hT : ∀ k, T k → F k ∧ w0.heap.size ≤ k) (hF : ∀ k, F' k → F k ∨ (wr.heap.size ≤ k ∧ k < w'.heap.size)) : LearnF F' w0 D n low ts ds w' := by
  obtain ⟨tag, lv, dv, h1, h2, h3⟩ := h
  refine ⟨tag, lv, dv, h1.touch ht (fun k hk hTk => hk (h3 k (hT k hTk).1).1), h2.trans (ht.below (fun k hk => (hT k hk).2) h2.size), fun k hk => ?_⟩
  rcases hF k hk with e | e
  · exact ⟨(h3 k e).1, Nat.lt_of_lt_of_le (h3 k e).2 ht.size⟩
  · refine ⟨?_, e.2⟩
    by_cases g : tag k = 0
    · exact g
    · have := h1.rng k g; omega
/-- Take, of bytes that lie in others' blocks. -/
theorem take_g {F : Nat → Prop} {w0 wr : World} {D : Nat} {n low : Int} {ts : List TallyT} {ds : List Nat} (slot b src : Int) (vv : Value) (v : List UInt8) (Sv : Nat → Prop) (h : LearnF F w0 D n low ts ds wr) (hr : isRight n = true) (hlow : 0 ≤ low) (hlow2 : low ≤ 1073741824) (hin : InReach n low slot b src)
    (hl : ts.length ≤ 1000000) (hdl : ds.length ≤ 1000000) (hsl : ∀ t ∈ ts, t.src.length ≤ 1000000) (hvl : v.length ≤ 1000000000) (hv : BytesAt wr Sv vv v) (hS : ∀ k, Sv k → F k) :
    Calls Try.prog 9 #[.pointer (some ⟨D, 0, none⟩), .int .i64 slot, .int .i64 b, .int .i64 src, vv] wr fun e w' => ∃ T, (∀ (t : TallyT), t ∈ ts → t.p ≠ T) ∧ e = .returned (.bool (Took n ts ds slot b src v T).1) ∧ LearnF F w0 D n low (Took n ts ds slot b src v T).2.1 (Took n ts ds slot b src v T).2.2 w' ∧ ∀ k, F k → w'.heap[k]? = wr.heap[k]? := by
  obtain ⟨tag, lv, dv, h1, h2, h3⟩ := h
  have hz2 := h2.size
  refine (take_in slot b src vv v Sv h1 hr hlow hlow2 hin hl hdl hsl hvl hv (fun k hk => ⟨(h3 k (hS k hk)).2, (h3 k (hS k hk)).1⟩)).mono ?_
  rintro e w' ⟨T, tag', lv', dv', hT, rfl, hL, htg, htc⟩
  refine ⟨T, hT, rfl, ⟨tag', lv', dv', hL, h2.trans (htc.below (fun k hk => (h1.rng k hk).1) hz2), fun k hk => ⟨?_, ?_⟩⟩, fun k hk => htc.block k (h3 k hk).2 (fun e => e (h3 k hk).1)⟩
  · have hk3 := h3 k hk
    by_cases hk0 : tag' k = 0
    · exact hk0
    · rcases htg k hk0 with e | e
      · exact absurd hk3.1 e
      · omega
  · have := (h3 k hk).2; have := htc.size; omega
/-- Both, as they stand after N calls. -/
structure Two (w0 : World) (D M : Nat) (n low : Int) (ts : List TallyT) (ds : List Nat) (L : List TakeT) (Ds : List DoneT) (N : Nat) (S : Nat → Prop) (lv dv : Value) (wr : World) : Prop where
  lrn : LearnF (fun k => k = M ∨ S k) w0 D n low ts ds wr
  ref : RefAt wr w0.heap.size S M n low L Ds lv dv
  hM : w0.heap.size ≤ M
  jnt : Joint n low ts ds L Ds
  z1 : ts.length ≤ N
  z2 : ds.length ≤ N
  z3 : ∀ (t : TallyT), t ∈ ts → t.src.length ≤ N
  z4 : ∀ (t : TallyT), t ∈ ts → t.v.length ≤ 1000000000
  z5 : L.length ≤ N
  z6 : Ds.length ≤ N
  low0 : 0 ≤ low
  low1 : low ≤ 1073741824
def TwoAny (w0 : World) (D M : Nat) (n : Int) (N : Nat) (wr : World) : Prop := ∃ low ts ds L Ds S lv dv, Two w0 D M n low ts ds L Ds N S lv dv wr
theorem Two.below {w0 wr w' : World} {D M : Nat} {n low : Int} {ts : List TallyT} {ds : List Nat} {L : List TakeT} {Ds : List DoneT} {N : Nat} {S : Nat → Prop} {lv dv : Value} (h : Two w0 D M n low ts ds L Ds N S lv dv wr) (hb : Below wr.heap.size wr w') : Two w0 D M n low ts ds L Ds N S lv dv w' :=
  ⟨h.lrn.below hb, h.ref.below hb, h.hM, h.jnt, h.z1, h.z2, h.z3, h.z4, h.z5, h.z6, h.low0, h.low1⟩
theorem Two.more {w0 wr : World} {D M : Nat} {n low : Int} {ts : List TallyT} {ds : List Nat} {L : List TakeT} {Ds : List DoneT} {N N' : Nat} {S : Nat → Prop} {lv dv : Value} (h : Two w0 D M n low ts ds L Ds N S lv dv wr) (hN : N ≤ N') : Two w0 D M n low ts ds L Ds N' S lv dv wr :=
  ⟨h.lrn, h.ref, h.hM, h.jnt, by have := h.z1; omega, by have := h.z2; omega, fun t ht => by have := h.z3 t ht; omega, h.z4, by have := h.z5; omega, by have := h.z6; omega, h.low0, h.low1⟩
theorem Two.same {w0 wr : World} {D M : Nat} {n low : Int} {ts : List TallyT} {ds : List Nat} {L : List TakeT} {Ds : List DoneT} {N : Nat} {S : Nat → Prop} {lv dv : Value} (h : Two w0 D M n low ts ds L Ds N S lv dv wr) (hN : N ≤ 1000000) : Calls Try.prog 24 #[.pointer (some ⟨D, 0, none⟩), .pointer (some ⟨M, 0, none⟩)] wr (SameEnd wr) :=
  same_any h.lrn h.ref h.jnt h.low0 h.low1 (by have := h.z1; omega) (by have := h.z2; omega) h.z4 (by have := h.z5; omega) (by have := h.z6; omega)
theorem kept_len (s : Int) (L : List TakeT) : (keptL s L).length ≤ L.length := List.length_filter_le _ _
theorem keptDone_len (s : Int) (Ds : List DoneT) : (keptDone s Ds).length ≤ Ds.length := List.length_filter_le _ _
theorem keptT_len (s : Int) (ts : List TallyT) : (keptT s ts).length ≤ ts.length := List.length_filter_le _ _
theorem keptD_len (s : Int) (ts : List TallyT) (ds : List Nat) : (keptD s ts ds).length ≤ ds.length := List.length_filter_le _ _
/-- Behind both Forgets. -/
theorem Two.forget {w0 wr w1 w2 : World} {D M : Nat} {n low s : Int} {ts : List TallyT} {ds : List Nat} {L : List TakeT} {Ds : List DoneT} {N : Nat} {S : Nat → Prop} {lv dv lv' dv' : Value} (h : Two w0 D M n low ts ds L Ds N S lv dv wr) (hs : low < s) (hs2 : s ≤ 1073741824)
    (hL : LearnF (fun k => k = M ∨ S k) w0 D n s (keptT s ts) (keptD s ts ds) w1) (hR : RefAt w2 w0.heap.size (fun k => S k ∨ (w1.heap.size ≤ k ∧ k < w2.heap.size)) M n s (keptL s L) (keptDone s Ds) lv' dv') (hT : Touch (fun k => k = M) w1 w2) :
    Two w0 D M n s (keptT s ts) (keptD s ts ds) (keptL s L) (keptDone s Ds) N (fun k => S k ∨ (w1.heap.size ≤ k ∧ k < w2.heap.size)) lv' dv' w2 := by
  have a1 := keptT_len s ts
  have a2 := keptD_len s ts ds
  have a3 := kept_len s L
  have a4 := keptDone_len s Ds
  refine ⟨hL.grow hT (fun k e => by subst e; exact ⟨.inl rfl, h.hM⟩) (fun k e => ?_), hR, h.hM, h.jnt.forget s hs, by have := h.z1; omega, by have := h.z2; omega, fun t ht => h.z3 t (List.mem_filter.1 ht).1, fun t ht => h.z4 t (List.mem_filter.1 ht).1, by have := h.z5; omega, by have := h.z6; omega, by have := h.low0; omega, hs2⟩
  rcases e with e | e | e
  · exact .inl (.inl e)
  · exact .inl (.inr e)
  · exact .inr e
theorem rtook_len (n : Int) (L : List TakeT) (Ds : List DoneT) (s b f : Int) (v : List UInt8) : (RTook n L Ds s b f v).2.1.length ≤ L.length + 1 ∧ (RTook n L Ds s b f v).2.2.length ≤ Ds.length + 1 := by
  unfold RTook withL
  split
  · simp
  · constructor
    · show (if mineIn L s b f = true then L else L ++ [(⟨s, b, f, v⟩ : TakeT)]).length ≤ _
      split <;> simp
    · show (if doneAt Ds s = none ∧ n / 2 + 1 ≤ (((hits L s b).length + oneMore (mineIn L s b f) : Nat) : Int) then Ds ++ [(⟨s, v⟩ : DoneT)] else Ds).length ≤ _
      split <;> simp
/-- Behind both Takes. -/
theorem Two.take {w0 wr w1 w2 : World} {D M B : Nat} {n low s b f : Int} {v : List UInt8} {T : Nat} {ts : List TallyT} {ds : List Nat} {L : List TakeT} {Ds : List DoneT} {N : Nat} {S : Nat → Prop} {lv dv lv' dv' : Value} (h : Two w0 D M n low ts ds L Ds N S lv dv wr) (hin : InReach n low s b f) (hv : v.length ≤ 1000000000) (hT0 : ∀ (t : TallyT), t ∈ ts → t.p ≠ T)
    (hL : LearnF (fun k => (k = M ∨ S k) ∨ k = B) w0 D n low (Took n ts ds s b f v T).2.1 (Took n ts ds s b f v T).2.2 w1) (hR : RefAt w2 w0.heap.size (fun k => S k ∨ (w1.heap.size ≤ k ∧ k < w2.heap.size)) M n low (RTook n L Ds s b f v).2.1 (RTook n L Ds s b f v).2.2 lv' dv') (hT : Touch (fun k => k = M) w1 w2) :
    (Took n ts ds s b f v T).1 = (RTook n L Ds s b f v).1 ∧ Two w0 D M n low (Took n ts ds s b f v T).2.1 (Took n ts ds s b f v T).2.2 (RTook n L Ds s b f v).2.1 (RTook n L Ds s b f v).2.2 (N + 1) (fun k => S k ∨ (w1.heap.size ≤ k ∧ k < w2.heap.size)) lv' dv' w2 := by
  have hj := h.jnt.take s b f v T hT0 ⟨hin.1, hin.2.1⟩
  have hl := took_len (n := n) (s := s) (b := b) (f := f) (v := v) (T := T) h.z1 h.z2 h.z3 h.z4 hv
  have hr := rtook_len n L Ds s b f v
  refine ⟨hj.1, hL.grow hT (fun k e => by subst e; exact ⟨.inl (.inl rfl), h.hM⟩) (fun k e => ?_), hR, h.hM, hj.2, hl.1, hl.2.1, hl.2.2.1, hl.2.2.2, by have := h.z5; omega, by have := h.z6; omega, h.low0, h.low1⟩
  rcases e with e | e | e
  · exact .inl (.inl (.inl e))
  · exact .inl (.inl (.inr e))
  · exact .inr e
end Go.Proofs.Ytkghogfcfocmpaa
