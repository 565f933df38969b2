/- Forget, Len, Low, and votes that are not taken, beside blocks of others; the plain law of LearnQuorum. -/
import Derived.Test.YtkghogfcfocmpaaLFirm2
import Derived.Test.YtkghogfcfocmpaaLLen
namespace Go.Proofs.Ytkghogfcfocmpaa
open Go.RowKit

theorem take_not_f {F : Nat → Prop} {w0 wr : World} {D : Nat} {n low : Int} {ts : List TallyT} {ds : List Nat} (slot b src : Int) (vv : Value) (h : LearnF F w0 D n low ts ds wr) (hlow : 0 ≤ low) (hlow2 : low ≤ 1073741824) (ho : ¬ InReach n low slot b src) :
    Calls Try.prog 9 #[.pointer (some ⟨D, 0, none⟩), .int .i64 slot, .int .i64 b, .int .i64 src, vv] wr fun e w' => e = .returned (.bool false) ∧ Below wr.heap.size wr w' := by
  obtain ⟨tag, lv, dv, h1, h2, h3⟩ := h
  exact take_out slot b src vv h1 hlow hlow2 ho
theorem len_f {F : Nat → Prop} {w0 wr : World} {D : Nat} {n low : Int} {ts : List TallyT} {ds : List Nat} (h : LearnF F w0 D n low ts ds wr) (hl : ts.length ≤ 1000000) :
    Calls Try.prog 14 #[.pointer (some ⟨D, 0, none⟩)] wr fun e w' => e = .returned (.int .i64 (several (ts.map fun t => t.slot)).length) ∧ Below wr.heap.size wr w' := by
  obtain ⟨tag, lv, dv, h1, h2, h3⟩ := h
  exact len_any h1 hl
theorem low_f {F : Nat → Prop} {w0 wr : World} {D : Nat} {n low : Int} {ts : List TallyT} {ds : List Nat} (h : LearnF F w0 D n low ts ds wr) :
    Calls Try.prog 15 #[.pointer (some ⟨D, 0, none⟩)] wr fun e w' => e = .returned (.int .i64 low) ∧ w' = wr := by
  obtain ⟨tag, lv, dv, h1, h2, h3⟩ := h
  exact low_any h1
theorem forget_f {F : Nat → Prop} {w0 wr : World} {D : Nat} {n low : Int} {ts : List TallyT} {ds : List Nat} (s : Int) (h : LearnF F w0 D n low ts ds wr) (hs : low < s) (hs2 : s ≤ 1073741824) (hl : ts.length ≤ 1000000) (hdl : ds.length ≤ 1000000) :
    Calls Try.prog 13 #[.pointer (some ⟨D, 0, none⟩), .int .i64 s] wr fun e w' => e = .returned (.tuple #[]) ∧ LearnF F w0 D n s (keptT s ts) (keptD s ts ds) w' ∧ ∀ k, F k → w'.heap[k]? = wr.heap[k]? := by
  obtain ⟨tag, lv, dv, h1, h2, h3⟩ := h
  refine (forget_in s h1 hs hs2 hl hdl).mono ?_
  rintro e w' ⟨rfl, lv', dv', hL, hT⟩
  exact ⟨rfl, ⟨tag, lv', dv', hL, h2.trans (hT.below (fun k hk => (h1.rng k hk).1) h2.size), fun k hk => ⟨(h3 k hk).1, Nat.lt_of_lt_of_le (h3 k hk).2 hT.size⟩⟩, fun k hk => hT.block k (h3 k hk).2 (fun e => e (h3 k hk).1)⟩
theorem forget_not_f {F : Nat → Prop} {w0 wr : World} {D : Nat} {n low : Int} {ts : List TallyT} {ds : List Nat} (s : Int) (h : LearnF F w0 D n low ts ds wr) (hs : ¬ (low < s ∧ s ≤ 1073741824)) :
    Calls Try.prog 13 #[.pointer (some ⟨D, 0, none⟩), .int .i64 s] wr fun e w' => e = .returned (.tuple #[]) ∧ Below wr.heap.size wr w' := by
  obtain ⟨tag, lv, dv, h1, h2, h3⟩ := h
  exact forget_out s h1 hs
theorem SeenAt.same {w : World} {F : Nat} {S S' : List Int} (h : SeenAt w F S) (hn : S'.Nodup) (hs : ∀ x, x ∈ S' ↔ x ∈ S) : SeenAt w F S' := by
  obtain ⟨fs, h1, h2, h3, h4⟩ := h
  exact ⟨fs, h1, h2, hn, fun m hm => by rw [h4 m hm]; simp only [hs]⟩

/-- The votes of one value by one ballot: who voted, in which order. -/
def QInv (q s c : Int) (v : List UInt8) (S : List Int) (ts : List TallyT) (ds : List Nat) : Prop :=
  (S = [] ∧ ts = [] ∧ ds = []) ∨ (S ≠ [] ∧ ∃ T, ts = [⟨T, s, c, v, S⟩] ∧ ds = if q ≤ (S.length : Int) then [T] else [])
def putIn (S : List Int) (f : Int) : List Int := if f ∈ S then S else S ++ [f]
theorem QInv.step {n s c : Int} {v : List UInt8} {S : List Int} {ts : List TallyT} {ds : List Nat} (h : QInv (n / 2 + 1) s c v S ts ds) (f : Int) (T : Nat) :
    (Took n ts ds s c f v T).1 = true ∧ QInv (n / 2 + 1) s c v (putIn S f) (Took n ts ds s c f v T).2.1 (Took n ts ds s c f v T).2.2 := by
  rcases h with ⟨rfl, rfl, rfl⟩ | ⟨hS, T0, rfl, rfl⟩
  · have h1 : withT [] s c v T = [⟨T, s, c, v, []⟩] := rfl
    have h2 : (withT [] s c v T).find? (isAt s c) = some ⟨T, s, c, v, []⟩ := by rw [h1]; simp [isAt]
    have h3 : ([⟨T, s, c, v, []⟩] : List TallyT).map (addSrc T f) = [⟨T, s, c, v, [f]⟩] := by simp [addSrc]
    unfold Took
    rw [h2]
    simp only [h1, if_pos, List.not_mem_nil, if_false, h3]
    refine ⟨trivial, .inr ⟨by simp [putIn], T, by simp [putIn], ?_⟩⟩
    simp [putIn, findD]
  · have h1 : withT [⟨T0, s, c, v, S⟩] s c v T = [⟨T0, s, c, v, S⟩] := by simp [withT, firstAt, isAt]
    have h2 : (withT [⟨T0, s, c, v, S⟩] s c v T).find? (isAt s c) = some ⟨T0, s, c, v, S⟩ := by rw [h1]; simp [isAt]
    have h3 : ([⟨T0, s, c, v, S⟩] : List TallyT).map (addSrc T0 f) = [⟨T0, s, c, v, S ++ [f]⟩] := by simp [addSrc]
    unfold Took
    rw [h2]
    by_cases hf : f ∈ S
    · simp only [h1, if_pos, hf]
      exact ⟨trivial, .inr ⟨by simp [putIn, hf, hS], T0, by simp [putIn, hf], by simp [putIn, hf]⟩⟩
    · simp only [h1, if_pos, hf, if_false, h3]
      refine ⟨trivial, .inr ⟨by simp [putIn, hf], T0, by simp [putIn, hf], ?_⟩⟩
      by_cases hq : n / 2 + 1 ≤ (S.length : Int)
      · have hq' : n / 2 + 1 ≤ (S.length : Int) + 1 := by omega
        have hfd : findD [⟨T0, s, c, v, S ++ [f]⟩] [T0] s = some T0 := by simp [findD, slotOf, look]
        simp [putIn, hf, hq, hq', hfd]
      · simp [putIn, hf, hq, findD]
theorem QInv.value {q s c : Int} {v : List UInt8} {S : List Int} {ts : List TallyT} {ds : List Nat} (h : QInv q s c v S ts ds) (hq : 1 ≤ q) : valueOf ts ds s = if q ≤ (S.length : Int) then some v else none := by
  rcases h with ⟨rfl, rfl, rfl⟩ | ⟨hS, T0, rfl, rfl⟩
  · rw [if_neg (by simp; omega)]; rfl
  · by_cases h : q ≤ (S.length : Int)
    · simp [valueOf, findD, slotOf, look, h]
    · simp [valueOf, findD, h]
theorem QInv.small {q s c : Int} {v : List UInt8} {S : List Int} {ts : List TallyT} {ds : List Nat} {N : Nat} (h : QInv q s c v S ts ds) (hS : S.length ≤ N) (hv : v.length ≤ 20) : ts.length ≤ 1 ∧ ds.length ≤ 1 ∧ (∀ t ∈ ts, t.src.length ≤ N) ∧ (∀ t ∈ ts, t.v.length ≤ 1000000000) ∧ keptT (s + 1) ts = [] ∧ keptD (s + 1) ts ds = [] := by
  rcases h with ⟨rfl, rfl, rfl⟩ | ⟨_, T0, rfl, rfl⟩
  · simp [keptT, keptD]
  · refine ⟨by simp, by split <;> simp, by simpa using hS, by simp; omega, ?_, ?_⟩
    · simp [keptT, young]; omega
    · by_cases hq : q ≤ (S.length : Int)
      · simp [keptD, oldAt, slotOf, look, hq]; omega
      · simp [keptD, hq]
theorem putIn_len (S : List Int) (f : Int) : (putIn S f).length ≤ S.length + 1 := by unfold putIn; split <;> simp
end Go.Proofs.Ytkghogfcfocmpaa
