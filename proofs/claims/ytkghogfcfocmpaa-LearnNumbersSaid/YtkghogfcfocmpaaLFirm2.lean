/- A learner beside blocks of others: Take and Decided leave those as they were. The draws of a statement. -/
import Derived.Test.YtkghogfcfocmpaaLFirm1
namespace Go.Proofs.Ytkghogfcfocmpaa
open Go.RowKit

structure LAskT where
  kind : Int
  slot : Int
  ballot : Int
  frm : Int
  v : Int
  raw : Bool
def I64 (x : Int) : Prop := -9223372036854775808 ≤ x ∧ x ≤ 9223372036854775807
def RLAsk : Rep LAskT := fun _ _ cs x => cs = [.int .i64 x.kind, .int .i64 x.slot, .int .i64 x.ballot, .int .i64 x.frm, .int .i64 x.v, .bool x.raw] ∧ I64 x.kind ∧ I64 x.slot ∧ I64 x.ballot ∧ I64 x.frm ∧ I64 x.v
theorem RLAsk.kept : Rep.Kept RLAsk := ⟨fun h _ _ => h⟩
/-- The cells of a draw. -/
theorem ask_at {w : World} {S : Nat → Prop} {A : Option Addr} {n c i : Nat} {l : List LAskT} {x : LAskT} (h : SliceOf RLAsk 6 w S (.slice A n c) l) (hx : l[i]? = some x) :
    ∃ b off, A = some ⟨b, off, none⟩ ∧ S b ∧ w.cell? ⟨b, off + i * 6, none⟩ = some (.int .i64 x.kind) ∧ w.cell? ⟨b, off + i * 6 + 1, none⟩ = some (.int .i64 x.slot) ∧ w.cell? ⟨b, off + i * 6 + 2, none⟩ = some (.int .i64 x.ballot) ∧ w.cell? ⟨b, off + i * 6 + 3, none⟩ = some (.int .i64 x.frm) ∧ w.cell? ⟨b, off + i * 6 + 4, none⟩ = some (.int .i64 x.v) ∧ w.cell? ⟨b, off + i * 6 + 5, none⟩ = some (.bool x.raw) ∧ I64 x.kind ∧ I64 x.slot ∧ I64 x.ballot ∧ I64 x.frm ∧ I64 x.v := by
  obtain ⟨b, off, hA, hb, cs, ⟨rfl, h1⟩, _, hc⟩ := h.at hx
  exact ⟨b, off, hA, hb, by simpa using hc 0 _ rfl, by have := hc 1 _ rfl; rwa [← Nat.add_assoc] at this, by have := hc 2 _ rfl; rwa [← Nat.add_assoc] at this, by have := hc 3 _ rfl; rwa [← Nat.add_assoc] at this, by have := hc 4 _ rfl; rwa [← Nat.add_assoc] at this, by have := hc 5 _ rfl; rwa [← Nat.add_assoc] at this, h1⟩

/-- The learner, and blocks of others (F) that are none of its. -/
def LearnF (F : Nat → Prop) (w0 : World) (D : Nat) (n low : Int) (ts : List TallyT) (ds : List Nat) (wr : World) : Prop := ∃ tag lv dv, LearnAt wr w0.heap.size tag D n low ts ds lv dv ∧ Below w0.heap.size w0 wr ∧ ∀ k, F k → tag k = 0 ∧ k < wr.heap.size
theorem LearnF.sub {F : Nat → Prop} {w0 wr : World} {D : Nat} {n low : Int} {ts : List TallyT} {ds : List Nat} (h : LearnF F w0 D n low ts ds wr) : Below w0.heap.size w0 wr := by obtain ⟨_, _, _, _, h, _⟩ := h; exact h
theorem LearnF.touch {F T : Nat → Prop} {w0 wr w' : World} {D : Nat} {n low : Int} {ts : List TallyT} {ds : List Nat} (h : LearnF F w0 D n low ts ds wr) (ht : Touch T wr w') (hT : ∀ k, T k → F k ∧ w0.heap.size ≤ k) : LearnF F w0 D n low ts ds w' := by
  obtain ⟨tag, lv, dv, h1, h2, h3⟩ := h
  exact ⟨tag, lv, dv, h1.touch ht (fun k hk hTk => hk (h3 k (hT k hTk).1).1), h2.trans (ht.below (fun k hk => (hT k hk).2) h2.size), fun k hk => ⟨(h3 k hk).1, Nat.lt_of_lt_of_le (h3 k hk).2 ht.size⟩⟩
theorem LearnF.below {F : Nat → Prop} {w0 wr w' : World} {D : Nat} {n low : Int} {ts : List TallyT} {ds : List Nat} (h : LearnF F w0 D n low ts ds wr) (hb : Below wr.heap.size wr w') : LearnF F w0 D n low ts ds w' :=
  h.touch (Touch.of_below hb fun _ => False) (fun _ g => g.elim)
theorem LearnF.new (w : World) (n : Int) : LearnF (fun _ => False) w w.heap.size n 0 [] [] (w.alloc (.cells #[.int .i64 n, .int .i64 0, .slice none 0 0, .slice none 0 0] 50)) :=
  ⟨_, _, _, LearnAt.new w w.heap.size n (Nat.le_refl _), (Below.refl _ _).alloc (Nat.le_refl _) _, fun _ h => h.elim⟩
/-- More blocks of others. -/
theorem LearnF.more {F F' : Nat → Prop} {w0 wr w' : World} {D : Nat} {n low : Int} {ts : List TallyT} {ds : List Nat} (h : LearnF F w0 D n low ts ds wr) (hb : Below wr.heap.size wr w') (hF : ∀ k, F' k → F k ∨ (wr.heap.size ≤ k ∧ k < w'.heap.size)) : LearnF F' w0 D n low ts ds w' := by
  obtain ⟨tag, lv, dv, h1, h2, h3⟩ := h
  refine ⟨tag, lv, dv, h1.below hb, h2.trans (hb.mono h2.size), fun k hk => ?_⟩
  rcases hF k hk with e | e
  · exact ⟨(h3 k e).1, Nat.lt_of_lt_of_le (h3 k e).2 hb.size⟩
  · refine ⟨?_, e.2⟩
    by_cases g : tag k = 0
    · exact g
    · have := h1.rng k g; omega
theorem take_f {F : Nat → Prop} {w0 wr0 wr : World} {D : Nat} {n low : Int} {ts : List TallyT} {ds : List Nat} (slot b src : Int) (vv : Value) (v : List UInt8) (Sv : Nat → Prop) (h : LearnF F w0 D n low ts ds wr0) (hb : Below wr0.heap.size wr0 wr) (hr : isRight n = true) (hlow : 0 ≤ low) (hlow2 : low ≤ 1073741824) (hin : InReach n low slot b src)
    (hl : ts.length ≤ 1000000) (hdl : ds.length ≤ 1000000) (hsl : ∀ t ∈ ts, t.src.length ≤ 1000000) (hvl : v.length ≤ 1000000000) (hv : BytesAt wr Sv vv v) (hS : ∀ k, Sv k → (k < w0.heap.size ∨ wr0.heap.size ≤ k) ∧ k < wr.heap.size) :
    Calls Try.prog 9 #[.pointer (some ⟨D, 0, none⟩), .int .i64 slot, .int .i64 b, .int .i64 src, vv] wr fun e w' => ∃ T, (∀ (t : TallyT), t ∈ ts → t.p ≠ T) ∧ e = .returned (.bool (Took n ts ds slot b src v T).1) ∧ LearnF F w0 D n low (Took n ts ds slot b src v T).2.1 (Took n ts ds slot b src v T).2.2 w' ∧ ∀ k, F k → w'.heap[k]? = wr.heap[k]? := by
  obtain ⟨tag, lv, dv, h1, h2, h3⟩ := h
  have hz := hb.size
  have hz2 := h2.size
  refine (take_in slot b src vv v Sv (h1.below hb) hr hlow hlow2 hin hl hdl hsl hvl hv (fun k hk => ⟨(hS k hk).2, ?_⟩)).mono ?_
  · by_cases hk0 : tag k = 0
    · exact hk0
    · have := h1.rng k hk0
      rcases (hS k hk).1 with e | e <;> omega
  · rintro e w' ⟨T, tag', lv', dv', hT, rfl, hL, htg, htc⟩
    refine ⟨T, hT, rfl, ⟨tag', lv', dv', hL, (h2.trans (hb.mono hz2)).trans (htc.below (fun k hk => (h1.rng k hk).1) (by omega)), fun k hk => ⟨?_, ?_⟩⟩, fun k hk => htc.block k (Nat.lt_of_lt_of_le (h3 k hk).2 hz) (fun e => e (h3 k hk).1)⟩
    · have hk3 := h3 k hk
      by_cases hk0 : tag' k = 0
      · exact hk0
      · rcases htg k hk0 with e | e
        · exact absurd hk3.1 e
        · omega
    · have := (h3 k hk).2; have := htc.size; omega
theorem decided_f {F : Nat → Prop} {w0 wr : World} {D : Nat} {n low : Int} {ts : List TallyT} {ds : List Nat} (s : Int) (h : LearnF F w0 D n low ts ds wr) (hl : ds.length ≤ 1000000000) (hv : ∀ t ∈ ts, t.v.length ≤ 1000000000) :
    Calls Try.prog 10 #[.pointer (some ⟨D, 0, none⟩), .int .i64 s] wr (DecEnd wr (valueOf ts ds s)) := by
  obtain ⟨tag, lv, dv, h1, _⟩ := h
  exact decided_any s h1 hl hv

/-! ### What was decided -/
def WasAt (w : World) (TW TD : Nat) (ts : List TallyT) (ds : List Nat) : Prop :=
  ∃ (ws bs : Array Value), Blk w TW 27 ws ∧ Blk w TD 28 bs ∧ ws.size = 8 ∧ bs.size = 8 ∧ ∀ m : Nat, m < 8 → ∃ d u, bs[m]? = some (.bool d) ∧ ws[m]? = some (.string ⟨List.toArray u⟩) ∧ (d = true → valueOf ts ds m = some u)
theorem WasAt.keep {w w' : World} {TW TD : Nat} {ts ts' : List TallyT} {ds ds' : List Nat} (h : WasAt w TW TD ts ds) (hb : ∀ k, k = TW ∨ k = TD → w'.heap[k]? = w.heap[k]?) (hv : ∀ (j : Int) (v : List UInt8), valueOf ts ds j = some v → valueOf ts' ds' j = some v) : WasAt w' TW TD ts' ds' := by
  obtain ⟨ws, bs, h1, h2, h3, h4, h5⟩ := h
  exact ⟨ws, bs, (hb TW (.inl rfl)).trans h1, (hb TD (.inr rfl)).trans h2, h3, h4, fun m hm => by obtain ⟨d, u, a1, a2, a3⟩ := h5 m hm; exact ⟨d, u, a1, a2, fun e => hv _ _ (a3 e)⟩⟩
theorem WasAt.below {w w' : World} {TW TD : Nat} {ts : List TallyT} {ds : List Nat} (h : WasAt w TW TD ts ds) (hb : Below w.heap.size w w') : WasAt w' TW TD ts ds := by
  have h0 := h
  obtain ⟨ws, bs, h1, h2, _⟩ := h0
  exact h.keep (fun k hk => hb.block k (by rcases hk with rfl | rfl; exact h1.lt; exact h2.lt)) (fun _ _ e => e)
theorem WasAt.new {w : World} {TW TD : Nat} (h1 : Blk w TW 27 #[.string ⟨#[]⟩, .string ⟨#[]⟩, .string ⟨#[]⟩, .string ⟨#[]⟩, .string ⟨#[]⟩, .string ⟨#[]⟩, .string ⟨#[]⟩, .string ⟨#[]⟩]) (h2 : Blk w TD 28 #[.bool false, .bool false, .bool false, .bool false, .bool false, .bool false, .bool false, .bool false]) : WasAt w TW TD [] [] :=
  ⟨_, _, h1, h2, rfl, rfl, fun m hm => ⟨false, [], by match m, hm with | 0, _ => rfl | 1, _ => rfl | 2, _ => rfl | 3, _ => rfl | 4, _ => rfl | 5, _ => rfl | 6, _ => rfl | 7, _ => rfl, by match m, hm with | 0, _ => rfl | 1, _ => rfl | 2, _ => rfl | 3, _ => rfl | 4, _ => rfl | 5, _ => rfl | 6, _ => rfl | 7, _ => rfl, fun e => by cases e⟩⟩
/-- One more written down. -/
theorem WasAt.put {w : World} {TW TD : Nat} {ts : List TallyT} {ds : List Nat} (h : WasAt w TW TD ts ds) (j : Nat) (d : Bool) (u : List UInt8) (hv : d = true → valueOf ts ds j = some u) : WasAt ((w.setCell ⟨TW, j, none⟩ (.string ⟨List.toArray u⟩)).setCell ⟨TD, j, none⟩ (.bool d)) TW TD ts ds := by
  obtain ⟨ws, bs, h1, h2, h3, h4, h5⟩ := h
  have hne : TW ≠ TD := h1.apart h2 (by decide)
  refine ⟨_, _, (h1.set j _).other hne _, (h2.other (p := ⟨TW, j, none⟩) (Ne.symm hne) _).set j _, by simpa using h3, by simpa using h4, fun m hm => ?_⟩
  by_cases e : m = j
  · subst e
    exact ⟨d, u, by rw [Array.getElem?_setIfInBounds]; simp; omega, by rw [Array.getElem?_setIfInBounds]; simp; omega, hv⟩
  · obtain ⟨d', u', a1, a2, a3⟩ := h5 m hm
    exact ⟨d', u', by rw [Array.getElem?_setIfInBounds, if_neg (Ne.symm e)]; exact a1, by rw [Array.getElem?_setIfInBounds, if_neg (Ne.symm e)]; exact a2, a3⟩
theorem WasAt.at {w : World} {TW TD : Nat} {ts : List TallyT} {ds : List Nat} (h : WasAt w TW TD ts ds) (m : Nat) (hm : m < 8) : ∃ d u, w.cell? ⟨TD, m, none⟩ = some (.bool d) ∧ w.cell? ⟨TW, m, none⟩ = some (.string ⟨List.toArray u⟩) ∧ (d = true → valueOf ts ds m = some u) ∧ w.frozen? ⟨TD, m, none⟩ = false ∧ w.frozen? ⟨TW, m, none⟩ = false := by
  obtain ⟨ws, bs, h1, h2, h3, h4, h5⟩ := h
  obtain ⟨d, u, a1, a2, a3⟩ := h5 m hm
  exact ⟨d, u, (h2.cell m).trans a1, (h1.cell m).trans a2, a3, h2.frozen m, h1.frozen m⟩

/-! ### Who voted -/
def obsOf (k : Int) (l : List LAskT) : List (Int × Int × Int) := l.map fun a => (within a.slot 0 7, within a.ballot 0 4, within a.frm 0 (k - 1))
theorem obs_snoc (k : Int) (l : List LAskT) (i : Nat) (a : LAskT) (h : l[i]? = some a) : obsOf k (l.take (i + 1)) = obsOf k (l.take i) ++ [(within a.slot 0 7, within a.ballot 0 4, within a.frm 0 (k - 1))] := by
  unfold obsOf
  rw [List.take_add_one, h, Option.toList_some, List.map_append]
  rfl
/-- Who has been counted. -/
def SeenAt (w : World) (F : Nat) (S : List Int) : Prop :=
  ∃ fs : Array Value, Blk w F 35 fs ∧ fs.size = 5 ∧ S.Nodup ∧ ∀ m : Nat, m < 5 → fs[m]? = some (.bool (decide ((m : Int) ∈ S)))
theorem SeenAt.at {w : World} {F : Nat} {S : List Int} (h : SeenAt w F S) (m : Nat) (hm : m < 5) : w.cell? ⟨F, m, none⟩ = some (.bool (decide ((m : Int) ∈ S))) ∧ w.frozen? ⟨F, m, none⟩ = false := by
  obtain ⟨fs, h1, h2, h3, h4⟩ := h
  exact ⟨(h1.cell m).trans (h4 m hm), h1.frozen m⟩
theorem SeenAt.put {w : World} {F : Nat} {S : List Int} (h : SeenAt w F S) (m : Nat) (hm : m < 5) (hn : (m : Int) ∉ S) : SeenAt (w.setCell ⟨F, m, none⟩ (.bool true)) F ((m : Int) :: S) := by
  obtain ⟨fs, h1, h2, h3, h4⟩ := h
  refine ⟨_, h1.set m _, by simpa using h2, List.nodup_cons.2 ⟨hn, h3⟩, fun q hq => ?_⟩
  rw [Array.getElem?_setIfInBounds]
  by_cases e : m = q
  · subst e; simp; omega
  · rw [if_neg e, h4 q hq]
    have : ((q : Int) ∈ (m : Int) :: S) ↔ (q : Int) ∈ S := by
      rw [List.mem_cons]
      exact ⟨fun h => h.elim (fun e2 => by omega) id, .inr⟩
    simp only [this]
theorem SeenAt.keep {w w' : World} {F : Nat} {S : List Int} (h : SeenAt w F S) (hb : w'.heap[F]? = w.heap[F]?) : SeenAt w' F S := by
  obtain ⟨fs, h1, h2⟩ := h
  exact ⟨fs, hb.trans h1, h2⟩
theorem SeenAt.new {w : World} {F : Nat} (h : Blk w F 35 #[.bool false, .bool false, .bool false, .bool false, .bool false]) : SeenAt w F [] :=
  ⟨_, h, rfl, List.nodup_nil, fun m hm => by match m, hm with | 0, _ => rfl | 1, _ => rfl | 2, _ => rfl | 3, _ => rfl | 4, _ => rfl⟩
end Go.Proofs.Ytkghogfcfocmpaa
