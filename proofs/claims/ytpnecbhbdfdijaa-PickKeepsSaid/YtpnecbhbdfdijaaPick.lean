/- The contract of pick.Choose. -/
import Derived.Test.YtpnecbhbdfdijaaBytes
import Derived.Test.YtpnecbhbdfdijaaPickPlain
import Derived.Deep.RegionHeld3
import Derived.Deep.RegionLaw
namespace Go.Proofs.Ytpnecbhbdfdijaa
open Go.RowKit

def RVote : Rep VoteT := fun w S cs x => ∃ bv, cs = [.int .i64 x.slot, .int .i64 x.ballot, bv] ∧ BytesAt w S bv x.v
theorem RVote.kept : Rep.Kept RVote := ⟨fun ⟨bv, hv, h⟩ hk hS => ⟨bv, hv, SliceOf.keep RByte.kept h hk hS⟩⟩
abbrev RVotes : Rep (List VoteT) := RSlice RVote 3
theorem RVotes.kept : Rep.Kept RVotes := RSlice.kept RVote.kept 3
theorem vote_info : (Try.prog.info? 24).map (fun i => (i.zero, i.size, i.bytes)) = some (some (.agg #[.int .i64 0, .int .i64 0, .slice none 0 0]), 3, 40) := by kernel_rfl

/-- The votes as they may come in: numbers that are int's, texts that are short. -/
def VoteOk (v : VoteT) : Prop := -9223372036854775808 ≤ v.slot ∧ v.slot ≤ 9223372036854775807 ∧ -9223372036854775808 ≤ v.ballot ∧ v.ballot ≤ 9223372036854775807 ∧ v.v.length ≤ 1000000

/-- The places that were found. -/
def foundAt (f : Int) (vs : List VoteT) : Array Value := ((List.range 16).map fun i => Value.bool (bestAt (f + (i : Nat)) vs).isSome).toArray

set_option maxHeartbeats 400000 in
theorem choose_neg (f : Int) (v : Value) (w : World) (hf : f < 0) : Calls Try.prog 8 #[.int .i64 f, v] w fun e w' => e = .returned (.slice none 0 0) ∧ w = w' := by
  go_enter Try.func8, Try.ntmps8
  go_wp2
  go_ret
  exact ⟨rfl, rfl⟩
/-- What the call has made: the list 'out' in a row of its own, the marks in the first new block. -/
def ChMem (w : World) (out : List VoteT) (fnd : Array Value) (ov : Value) (wr : World) : Prop :=
  ∃ S css, wr.ownsRow w.heap.size 24 3 ov out.length css.flatten ∧ RowsOf RVote 3 wr S css out ∧ (∀ k, S k → w.heap.size < k ∧ k < wr.heap.size) ∧ (∀ k, ov.ownBlock = some k → ¬ S k ∧ k ≠ w.heap.size) ∧ Blk wr w.heap.size 37 fnd ∧ Below w.heap.size w wr
theorem ChMem.below {w wr w1 : World} {out : List VoteT} {fnd : Array Value} {ov : Value} (h : ChMem w out fnd ov wr) (hb : Below wr.heap.size wr w1) : ChMem w out fnd ov w1 := by
  obtain ⟨S, css, h1, h2, h3, h4, h5, h6⟩ := h
  exact ⟨S, css, own_below h1 hb, RowsOf.keep RVote.kept h2 (fun k hk => hb.block k (h3 k hk).2) (fun _ g => g), fun k hk => ⟨(h3 k hk).1, Nat.lt_of_lt_of_le (h3 k hk).2 hb.size⟩, h4, h5.below hb h5.lt, h6.trans (hb.mono h6.size)⟩
theorem ChMem.lt {w wr : World} {out : List VoteT} {fnd : Array Value} {ov : Value} (h : ChMem w out fnd ov wr) : (∀ k, ov.ownBlock = some k → w.heap.size < k ∧ k < wr.heap.size) ∧ w.heap.size < wr.heap.size := by
  obtain ⟨S, css, h1, h2, h3, h4, h5, h6⟩ := h
  exact ⟨fun k e => ⟨by have := (h1.lt k e).1; have := (h4 k e).2; omega, (h1.lt k e).2⟩, h5.lt⟩
theorem ChMem.shape {w wr : World} {out : List VoteT} {fnd : Array Value} {ov : Value} (h : ChMem w out fnd ov wr) : ∃ A c, ov = .slice A out.length c := by
  obtain ⟨S, css, h1, _⟩ := h; exact own_shape h1
/-- One more at the end. -/
theorem ChMem.push {w wr w2 : World} {out : List VoteT} {fnd : Array Value} {ov v2 : Value} {s b : Int} {css : List (List Value)} {S : Nat → Prop}
    (h1 : wr.ownsRow w.heap.size 24 3 ov out.length css.flatten) (h2 : RowsOf RVote 3 wr S css out) (h3 : ∀ k, S k → w.heap.size < k ∧ k < wr.heap.size) (h4 : ∀ k, ov.ownBlock = some k → ¬ S k ∧ k ≠ w.heap.size) (h5 : Blk wr w.heap.size 37 fnd) (h6 : Below w.heap.size w wr)
    (hown : w2.ownsRow w.heap.size 24 3 v2 (out.length + 1) (css.flatten ++ [.int .i64 s, .int .i64 b, .slice none 0 0])) (hg : (wr.alloc (.cells #[.int .i64 s, .int .i64 b, .slice none 0 0] 24)).grownBy w2 ov.ownBlock) (hat : v2.ownBlock = ov.ownBlock ∨ v2.ownBlock = some (wr.alloc (.cells #[.int .i64 s, .int .i64 b, .slice none 0 0] 24)).heap.size) :
    ChMem w (out ++ [⟨s, b, []⟩]) fnd v2 w2 ∧ Touch (fun k => ov.ownBlock = some k) wr w2 := by
  have ht : Touch (fun k => ov.ownBlock = some k) wr w2 := (Touch.alloc _ wr _).trans (Touch.grown hg (fun g _ e => e)) (fun _ _ h => h)
  have hz := ht.size
  have hlt := h1.lt
  have hk : ∀ k, S k → w2.heap[k]? = wr.heap[k]? := fun k hk => ht.block k (h3 k hk).2 (fun e => (h4 k e).1 hk)
  refine ⟨⟨S, css ++ [[.int .i64 s, .int .i64 b, .slice none 0 0]], by rw [List.length_append]; simpa using hown, (RowsOf.keep RVote.kept h2 hk (fun _ g => g)).snoc rfl ⟨.slice none 0 0, rfl, SliceOf.nil RByte 1 w2 S⟩, fun k hk => ⟨(h3 k hk).1, by have := h3 k hk; omega⟩, fun k e => ?_, h5.touch ht (fun e => (h4 _ e).2 rfl), h6.trans (ht.below (fun k e => (hlt k e).1) h6.size)⟩, ht⟩
  rcases hat with e2 | e2
  · exact h4 k (e2 ▸ e)
  · rw [e2] at e
    simp at e
    exact ⟨fun g => by have := h3 k g; omega, by have := h5.lt; omega⟩
/-- A place is marked. -/
theorem ChMem.mark {w wr : World} {out : List VoteT} {fnd : Array Value} {ov : Value} (h : ChMem w out fnd ov wr) (i : Nat) (u : Value) : ChMem w out (fnd.setIfInBounds i u) ov (wr.setCell ⟨w.heap.size, i, none⟩ u) := by
  obtain ⟨S, css, h1, h2, h3, h4, h5, h6⟩ := h
  have ht : Touch (fun k => k = w.heap.size) wr (wr.setCell ⟨w.heap.size, i, none⟩ u) := Touch.setCell wr u (fun _ => rfl)
  exact ⟨S, css, own_touch h1 ht (fun k e => (h4 k e).2), RowsOf.keep RVote.kept h2 (fun k hk => ht.block k (h3 k hk).2 (fun e => by have := h3 k hk; omega)) (fun _ g => g), fun k hk => ⟨(h3 k hk).1, by simpa [World.setCell] using (h3 k hk).2⟩, h4, h5.set i u, h6.setCell (Nat.le_refl _) u⟩

theorem foundAt_nil (f : Int) : foundAt f [] = #[.bool false, .bool false, .bool false, .bool false, .bool false, .bool false, .bool false, .bool false, .bool false, .bool false, .bool false, .bool false, .bool false, .bool false, .bool false, .bool false] := rfl
theorem foundAt_get (f : Int) (vs : List VoteT) (i : Nat) (h : i < 16) : (foundAt f vs)[i]? = some (.bool (bestAt (f + i) vs).isSome) := by
  unfold foundAt
  rw [List.getElem?_toArray, List.getElem?_map, List.getElem?_range h]; rfl
theorem foundAt_far (f : Int) (vs : List VoteT) (v : VoteT) (h : inReach f v = false) : foundAt f (vs ++ [v]) = foundAt f vs := by
  unfold foundAt
  congr 1
  refine List.map_congr_left fun j hj => ?_
  rw [best_far f vs v h j (List.mem_range.1 hj)]
theorem foundAt_near (f : Int) (vs : List VoteT) (v : VoteT) (i : Nat) (hi : v.slot = f + i) : foundAt f (vs ++ [v]) = (foundAt f vs).setIfInBounds i (.bool true) := by
  unfold foundAt
  rw [List.setIfInBounds_toArray, set_map_range (fun i => Value.bool (bestAt (f + (i : Nat)) vs).isSome) (fun i => Value.bool (bestAt (f + (i : Nat)) (vs ++ [v])).isSome) 16 i (fun j _ hne => by rw [best_other f vs v i j hi hne])]
  rw [best_near f vs v i hi]
  congr 3
  cases bestAt (f + i) vs with
  | none => rfl
  | some b => unfold better; simp only; split <;> rfl
theorem ch_far {w wr wr' : World} {f : Int} {vs : List VoteT} {x : VoteT} {ov : Value} (h : ChMem w (chooseL f vs) (foundAt f vs) ov wr) (hx : inReach f x = false) (hb : Below wr.heap.size wr wr') : ChMem w (chooseL f (vs ++ [x])) (foundAt f (vs ++ [x])) ov wr' := by
  rw [choose_far f vs x hx, foundAt_far f vs x hx]; exact h.below hb
theorem take_more {pre l : List VoteT} {q : Nat} {x : VoteT} (h : l[q]? = some x) : pre ++ l.take (q + 1) = (pre ++ l.take q) ++ [x] := by
  obtain ⟨hk, rfl⟩ := List.getElem?_eq_some_iff.1 h
  rw [List.take_succ_eq_append_getElem hk, List.append_assoc]
theorem flat_more {ls : List (List VoteT)} {k : Nat} {l : List VoteT} (h : ls[k]? = some l) : (ls.take (k + 1)).flatten = (ls.take k).flatten ++ l := by
  obtain ⟨hk, rfl⟩ := List.getElem?_eq_some_iff.1 h
  rw [List.take_succ_eq_append_getElem hk, List.flatten_append]; simp
def lenV : Value → Nat
  | .slice _ n _ => n
  | _ => 0
/-- The innermost loop's relation: the list is padded. -/
def PadRel (w w1 : World) (f : Int) (vs : List VoteT) (i : Nat) (x : VoteT) (bv ov : Value) (wr : World) : Prop :=
  ∃ n A c, ov = .slice A n c ∧ width f vs ≤ n ∧ n ≤ max (width f vs) (i + 1) ∧ ChMem w (firsts f vs n) (foundAt f vs) ov wr ∧ Blk wr w1.heap.size 24 #[.int .i64 x.slot, .int .i64 x.ballot, bv] ∧ (∀ k, ov.ownBlock = some k → k ≠ w1.heap.size)
theorem pad_start {w w1 : World} {f : Int} {vs : List VoteT} {i : Nat} {x : VoteT} {bv : Value} {A : Option Addr} {c : Nat} (h : ChMem w (chooseL f vs) (foundAt f vs) (.slice A (chooseL f vs).length c) w1) : PadRel w w1 f vs i x bv (.slice A (chooseL f vs).length c) (w1.alloc (.cells #[.int .i64 x.slot, .int .i64 x.ballot, bv] 24)) :=
  ⟨(chooseL f vs).length, A, c, rfl, by unfold chooseL; rw [firsts_length]; exact Nat.le_refl _, by unfold chooseL; rw [firsts_length]; exact Nat.le_max_left _ _, by
    have : firsts f vs (chooseL f vs).length = chooseL f vs := by unfold chooseL; rw [firsts_length]
    rw [this]
    exact h.below ((Below.refl _ _).alloc (Nat.le_refl _) _), Blk.new w1 _ _, fun k e => by have := (h.lt.1 k e).2; omega⟩

theorem flatten_set3 {css : List (List Value)} (h : ∀ cs ∈ css, cs.length = 3) (i : Nat) (a b c b' c' : Value) (hi : css[i]? = some [a, b, c]) : (css.set i [a, b', c']).flatten = (css.flatten.set (i * 3 + 1) b').set (i * 3 + 2) c' := by
  induction css generalizing i with
  | nil => simp at hi
  | cons x r ih =>
    have hx : x.length = 3 := h x (by simp)
    cases i with
    | zero =>
      simp at hi
      subst hi
      simp
    | succ i =>
      simp at hi
      have := ih (fun cs hc => h cs (by simp [hc])) i hi
      simp only [List.set_cons_succ, List.flatten_cons, this]
      rw [List.set_append_right _ _ (by rw [hx]; omega), List.set_append_right _ _ (by rw [hx]; omega), hx]
      congr 2
      · rw [show (i + 1) * 3 + 1 - 3 = i * 3 + 1 by omega]
      · omega
theorem rows_set {w : World} {S : Nat → Prop} {css : List (List Value)} {out : List VoteT} (h : RowsOf RVote 3 w S css out) (i : Nat) {cs : List Value} {x : VoteT} (hl : cs.length = 3) (hx : RVote w S cs x) : RowsOf RVote 3 w S (css.set i cs) (out.set i x) := by
  refine ⟨by rw [List.length_set, List.length_set]; exact h.1, fun j c y h1 h2 => ?_⟩
  rw [List.getElem?_set] at h1 h2
  by_cases e : i = j
  · subst e
    rw [if_pos rfl] at h1 h2
    split at h1
    · split at h2
      · injection h1 with h1; injection h2 with h2; subst h1 h2; exact ⟨hl, hx⟩
      · cases h2
    · cases h1
  · rw [if_neg e] at h1 h2
    exact h.2 j c y h1 h2
/-- An element gets another ballot and other bytes. -/
theorem ChMem.put {w wr w2 : World} {out : List VoteT} {fnd : Array Value} {g c : Nat} {i : Nat} {s xb : Int} {b0 : Int} {bv0 v2 : Value} {xv : List UInt8} {css : List (List Value)} {S : Nat → Prop}
    (h1 : wr.ownsRow w.heap.size 24 3 (.slice (some ⟨g, 0, none⟩) out.length c) out.length css.flatten) (h2 : RowsOf RVote 3 wr S css out) (h3 : ∀ k, S k → w.heap.size < k ∧ k < wr.heap.size) (h4 : ¬ S g ∧ g ≠ w.heap.size) (h5 : Blk wr w.heap.size 37 fnd) (h6 : Below w.heap.size w wr)
    (hi : css[i]? = some [.int .i64 s, .int .i64 b0, bv0]) (hc : w2.ownsRow wr.heap.size 5 1 v2 xv.length (xv.map byteV)) (hb : Below wr.heap.size wr w2) :
    ChMem w (out.set i ⟨s, xb, xv⟩) fnd (.slice (some ⟨g, 0, none⟩) out.length c) ((w2.setCell ⟨g, i * 3 + 1, none⟩ (.int .i64 xb)).setCell ⟨g, i * 3 + 2, none⟩ v2) := by
  have hg := h1.lt g rfl
  have hv2 := hc.lt
  have hz := hb.size
  have t1 : Touch (fun k => k = g) w2 (w2.setCell ⟨g, i * 3 + 1, none⟩ (.int .i64 xb)) := Touch.setCell w2 _ (fun _ => rfl)
  have t2 : Touch (fun k => k = g) (w2.setCell ⟨g, i * 3 + 1, none⟩ (.int .i64 xb)) ((w2.setCell ⟨g, i * 3 + 1, none⟩ (.int .i64 xb)).setCell ⟨g, i * 3 + 2, none⟩ v2) := Touch.setCell _ _ (fun _ => rfl)
  have t12 := t1.trans t2 (fun _ _ g => g)
  have hk : ∀ k, S k → ((w2.setCell ⟨g, i * 3 + 1, none⟩ (.int .i64 xb)).setCell ⟨g, i * 3 + 2, none⟩ v2).heap[k]? = wr.heap[k]? := fun k hk => (t12.block k (by have := h3 k hk; omega) (fun e => h4.1 (e ▸ hk))).trans (hb.block k (h3 k hk).2)
  have hsz : ((w2.setCell ⟨g, i * 3 + 1, none⟩ (.int .i64 xb)).setCell ⟨g, i * 3 + 2, none⟩ v2).heap.size = w2.heap.size := by simp [World.setCell]
  have hc' := own_touch hc t12 (fun k e e' => by have := hv2 k e; omega)
  refine ⟨fun k => S k ∨ v2.ownBlock = some k, css.set i [.int .i64 s, .int .i64 xb, v2], ?_, ?_, ?_, ?_, h5.below hb (by have := h5.lt; exact this) |>.touch t12 (fun e => h4.2 e.symm), (h6.trans (hb.mono h6.size)).trans (t12.below (fun k e => by have := hg.1; omega) (by have := h6.size; omega))⟩
  · rw [List.length_set, flatten_set3 h2.sizes i _ _ _ _ _ hi]
    exact (((own_below h1 hb).stored _ _).1.stored _ _).1
  · exact rows_set (RowsOf.keep RVote.kept h2 hk (fun _ h => .inl h)) i rfl ⟨v2, rfl, Owns.slice RByte.kept (owns_bytes (S := fun _ => False) hc') (fun _ h => h.elim) (fun k e => .inr e)⟩
  · rintro k (h | h)
    · have := h3 k h; exact ⟨this.1, by omega⟩
    · have := hv2 k h; have := h6.size; have := h5.lt; exact ⟨by omega, by omega⟩
  · intro k e
    simp [Value.ownBlock] at e
    subst e
    refine ⟨?_, h4.2⟩
    rintro (h | h)
    · exact h4.1 h
    · have := hv2 g h; omega

theorem near_taken {w W : World} {f xs xb : Int} {xv : List UInt8} {vs : List VoteT} {i n : Nat} {ov : Value} (hx : xs = f + i) (hn : n = max (width f vs) (i + 1)) (h16 : i < 16) (h : ChMem w ((firsts f vs n).set i ⟨f + i, xb, xv⟩) (foundAt f vs) ov W) (ht : better (bestAt (f + i) vs) ⟨xs, xb, xv⟩ = some ⟨xs, xb, xv⟩) :
    ChMem w (chooseL f (vs ++ [⟨xs, xb, xv⟩])) (foundAt f (vs ++ [⟨xs, xb, xv⟩])) ov (W.setCell ⟨w.heap.size, i, none⟩ (.bool true)) := by
  rw [choose_taken f vs ⟨xs, xb, xv⟩ i n hx hn h16 ht, foundAt_near f vs ⟨xs, xb, xv⟩ i hx]
  exact h.mark i (.bool true)
theorem near_left {w W : World} {f xs xb : Int} {xv : List UInt8} {vs : List VoteT} {i n : Nat} {ov : Value} (hx : xs = f + i) (hn : n = max (width f vs) (i + 1)) (h16 : i < 16) (h : ChMem w (firsts f vs n) (foundAt f vs) ov W) (ht : better (bestAt (f + i) vs) ⟨xs, xb, xv⟩ = bestAt (f + i) vs) :
    ChMem w (chooseL f (vs ++ [⟨xs, xb, xv⟩])) (foundAt f (vs ++ [⟨xs, xb, xv⟩])) ov (W.setCell ⟨w.heap.size, i, none⟩ (.bool true)) := by
  rw [choose_left f vs ⟨xs, xb, xv⟩ i n hx hn h16 ht, foundAt_near f vs ⟨xs, xb, xv⟩ i hx]
  exact h.mark i (.bool true)

/-- What Choose gives back: what must be proposed, in new blocks. -/
def ChooseEnd (w : World) (f : Int) (ls : List (List VoteT)) (e : Ending) (w' : World) : Prop :=
  ∃ v, e = .returned v ∧ SliceOf RVote 3 w' (fun k => w.heap.size ≤ k ∧ k < w'.heap.size) v (choose f ls) ∧ Below w.heap.size w w'
theorem choose_begin (f : Int) (w : World) : ChMem w (chooseL f (List.take 0 ([] : List (List VoteT))).flatten) (foundAt f (List.take 0 ([] : List (List VoteT))).flatten) (.slice none 0 0) (w.alloc (.cells #[.bool false, .bool false, .bool false, .bool false, .bool false, .bool false, .bool false, .bool false, .bool false, .bool false, .bool false, .bool false, .bool false, .bool false, .bool false, .bool false] 37)) :=
  ⟨fun _ => False, [], World.ownsRow_nil _ _ _ _, RowsOf.nil RVote 3 _ _, fun _ h => h.elim, fun k e => by simp [Value.ownBlock] at e, Blk.new w _ _, (Below.refl _ _).alloc (Nat.le_refl _) _⟩
theorem choose_end {w wr : World} {f : Int} {ls : List (List VoteT)} {ov : Value} (hf : ¬ f < 0) (h : ChMem w (chooseL f ls.flatten) (foundAt f ls.flatten) ov wr) : ChooseEnd w f ls (.returned ov) wr := by
  have hlt := h.lt
  obtain ⟨S, css, h1, h2, h3, h4, h5, h6⟩ := h
  refine ⟨ov, rfl, ?_, h6⟩
  unfold choose
  rw [if_neg hf]
  exact Owns.slice RVote.kept (⟨css, h2, h1⟩ : Owns RVote 3 24 wr w.heap.size S ov _) (fun k hk => ⟨by have := h3 k hk; omega, (h3 k hk).2⟩) (fun k e => ⟨by have := hlt.1 k e; omega, (hlt.1 k e).2⟩)

set_option maxRecDepth 100000 in
set_option maxHeartbeats 1000000 in
theorem choose_any (f : Int) (v : Value) (ls : List (List VoteT)) (S : Nat → Prop) (w : World) (hf : 0 ≤ f) (hf2 : f ≤ 1000000000) (h : SliceOf RVotes 1 w S v ls) (hS : ∀ k, S k → k < w.heap.size) (hok : ∀ l ∈ ls, ∀ x ∈ l, VoteOk x) (hll : ∀ l ∈ ls, l.length ≤ 1000000000) : Calls Try.prog 8 #[.int .i64 f, v] w (ChooseEnd w f ls) := by
  have H := Lib.hid h
  obtain ⟨A, cap, rfl, hcap0, hc, hrd⟩ := h
  have hmax : ls.length ≤ 9223372036854775807 := by unfold maxLen at hc; omega
  clear hc hcap0 hrd
  go_enter Try.func8, Try.ntmps8
  go_wp2_with fail
  go_loopw [5, 16] (fun ov p wr => ∃ k : Nat, k ≤ ls.length ∧ p = .int .i64 k ∧ ChMem w (chooseL f (ls.take k).flatten) (foundAt f (ls.take k).flatten) ov wr) (fun _ p _ => ls.length - (intOf p).toNat)
  case atStart => exact ⟨0, Nat.zero_le _, rfl, choose_begin f w⟩
  case round =>
    obtain ⟨k, hk, rfl, hm⟩ := hrel
    by_cases hlt : k < ls.length
    · obtain ⟨l, hl⟩ : ∃ l, ls[k]? = some l := ⟨ls[k], List.getElem?_eq_getElem hlt⟩
      have hb : Below w.heap.size w wr := by obtain ⟨_, _, _, _, _, _, _, h6⟩ := hm; exact h6
      obtain ⟨bl, ol, rfl, hblS, cs, ⟨lv, rfl, hlv⟩, hl1, hcc⟩ := H.out.at hl
      clear hl1
      have hcell : wr.cell? ⟨bl, ol + k, none⟩ = some lv := by have := hcc 0 _ rfl; rw [← hb.cell (hS _ hblS)] at this; simpa using this
      obtain ⟨Al, cl, rfl⟩ := slice_shape hlv
      have hlm : l.length ≤ 1000000000 := hll l (List.mem_of_getElem? hl)
      have hokl : ∀ x ∈ l, VoteOk x := hok l (List.mem_of_getElem? hl)
      have Hlv := Lib.hid hlv
      have Hm := Lib.hid hm
      have Hl := Lib.hid hl
      have Hokl := Lib.hid hokl
      clear hlv hm hl hb hokl hcc hok hll
      obtain ⟨wo, rfl⟩ : ∃ wo : World, wo = wr := ⟨_, rfl⟩
      go_wp2_with fail
      go_loopw [5, 22] (fun ov p wr => ∃ q : Nat, q ≤ l.length ∧ p = .int .i64 q ∧ ChMem w (chooseL f ((ls.take k).flatten ++ l.take q)) (foundAt f ((ls.take k).flatten ++ l.take q)) ov wr) (fun _ p _ => l.length - (intOf p).toNat)
      case atStart => exact ⟨0, Nat.zero_le _, rfl, by simpa using Hm.out⟩
      case round =>
        obtain ⟨q, hq, rfl, hm⟩ := hrel
        by_cases hql : q < l.length
        · obtain ⟨x, hx⟩ : ∃ x, l[q]? = some x := ⟨l[q], List.getElem?_eq_getElem hql⟩
          have hb : Below w.heap.size w wr := by obtain ⟨_, _, _, _, _, _, _, h6⟩ := hm; exact h6
          obtain ⟨b1, o1, rfl, hb1S, cs1, ⟨bv, rfl, hbv⟩, hl3, hcc1⟩ := (SliceOf.below RVote.kept Hlv.out hb hS (fun _ g => g)).at hx
          clear hl3
          have hc0 : wr.cell? ⟨b1, o1 + q * 3, none⟩ = some (.int .i64 x.slot) := by simpa using hcc1 0 _ rfl
          have hc1 : wr.cell? ⟨b1, o1 + q * 3 + 1, none⟩ = some (.int .i64 x.ballot) := by have := hcc1 1 _ rfl; rwa [← Nat.add_assoc] at this
          have hc2 : wr.cell? ⟨b1, o1 + q * 3 + 2, none⟩ = some bv := by have := hcc1 2 _ rfl; rwa [← Nat.add_assoc] at this
          have hmore := take_more (pre := (ls.take k).flatten) hx
          obtain ⟨xs, xb, xv⟩ := x
          obtain ⟨ok1, ok2, ok3, ok4, ok5⟩ := Hokl.out _ (List.mem_of_getElem? hx)
          simp only at hc0 hc1 hbv ok1 ok2 ok3 ok4 ok5
          obtain ⟨Av, cv, rfl⟩ := slice_shape hbv
          obtain ⟨Ao, co, rfl⟩ := hm.shape
          have hbl1 : b1 < wr.heap.size := Nat.lt_of_lt_of_le (hS _ hb1S) hb.size
          generalize (ls.take k).flatten ++ l.take q = vs at *
          have Hm := Lib.hid hm
          have Hbv := Lib.hid hbv
          have Hb2 := Lib.hid hb
          have Hmore := Lib.hid hmore
          clear hm hx hbv hb hcc1 hmore hb1S
          by_cases hlow : xs < f
          · have hfin := Lib.hid (ch_far (x := ⟨xs, xb, xv⟩) Hm.out (by unfold inReach; simp; omega) ((Below.refl _ _).alloc (Nat.le_refl _) (.cells #[.int .i64 xs, .int .i64 xb, .slice Av xv.length cv] 24)))
            go_wp2_with fail
            go_roundw
            case rel => exact ⟨q + 1, by omega, by go_num, by rw [Hmore.out]; exact hfin.out⟩
            case measure => simp [intOf]; omega
          · by_cases hhigh : 16 ≤ xs - f
            · have hfin := Lib.hid (ch_far (x := ⟨xs, xb, xv⟩) Hm.out (by unfold inReach; simp; omega) ((Below.refl _ _).alloc (Nat.le_refl _) (.cells #[.int .i64 xs, .int .i64 xb, .slice Av xv.length cv] 24)))
              go_wp2_with fail
              go_roundw
              case rel => exact ⟨q + 1, by omega, by go_num, by rw [Hmore.out]; exact hfin.out⟩
              case measure => simp [intOf]; omega
            · obtain ⟨i, hi⟩ : ∃ i : Nat, xs - f = i := ⟨(xs - f).toNat, by omega⟩
              have hi16 : i < 16 := by omega
              have hxs : xs = f + i := by omega
              have hpad := Lib.hid (pad_start (i := i) (x := ⟨xs, xb, xv⟩) (bv := .slice Av xv.length cv) Hm.out)
              have Hxs := Lib.hid hxs
              obtain ⟨w1, rfl⟩ : ∃ w1 : World, w1 = wr := ⟨_, rfl⟩
              clear hxs
              go_wp2_with fail
              go_loopw [5] (fun ov wr => PadRel w w1 f vs i ⟨xs, xb, xv⟩ (.slice Av xv.length cv) ov wr) (fun ov _ => i + 1 - lenV ov)
              case atStart => exact hpad.out
              case round =>
                obtain ⟨n, A', c', rfl, hn1, hn2, hm, hblk, hne⟩ := hrel
                by_cases hni : n ≤ i
                · obtain ⟨S', css, m1, m2, m3, m4, m5, m6⟩ := hm
                  have hnl : (firsts f vs n).length = n := firsts_length f vs n
                  have hz := m6.size
                  have M1 := Lib.hid m1
                  have Hpush := Lib.hid (fun (w2 : World) (v2 : Value) a b c => ChMem.push (w2 := w2) (v2 := v2) (s := f + n) (b := -1) m1 m2 m3 m4 m5 m6 a b c)
                  have Hblk := Lib.hid hblk
                  have Hne := Lib.hid hne
                  rw [hnl] at M1 Hpush
                  have hlt1 := m1.lt
                  have Hlt1 := Lib.hid hlt1
                  have hw1 : w1.heap.size < wr.heap.size := hblk.lt
                  clear m1 m2 m3 m4 m5 m6 hnl hblk hne hlt1
                  go_wp2_with (at_builtin; refine wpList_append_src rfl _ _ 25 rfl w.heap.size 24 (.agg #[.int .i64 0, .int .i64 0, .slice none 0 0]) 3 40 Try.underlying25 vote_info rfl (by omega) (.slice A' n c') n css.flatten rfl (M1.out.alloc _) (some ⟨wr.heap.size, 0, none⟩) 1 1 [.int .i64 (f + n), .int .i64 (-1), .slice none 0 0] rfl rfl (fun _ => ⟨wr.heap.size, 0, rfl, fun j u hj => by have := World.news_of_block (w := wr.alloc _) (heap_alloc_new wr (.cells #[.int .i64 (f + n), .int .i64 (-1), .slice none 0 0] 24)) j u hj; rwa [WideShapes.add_plain] at this⟩) (by intro u hu; simp at hu; rcases hu with rfl | rfl | rfl <;> rfl) (by omega) (by omega) (by simp; omega) ?_; intro v2 w2 hown2 hg2 hat2)
                  obtain ⟨p1, p2⟩ := Hpush.out w2 v2 hown2 hg2 hat2
                  obtain ⟨A2, c2, rfl⟩ := own_shape hown2
                  have hfin : Hid (PadRel w w1 f vs i ⟨xs, xb, xv⟩ (.slice Av xv.length cv) (.slice A2 (n + 1) c2) w2) := ⟨n + 1, A2, c2, rfl, by omega, by omega, by rw [firsts_pad f vs n hn1 (by omega)]; exact p1, Hblk.out.touch p2 (fun e => Hne.out _ e rfl), fun k e => by
                    rcases hat2 with e2 | e2
                    · exact Hne.out k (e2 ▸ e)
                    · rw [e2] at e; simp at e; omega⟩
                  clear p1 p2 hown2 hg2 hat2 Hpush
                  go_wp2_with fail
                  go_roundw
                  case rel => exact hfin.out
                  case measure => simp [lenV]; omega
                · have hn3 := Lib.hid (show n = max (width f vs) (i + 1) by omega)
                  go_wp2_with fail
                  obtain ⟨S', css, m1, m2, m3, m4, m5, m6⟩ := hm
                  have hnl : (firsts f vs n).length = n := firsts_length f vs n
                  obtain ⟨g, c2, hgv, hgb⟩ := m1.form (by rw [hnl]; omega)
                  injection hgv with e1 e3 e2
                  clear e3 hgb
                  subst e1 e2
                  have hget := firsts_get f vs (show i < n by omega)
                  have hic : i < css.length := by rw [m2.1, hnl]; omega
                  obtain ⟨hcl, bv0, hcs, hbv0⟩ := m2.2 i css[i] _ (List.getElem?_eq_getElem hic) hget
                  have hci : css[i]? = some [.int .i64 (outAt f vs i).slot, .int .i64 (outAt f vs i).ballot, bv0] := by rw [List.getElem?_eq_getElem hic, hcs]
                  have hos : (outAt f vs i).slot = f + i := by unfold outAt outOf; split <;> rfl
                  have hd1 : wr.cell? ⟨g, i * 3 + 1, none⟩ = some (.int .i64 (outAt f vs i).ballot) := by
                    have := m1.cells (g := g) rfl _ _ (flatten_get m2.sizes i 1 _ (.int .i64 (outAt f vs i).ballot) hci rfl)
                    rwa [WideShapes.add_plain, Nat.zero_add] at this
                  have hd2 : wr.cell? ⟨g, i * 3 + 2, none⟩ = some bv0 := by
                    have := m1.cells (g := g) rfl _ _ (flatten_get m2.sizes i 2 _ bv0 hci rfl)
                    rwa [WideShapes.add_plain, Nat.zero_add] at this
                  have hff : wr.cell? ⟨w.heap.size, i, none⟩ = some (.bool (bestAt (f + i) vs).isSome) := by rw [m5.cell, foundAt_get f vs i hi16]
                  have hv0 : wr.cell? ⟨w1.heap.size, 0, none⟩ = some (.int .i64 xs) := hblk.cell 0
                  have hv1 : wr.cell? ⟨w1.heap.size, 1, none⟩ = some (.int .i64 xb) := hblk.cell 1
                  have hv2 : wr.cell? ⟨w1.heap.size, 2, none⟩ = some (.slice Av xv.length cv) := hblk.cell 2
                  have hgV : g ≠ w1.heap.size := hne g rfl
                  have hgF : g ≠ w.heap.size := (m4 g rfl).2
                  have hgl : g < wr.heap.size := (m1.lt g rfl).2
                  have hVl : w1.heap.size < wr.heap.size := hblk.lt
                  have hFl : w.heap.size < wr.heap.size := m5.lt
                  have hin0 : (0 : Int) ≤ (i : Int) := by omega
                  have hin1 : (i : Int) < (n : Int) := by omega
                  have hput := fun (w2 : World) (v2 : Value) (hc : w2.ownsRow wr.heap.size 5 1 v2 xv.length (xv.map byteV)) (hb : Below wr.heap.size wr w2) => ChMem.put (out := firsts f vs n) (g := g) (c := c') (xb := xb) (by rw [hnl] at m1 ⊢; exact m1) m2 m3 (m4 g rfl) m5 m6 hci hc hb
                  rw [hnl, hos] at hput
                  have hsame : ChMem w (firsts f vs n) (foundAt f vs) (.slice (some ⟨g, 0, none⟩) n c') wr := ⟨S', css, m1, m2, m3, m4, m5, m6⟩
                  have hSw : Below w.heap.size w wr := m6
                  obtain ⟨ob, hob⟩ : ∃ ob, (outAt f vs i).ballot = ob := ⟨_, rfl⟩
                  have hob2 := hob
                  unfold outAt at hob2
                  rw [hob] at hd1
                  have hfrz : ∀ j, wr.frozen? ⟨g, j, none⟩ = false := own_frozen m1
                  have HFfr := Lib.hid (m5.frozen)
                  have Hput := Lib.hid hput
                  have Hsame := Lib.hid hsame
                  have HSw := Lib.hid hSw
                  clear hput hsame hSw m1 m2 m3 m4 m5 m6 hci hos hcs hcl hget hnl hblk hne hic hbv0 hob
                  have hbvr : BytesAt wr S (.slice Av xv.length cv) xv := SliceOf.keep RByte.kept Hbv.out (fun k hk => (HSw.out.block k (hS k hk)).trans (Hb2.out.block k (hS k hk)).symm) (fun _ g => g)
                  have hSr : ∀ k, S k → k < wr.heap.size := fun k hk => Nat.lt_of_lt_of_le (hS k hk) HSw.out.size
                  have Hbvr := Lib.hid hbvr
                  have HSr := Lib.hid hSr
                  have Hfrz := Lib.hid hfrz
                  clear hbvr hSr hfrz
                  cases hbest : bestAt (f + i) vs with
                  | none =>
                    rw [hbest] at hff
                    simp only [Option.isSome_none] at hff
                    have Hbest := Lib.hid hbest
                    clear hbest hob2
                    go_quiet (fail)
                    go_wp2_with fail
                    have hfr1 : wr.frozen? ⟨g, i * 3 + 1, none⟩ = false := Hfrz.out _
                    have hfr2 : wr.frozen? ⟨g, i * 3 + 2, none⟩ = false := Hfrz.out _
                    go_region_held3 (fun W => W.cell? ⟨w1.heap.size, 1, none⟩ = some (.int .i64 xb) ∧ W.cell? ⟨w1.heap.size, 2, none⟩ = some (.slice Av xv.length cv)) (first | exact ⟨hv1, hv2⟩ | exact ⟨hv1', hv2'⟩ | ((repeat rw [World.cell?_setCell_other _ _ _ _ (fun e => hgV (congrArg Addr.block e))]); exact ⟨hv1', hv2'⟩)) ((go_at_call 14; refine (clone_any _ xv S _ (by exact SliceOf.heap RByte.kept Hbvr.out rfl) (by exact HSr.out) (by omega)).mono ?_; rintro e w2 ⟨v2, rfl, hc2, hb0⟩; have hb2 : Below wr.heap.size wr w2 := ⟨hb0.os, hb0.tape, hb0.output, hb0.size, hb0.block⟩; clear hb0; obtain ⟨A2, c2, rfl⟩ := own_shape hc2; have hd1' := (hb2.cell (p := ⟨g, i * 3 + 1, none⟩) hgl).trans hd1; have hd2' := (hb2.cell (p := ⟨g, i * 3 + 2, none⟩) hgl).trans hd2; have hfr1' := (hb2.frozen (p := ⟨g, i * 3 + 1, none⟩) hgl).trans hfr1; have hfr2' := (hb2.frozen (p := ⟨g, i * 3 + 2, none⟩) hgl).trans hfr2; have hv1' := (hb2.cell (p := ⟨w1.heap.size, 1, none⟩) hVl).trans hv1; have hv2' := (hb2.cell (p := ⟨w1.heap.size, 2, none⟩) hVl).trans hv2; have Hc2 := Lib.hid hc2; have Hb3 := Lib.hid hb2; clear hc2 hb2))
                    have hmk := near_taken Hxs.out hn3.out hi16 (Hput.out _ _ Hc2.out Hb3.out) (by rw [Hbest.out]; exact better_none _)
                    have Hmk := Lib.hid hmk
                    have hff' := (Hb3.out.cell (p := ⟨w.heap.size, i, none⟩) hFl).trans hff
                    have hffr' := (Hb3.out.frozen (p := ⟨w.heap.size, i, none⟩) hFl).trans (HFfr.out i)
                    clear hmk hff
                    go_wp2_with fail
                    go_roundw
                    case rel => exact ⟨q + 1, by omega, by go_num, by rw [Hmore.out]; exact Hmk.out⟩
                    case measure => simp [intOf]; omega
                  | some b =>
                    rw [hbest] at hff hob2
                    simp only [Option.isSome_some] at hff
                    have hob3 : b.ballot = ob := hob2
                    have Hbest := Lib.hid hbest
                    clear hbest hob2
                    by_cases hlt2 : ob < xb
                    · have Hobx := Lib.hid (show b.ballot < xb by omega)
                      clear hob3
                      go_quiet (fail)
                      go_wp2_with fail
                      have hfr1 : wr.frozen? ⟨g, i * 3 + 1, none⟩ = false := Hfrz.out _
                      have hfr2 : wr.frozen? ⟨g, i * 3 + 2, none⟩ = false := Hfrz.out _
                      go_region_held3 (fun W => W.cell? ⟨w1.heap.size, 1, none⟩ = some (.int .i64 xb) ∧ W.cell? ⟨w1.heap.size, 2, none⟩ = some (.slice Av xv.length cv)) (first | exact ⟨hv1, hv2⟩ | exact ⟨hv1', hv2'⟩ | ((repeat rw [World.cell?_setCell_other _ _ _ _ (fun e => hgV (congrArg Addr.block e))]); exact ⟨hv1', hv2'⟩)) ((go_at_call 14; refine (clone_any _ xv S _ (by exact SliceOf.heap RByte.kept Hbvr.out rfl) (by exact HSr.out) (by omega)).mono ?_; rintro e w2 ⟨v2, rfl, hc2, hb0⟩; have hb2 : Below wr.heap.size wr w2 := ⟨hb0.os, hb0.tape, hb0.output, hb0.size, hb0.block⟩; clear hb0; obtain ⟨A2, c2, rfl⟩ := own_shape hc2; have hd1' := (hb2.cell (p := ⟨g, i * 3 + 1, none⟩) hgl).trans hd1; have hd2' := (hb2.cell (p := ⟨g, i * 3 + 2, none⟩) hgl).trans hd2; have hfr1' := (hb2.frozen (p := ⟨g, i * 3 + 1, none⟩) hgl).trans hfr1; have hfr2' := (hb2.frozen (p := ⟨g, i * 3 + 2, none⟩) hgl).trans hfr2; have hv1' := (hb2.cell (p := ⟨w1.heap.size, 1, none⟩) hVl).trans hv1; have hv2' := (hb2.cell (p := ⟨w1.heap.size, 2, none⟩) hVl).trans hv2; have Hc2 := Lib.hid hc2; have Hb3 := Lib.hid hb2; clear hc2 hb2))
                      have hmk := near_taken Hxs.out hn3.out hi16 (Hput.out _ _ Hc2.out Hb3.out) (by rw [Hbest.out]; exact better_some_lt Hobx.out)
                      have Hmk := Lib.hid hmk
                      have hff' := (Hb3.out.cell (p := ⟨w.heap.size, i, none⟩) hFl).trans hff
                      have hffr' := (Hb3.out.frozen (p := ⟨w.heap.size, i, none⟩) hFl).trans (HFfr.out i)
                      clear hmk hff
                      go_wp2_with fail
                      go_roundw
                      case rel => exact ⟨q + 1, by omega, by go_num, by rw [Hmore.out]; exact Hmk.out⟩
                      case measure => simp [intOf]; omega
                    · have Hobx := Lib.hid (show ¬ b.ballot < xb by omega)
                      clear hob3
                      go_quiet (fail)
                      have hmk := near_left (xv := xv) Hxs.out hn3.out hi16 (Hsame.out.below (below_drewN (Below.refl _ _) nq)) (by rw [Hbest.out]; exact better_some_ge Hobx.out)
                      have Hmk := Lib.hid hmk
                      have hffr' := HFfr.out i
                      clear hmk
                      go_wp2_with fail
                      go_roundw
                      case rel => exact ⟨q + 1, by omega, by go_num, by rw [Hmore.out]; exact Hmk.out⟩
                      case measure => simp [intOf]; omega
        · have hql' : l.take q = l := List.take_of_length_le (by omega)
          rw [hql', ← flat_more Hl.out] at hm
          have Hm := Lib.hid hm
          clear hm hql'
          go_wp2_with fail
          go_roundw
          case rel => exact ⟨k + 1, by omega, by go_num, Hm.out⟩
          case measure => simp [intOf]; omega
    · have hkl : ls.take k = ls := List.take_of_length_le (by omega)
      rw [hkl] at hm
      have Hm := Lib.hid hm
      clear hm hkl
      go_wp2_with fail
      go_ret
      exact choose_end (by omega) Hm.out
end Go.Proofs.Ytpnecbhbdfdijaa
