/- The contract of the statements' helper 'lists'. -/
import Derived.Test.YtpnecbhbdfdijaaPickNumP
namespace Go.Proofs.Ytpnecbhbdfdijaa
open Go.RowKit

/-- A vote as it is drawn: its numbers are int's. -/
def RDraw : Rep VoteT := fun w S cs x => RVote w S cs x ∧ -9223372036854775808 ≤ x.slot ∧ x.slot ≤ 9223372036854775807 ∧ -9223372036854775808 ≤ x.ballot ∧ x.ballot ≤ 9223372036854775807
theorem RDraw.kept : Rep.Kept RDraw := ⟨fun ⟨h, h2⟩ hk hS => ⟨RVote.kept.keep h hk hS, h2⟩⟩
abbrev RDraws : Rep (List VoteT) := RSlice RDraw 3
theorem RDraws.kept : Rep.Kept RDraws := RSlice.kept RDraw.kept 3

/-- What 'lists' makes of a draw, and of a list of them. -/
def voteAt (f : Int) (k : Nat) (x : VoteT) : VoteT := ⟨if k % 4 = 3 then x.slot else f + within x.slot (-2) 18, within x.ballot (-1) 9, x.v.take 9⟩
def votesRow (f : Int) (r : List VoteT) : List VoteT := (r.take 10).mapIdx (voteAt f)
def votesOf (f : Int) (d : List (List VoteT)) : List (List VoteT) := (d.take 5).map (votesRow f)

theorem snoc_get {α : Type} {l : List α} {x y : α} {i : Nat} (h : (l ++ [x])[i]? = some y) : l[i]? = some y ∨ (i = l.length ∧ y = x) := by
  by_cases hi : i < l.length
  · rw [List.getElem?_append_left hi] at h; exact .inl h
  · rw [List.getElem?_append_right (by omega)] at h
    have : i - l.length = 0 := by
      cases e : i - l.length with
      | zero => rfl
      | succ n => rw [e] at h; simp at h
    rw [this] at h
    simp at h
    exact .inr ⟨by omega, h.symm⟩

/-- A list of lists of votes, each list in a row of its own, the votes' bytes in the world's older blocks. -/
structure Rowed (B : Nat) (wr : World) (ov : Value) (vs : List Value) (rows : List (List VoteT)) : Prop where
  outer : wr.ownsRow B 25 1 ov rows.length vs
  len : vs.length = rows.length
  inner : ∀ (i : Nat) (v : Value) (r : List VoteT), vs[i]? = some v → rows[i]? = some r → Owns RVote 3 24 wr B (fun k => k < B) v r
  apart : ∀ (i j : Nat) (v u : Value) (k : Nat), i ≠ j → vs[i]? = some v → vs[j]? = some u → v.ownBlock = some k → u.ownBlock = some k → False
  off : ∀ (i : Nat) (v : Value) (k : Nat), vs[i]? = some v → v.ownBlock = some k → ov.ownBlock = some k → False
theorem Rowed.get {B : Nat} {wr : World} {ov : Value} {vs : List Value} {rows : List (List VoteT)} (h : Rowed B wr ov vs rows) {i : Nat} {v : Value} (hv : vs[i]? = some v) : ∃ r, rows[i]? = some r ∧ Owns RVote 3 24 wr B (fun k => k < B) v r := by
  have hi := (List.getElem?_eq_some_iff.1 hv).1
  rw [h.len] at hi
  exact ⟨rows[i], List.getElem?_eq_getElem hi, h.inner i v _ hv (List.getElem?_eq_getElem hi)⟩
theorem Rowed.nil (B : Nat) (wr : World) : Rowed B wr (.slice none 0 0) [] [] :=
  ⟨World.ownsRow_nil _ _ _ _, rfl, fun i v r h => by simp at h, fun i j v u k _ h => by simp at h, fun i v k h => by simp at h⟩
theorem Rowed.below {B : Nat} {wr w2 : World} {ov : Value} {vs : List Value} {rows : List (List VoteT)} (h : Rowed B wr ov vs rows) (hb : Below wr.heap.size wr w2) (hB : B ≤ wr.heap.size) : Rowed B w2 ov vs rows :=
  ⟨own_below h.outer hb, h.len, fun i v r h1 h2 => by
    have ho := h.inner i v r h1 h2
    exact Owns.touch RVote.kept ho (Below.touch hb (fun _ _ g => g)) (fun k e g => by have := ho.lt k e; omega) (fun k g => ⟨by omega, by omega⟩) (fun _ g => g), h.apart, h.off⟩
theorem Rowed.snoc {B : Nat} {wA wr w2 : World} {ov iv v2 : Value} {vs : List Value} {rows : List (List VoteT)} {row : List VoteT} {c : Obj} (h : Rowed B wA ov vs rows) (hB : B ≤ wA.heap.size) (hb : Below wA.heap.size wA wr)
    (hi : Owns RVote 3 24 wr wA.heap.size (fun k => k < B) iv row) (hown : w2.ownsRow B 25 1 v2 (rows.length + 1) (vs ++ [iv])) (hg : (wr.alloc c).grownBy w2 ov.ownBlock) (hat : v2.ownBlock = ov.ownBlock ∨ v2.ownBlock = some (wr.alloc c).heap.size) :
    Rowed B w2 v2 (vs ++ [iv]) (rows ++ [row]) := by
  have ht : Touch (fun k => ov.ownBlock = some k) wr w2 := (Touch.alloc _ wr _).trans (Touch.grown hg (fun g _ e => e)) (fun _ _ h => h)
  have hzb := hb.size
  have hlt := h.outer.lt
  have hr := h.below hb hB
  have hin : ∀ (i : Nat) (v : Value) (r : List VoteT), vs[i]? = some v → rows[i]? = some r → Owns RVote 3 24 w2 B (fun k => k < B) v r := fun i v r h1 h2 =>
    Owns.touch RVote.kept (hr.inner i v r h1 h2) ht (fun k e e2 => h.off i v k h1 e e2) (fun k g => ⟨by omega, fun e => by have := hlt k e; omega⟩) (fun _ g => g)
  have hnew : Owns RVote 3 24 w2 B (fun k => k < B) iv row :=
    Owns.rebase (Owns.touch RVote.kept hi ht (fun k e e2 => by have := hi.lt k e; have := hlt k e2; omega) (fun k g => ⟨by omega, fun e => by have := hlt k e; omega⟩) (fun _ g => g)) hB
  have hold : ∀ (i : Nat) (v : Value) (k : Nat), vs[i]? = some v → v.ownBlock = some k → k < wA.heap.size := fun i v k h1 e => by
    obtain ⟨r, _, ho⟩ := h.get h1
    exact (ho.lt k e).2
  refine ⟨by simpa using hown, by simp [h.len], ?_, ?_, ?_⟩
  · intro i v r h1 h2
    rcases snoc_get h1 with k1 | ⟨e1, rfl⟩
    · rcases snoc_get h2 with k2 | ⟨e2, rfl⟩
      · exact hin i v r k1 k2
      · have := (List.getElem?_eq_some_iff.1 k1).1; have := h.len; omega
    · rcases snoc_get h2 with k2 | ⟨e2, rfl⟩
      · have := (List.getElem?_eq_some_iff.1 k2).1; have := h.len; omega
      · exact hnew
  · intro i j v u k hij h1 h2 e1 e2
    rcases snoc_get h1 with k1 | ⟨g1, g1'⟩
    · rcases snoc_get h2 with k2 | ⟨g2, g2'⟩
      · exact h.apart i j v u k hij k1 k2 e1 e2
      · have := hold i v k k1 e1; have := hi.lt k (g2' ▸ e2); omega
    · rcases snoc_get h2 with k2 | ⟨g2, g2'⟩
      · have := hold j u k k2 e2; have := hi.lt k (g1' ▸ e1); omega
      · omega
  · intro i v k h1 e1 e2
    rcases hat with e | e
    · rw [e] at e2
      rcases snoc_get h1 with k1 | ⟨g1, g1'⟩
      · exact h.off i v k k1 e1 e2
      · have := hi.lt k (g1' ▸ e1); have := hlt k e2; omega
    · rw [e] at e2
      simp at e2
      rcases snoc_get h1 with k1 | ⟨g1, g1'⟩
      · have := hold i v k k1 e1; omega
      · have := hi.lt k (g1' ▸ e1); omega
/-- All of it as a slice. -/
theorem Rowed.slice {B : Nat} {wr : World} {ov : Value} {vs : List Value} {rows : List (List VoteT)} (h : Rowed B wr ov vs rows) (hB : B ≤ wr.heap.size) : SliceOf RVotes 1 wr (fun k => k < wr.heap.size) ov rows := by
  have hrows : RowsOf RVotes 1 wr (fun k => k < wr.heap.size) (vs.map fun v => [v]) rows := by
    refine ⟨by rw [List.length_map]; exact h.len, fun i cs r h1 h2 => ?_⟩
    rw [List.getElem?_map] at h1
    obtain ⟨v, hv, rfl⟩ := Option.map_eq_some_iff.1 h1
    have ho := h.inner i v r hv h2
    exact ⟨rfl, v, rfl, Owns.slice RVote.kept ho (fun k g => by omega) (fun k e => (ho.lt k e).2)⟩
  have hfl : ∀ l : List Value, (l.map fun v => [v]).flatten = l := fun l => by
    induction l with
    | nil => rfl
    | cons a r ih => rw [List.map_cons, List.flatten_cons, ih]; rfl
  exact Owns.slice (e := 25) (base := B) (S := fun k => k < wr.heap.size) RVotes.kept ⟨_, hrows, by rw [hfl]; exact h.outer⟩ (fun _ g => g) (fun k e => (h.outer.lt k e).2)

def ListsEnd (w : World) (rows : List (List VoteT)) (e : Ending) (w' : World) : Prop := ∃ ov vs, e = .returned ov ∧ Rowed w.heap.size w' ov vs rows ∧ Below w.heap.size w w'
end Go.Proofs.Ytpnecbhbdfdijaa
