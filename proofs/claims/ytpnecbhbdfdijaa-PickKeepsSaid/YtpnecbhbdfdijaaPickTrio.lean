/- Three rows of votes under one slice, of which one is appended to: the memory of PickKeeps. -/
import Derived.Test.YtpnecbhbdfdijaaPickTellsP
import Derived.Test.YtpnecbhbdfdijaaPickPlain2
namespace Go.Proofs.Ytpnecbhbdfdijaa
open Go.RowKit

structure Trio (B : Nat) (wr : World) (g : Nat) (vs : Nat → Value) (rows : Nat → List VoteT) : Prop where
  lo : B ≤ g
  hi : g < wr.heap.size
  cell : ∀ (i : Nat), i < 3 → wr.cell? ⟨g, i, none⟩ = some (vs i)
  thaw : ∀ (i : Nat), wr.frozen? ⟨g, i, none⟩ = false
  inner : ∀ (i : Nat), i < 3 → Owns RVote 3 24 wr B (fun k => k < B) (vs i) (rows i)
  apart : ∀ (i j k : Nat), i < 3 → j < 3 → i ≠ j → (vs i).ownBlock = some k → (vs j).ownBlock = some k → False
  off : ∀ (i k : Nat), i < 3 → (vs i).ownBlock = some k → k ≠ g

theorem Trio.of_rowed {B : Nat} {wr : World} {ov : Value} {vs : List Value} {rows : List (List VoteT)} (h : Rowed B wr ov vs rows) (hn : 3 ≤ rows.length) :
    ∃ g c vs0 rows0, ov = .slice (some ⟨g, 0, none⟩) rows.length c ∧ 3 ≤ c ∧ c ≤ maxLen ∧ (∀ (i : Nat), i < 3 → rows0 i ∈ rows) ∧ Trio B wr g vs0 rows0 := by
  have hg : ∀ (i : Nat), i < 3 → vs[i]? = some (vs.getD i (.slice none 0 0)) := fun i hi => by
    have hl : i < vs.length := by rw [h.len]; omega
    rw [List.getD_eq_getElem?_getD, List.getElem?_eq_getElem hl]; rfl
  have hr : ∀ (i : Nat), i < 3 → rows[i]? = some (rows.getD i []) := fun i hi => by
    have hl : i < rows.length := by omega
    rw [List.getD_eq_getElem?_getD, List.getElem?_eq_getElem hl]; rfl
  rcases h.outer.2 with ⟨_, hz⟩ | ⟨g, cap, cur, rfl, hb, hgb, h1, h2, h3, h4⟩
  · omega
  · refine ⟨g, cap, fun i => vs.getD i (.slice none 0 0), fun i => rows.getD i [], rfl, by omega, h2, fun i hi => List.mem_of_getElem? (hr i hi), hb, (h.outer.lt g rfl).2, fun i hi => ?_, fun i => own_frozen h.outer i, fun i hi => h.inner i _ _ (hg i hi) (hr i hi), fun i j k hi hj hij e1 e2 => h.apart i j _ _ k hij (hg i hi) (hg j hj) e1 e2, fun i k hi e1 e2 => h.off i _ k (hg i hi) e1 (by subst e2; rfl)⟩
    have := h.outer.cells (g := g) rfl i _ (hg i hi)
    rwa [WideShapes.add_plain, Nat.zero_add] at this
theorem Trio.below {B : Nat} {wr w2 : World} {g : Nat} {vs : Nat → Value} {rows : Nat → List VoteT} (h : Trio B wr g vs rows) (hb : Below wr.heap.size wr w2) : Trio B w2 g vs rows :=
  ⟨h.lo, Nat.lt_of_lt_of_le h.hi hb.size, fun i hi => (hb.cell (p := ⟨g, i, none⟩) h.hi).trans (h.cell i hi), fun i => (hb.frozen (p := ⟨g, i, none⟩) h.hi).trans (h.thaw i), fun i hi =>
    Owns.touch RVote.kept (h.inner i hi) (Below.touch hb (fun _ _ g => g)) (fun k e g => by have := (h.inner i hi).lt k e; omega) (fun k g => ⟨by have := h.lo; have := h.hi; omega, by have := h.lo; have := h.hi; omega⟩) (fun _ g => g), h.apart, h.off⟩
theorem Trio.slice {B : Nat} {wr : World} {g : Nat} {vs : Nat → Value} {rows : Nat → List VoteT} (h : Trio B wr g vs rows) {i : Nat} (hi : i < 3) : SliceOf RVote 3 wr (fun k => k < wr.heap.size) (vs i) (rows i) :=
  Owns.slice RVote.kept (h.inner i hi) (fun k g => by have := h.lo; have := h.hi; omega) (fun k e => ((h.inner i hi).lt k e).2)
/-- The world behind the append, ahead of the store. -/
theorem Trio.grown {B : Nat} {wr w2 : World} {g : Nat} {vs : Nat → Value} {rows : Nat → List VoteT} {i : Nat} {L : Obj} (h : Trio B wr g vs rows) (hi : i < 3) (hg : (wr.alloc L).grownBy w2 (vs i).ownBlock) : Touch (fun k => (vs i).ownBlock = some k) wr w2 ∧ w2.cell? ⟨g, i, none⟩ = some (vs i) ∧ w2.frozen? ⟨g, i, none⟩ = false := by
  have ht : Touch (fun k => (vs i).ownBlock = some k) wr w2 := (Touch.alloc _ wr L).trans (Touch.grown hg (fun g _ e => e)) (fun _ _ h => h)
  exact ⟨ht, (ht.cell (p := ⟨g, i, none⟩) h.hi (fun e => h.off i g hi e rfl)).trans (h.cell i hi), (ht.frozen (p := ⟨g, i, none⟩) h.hi (fun e => h.off i g hi e rfl)).trans (h.thaw i)⟩
theorem Trio.push {B : Nat} {wr w2 : World} {g : Nat} {vs : Nat → Value} {rows : Nat → List VoteT} {i n : Nat} {L : Obj} {v2 : Value} {css : List (List Value)} {A : Option Addr} {c : Nat} {s b : Int} {l : List UInt8}
    (h : Trio B wr g vs rows) (hi : i < 3) (hrw : RowsOf RVote 3 wr (fun k => k < B) css (rows i)) (hn : (rows i).length = n) (hv : BytesAt wr (fun k => k < B) (.slice A l.length c) l)
    (hown2 : w2.ownsRow B 24 3 v2 (n + 1) (css.flatten ++ [.int .i64 s, .int .i64 b, .slice A l.length c])) (hg : (wr.alloc L).grownBy w2 (vs i).ownBlock) (hat : v2.ownBlock = (vs i).ownBlock ∨ v2.ownBlock = some (wr.alloc L).heap.size) :
    Trio B (w2.setCell ⟨g, i, none⟩ v2) g (fun j => if j = i then v2 else vs j) (fun j => if j = i then rows i ++ [⟨s, b, l⟩] else rows j) ∧ Below B wr (w2.setCell ⟨g, i, none⟩ v2) := by
  obtain ⟨ht, hc, hf⟩ := h.grown hi hg
  have hlt := (h.inner i hi).lt
  have hlo := h.lo
  have hhi := h.hi
  have hz := ht.size
  have hts : Touch (fun k => k = g) w2 (w2.setCell ⟨g, i, none⟩ v2) := Touch.setCell w2 _ (fun _ => rfl)
  have hk : ∀ k, k < B → w2.heap[k]? = wr.heap[k]? := fun k hk => ht.block k (by omega) (fun e => by have := hlt k e; omega)
  have h2g : ∀ k, v2.ownBlock = some k → k ≠ g := fun k e e2 => by
    rcases hat with e3 | e3
    · exact h.off i k hi (e3 ▸ e) e2
    · rw [e3] at e; simp at e; omega
  have hold : ∀ (j k : Nat), j < 3 → (vs j).ownBlock = some k → k < wr.heap.size := fun j k hj e => ((h.inner j hj).lt k e).2
  have hap : ∀ (j k : Nat), j < 3 → j ≠ i → (vs j).ownBlock = some k → v2.ownBlock = some k → False := fun j k hj hji e1 e2 => by
    rcases hat with e3 | e3
    · exact h.apart j i k hj hi hji e1 (e3 ▸ e2)
    · rw [e3] at e2; simp at e2; have := hold j k hj e1; omega
  refine ⟨⟨hlo, by rw [World.size_setCell]; omega, fun j hj => ?_, fun j => ?_, fun j hj => ?_, fun j q k hj hq hjq e1 e2 => ?_, fun j k hj e1 => ?_⟩, ?_⟩
  · by_cases hji : j = i
    · subst hji; simp only [if_true]; exact World.cell?_setCell_same w2 _ _ hc
    · simp only [if_neg hji]
      rw [World.cell?_setCell_other w2 _ _ _ (by intro e; injection e with _ e; omega)]
      exact (ht.cell (p := ⟨g, j, none⟩) hhi (fun e => h.off i g hi e rfl)).trans (h.cell j hj)
  · rw [World.frozen?_setCell]
    exact (ht.frozen (p := ⟨g, j, none⟩) hhi (fun e => h.off i g hi e rfl)).trans (h.thaw j)
  · by_cases hji : j = i
    · subst hji
      simp only [if_true]
      have ho : Owns RVote 3 24 w2 B (fun k => k < B) v2 (rows j ++ [⟨s, b, l⟩]) := owns_snoc RVote.kept hrw hk (fun _ h => h) rfl ⟨_, rfl, SliceOf.keep RByte.kept hv hk (fun _ h => h)⟩ (by rw [hn]; exact hown2)
      exact Owns.touch RVote.kept ho hts (fun k e e2 => h2g k e e2) (fun k g2 => ⟨by omega, by omega⟩) (fun _ g => g)
    · simp only [if_neg hji]
      have ho := h.inner j hj
      have ho2 := Owns.touch (S' := fun k => k < B) RVote.kept ho ht (fun k e e2 => h.apart j i k hj hi hji e e2) (fun k g2 => ⟨by omega, fun e => by have := hlt k e; omega⟩) (fun _ g => g)
      exact Owns.touch RVote.kept ho2 hts (fun k e e2 => h.off j k hj e e2) (fun k g2 => ⟨by omega, by omega⟩) (fun _ g => g)
  · by_cases hji : j = i
    · have hqi : q ≠ i := by omega
      simp only [if_pos hji] at e1
      simp only [if_neg hqi] at e2
      exact hap q k hq hqi e2 e1
    · simp only [if_neg hji] at e1
      by_cases hqi : q = i
      · simp only [if_pos hqi] at e2
        exact hap j k hj hji e1 e2
      · simp only [if_neg hqi] at e2
        exact h.apart j q k hj hq hjq e1 e2
  · by_cases hji : j = i
    · simp only [if_pos hji] at e1
      exact h2g k e1
    · simp only [if_neg hji] at e1
      exact h.off j k hj e1
  · exact ((ht.mono (T' := fun k => (vs i).ownBlock = some k ∨ k = g) (fun _ _ h => .inl h)).trans (hts.mono (T' := fun k => (vs i).ownBlock = some k ∨ k = g) (fun _ _ h => .inr h)) (fun _ _ h => h)).below (fun k hk => by rcases hk with e | e; exact (hlt k e).1; omega) (by omega)

/-- The rows when i of them are done. -/
def rowsAt (rows0 : Nat → List VoteT) (odd : Int) (x : VoteT) (i : Nat) : Nat → List VoteT := fun j => if j < i ∧ ¬ ((j : Int) = odd) then rows0 j ++ [x] else rows0 j
theorem rowsAt_zero (rows0 : Nat → List VoteT) (odd : Int) (x : VoteT) : rowsAt rows0 odd x 0 = rows0 := by
  funext j; unfold rowsAt; rw [if_neg (by omega)]
theorem rowsAt_self (rows0 : Nat → List VoteT) (odd : Int) (x : VoteT) (i : Nat) : rowsAt rows0 odd x i i = rows0 i := by
  unfold rowsAt; rw [if_neg (by omega)]
theorem rowsAt_skip {rows0 : Nat → List VoteT} {odd : Int} {x : VoteT} {i : Nat} (h : (i : Int) = odd) : rowsAt rows0 odd x (i + 1) = rowsAt rows0 odd x i := by
  funext j
  unfold rowsAt
  by_cases hj : j < i ∧ ¬ ((j : Int) = odd)
  · rw [if_pos hj, if_pos ⟨by omega, hj.2⟩]
  · rw [if_neg hj, if_neg (by omega)]
theorem rowsAt_put {rows0 : Nat → List VoteT} {odd : Int} {x : VoteT} {i : Nat} (h : ¬ (i : Int) = odd) : rowsAt rows0 odd x (i + 1) = fun j => if j = i then rowsAt rows0 odd x i i ++ [x] else rowsAt rows0 odd x i j := by
  funext j
  by_cases hj : j = i
  · subst hj
    simp only [if_true]
    rw [rowsAt_self]
    unfold rowsAt
    rw [if_pos ⟨by omega, h⟩]
  · simp only [if_neg hj]
    unfold rowsAt
    by_cases hj2 : j < i ∧ ¬ ((j : Int) = odd)
    · rw [if_pos hj2, if_pos ⟨by omega, hj2.2⟩]
    · rw [if_neg hj2, if_neg (by omega)]
/-- A row in which no vote passes nine. -/
def LowRow (l : List VoteT) : Prop := (∀ x ∈ l, VoteOk x ∧ x.ballot ≤ 9) ∧ l.length ≤ 10
theorem low_nil : LowRow [] := ⟨fun x h => (by cases h), by simp⟩
theorem votes_low {f : Int} {d : List (List VoteT)} (h : ∀ l ∈ votesOf f d, ∀ x ∈ l, VoteOk x) : ∀ l ∈ votesOf f d, LowRow l := fun l hl => by
  refine ⟨fun x hx => ⟨h l hl x hx, ?_⟩, ?_⟩
  · obtain ⟨r, hr, rfl⟩ := List.mem_map.1 hl
    obtain ⟨k, y, hy, rfl⟩ := row_mem hx
    exact (within_bd y.ballot (-1) 9 (by omega)).2
  · obtain ⟨r, hr, rfl⟩ := List.mem_map.1 hl
    unfold votesRow
    rw [List.length_mapIdx, List.length_take]
    omega
/-- What two of the rows give. -/
theorem pair_keeps {rows0 : Nat → List VoteT} {odd f k : Int} {l : List UInt8} {i j : Nat} (hlow : ∀ (i : Nat), i < 3 → LowRow (rows0 i)) (hf : 0 ≤ f) (hf2 : f ≤ 1000) (hk : 10 ≤ k) (hk2 : k ≤ 20) (hl : l.length ≤ 9) (hi : i < 3) (hj : j < 3) (hij : i ≠ j) :
    (∀ r ∈ [rowsAt rows0 odd ⟨f + 1, k, l⟩ 3 i, rowsAt rows0 odd ⟨f + 1, k, l⟩ 3 j], ∀ x ∈ r, VoteOk x) ∧ (∀ r ∈ [rowsAt rows0 odd ⟨f + 1, k, l⟩ 3 i, rowsAt rows0 odd ⟨f + 1, k, l⟩ 3 j], r.length ≤ 1000000000) ∧
    2 ≤ (choose f [rowsAt rows0 odd ⟨f + 1, k, l⟩ 3 i, rowsAt rows0 odd ⟨f + 1, k, l⟩ 3 j]).length ∧ (choose f [rowsAt rows0 odd ⟨f + 1, k, l⟩ 3 i, rowsAt rows0 odd ⟨f + 1, k, l⟩ 3 j])[1]? = some ⟨f + 1, k, l⟩ := by
  have hm : ∀ (q : Nat), q < 3 → (∀ x ∈ rowsAt rows0 odd ⟨f + 1, k, l⟩ 3 q, (VoteOk x ∧ x.ballot ≤ 9) ∨ x = ⟨f + 1, k, l⟩) ∧ (rowsAt rows0 odd ⟨f + 1, k, l⟩ 3 q).length ≤ 11 := fun q hq => by
    obtain ⟨h1, h2⟩ := hlow q hq
    unfold rowsAt
    split
    · refine ⟨fun x hx => ?_, by simp; omega⟩
      rcases List.mem_append.1 hx with e | e
      · exact .inl (h1 x e)
      · simp at e; exact .inr e
    · exact ⟨fun x hx => .inl (h1 x hx), by omega⟩
  have hin : (⟨f + 1, k, l⟩ : VoteT) ∈ rowsAt rows0 odd ⟨f + 1, k, l⟩ 3 i ∨ (⟨f + 1, k, l⟩ : VoteT) ∈ rowsAt rows0 odd ⟨f + 1, k, l⟩ 3 j := by
    unfold rowsAt
    by_cases h : (i : Int) = odd
    · right; rw [if_pos ⟨hj, by omega⟩]; simp
    · left; rw [if_pos ⟨hi, h⟩]; simp
  have hok : VoteOk ⟨f + 1, k, l⟩ := ⟨by simp only; omega, by simp only; omega, by simp only; omega, by simp only; omega, by simp only; omega⟩
  obtain ⟨mi, ni⟩ := hm i hi
  obtain ⟨mj, nj⟩ := hm j hj
  clear hm
  generalize rowsAt rows0 odd ⟨f + 1, k, l⟩ 3 i = ri at *
  generalize rowsAt rows0 odd ⟨f + 1, k, l⟩ 3 j = rj at *
  have hfl : [ri, rj].flatten = ri ++ rj := by simp
  have hall : ∀ x ∈ ri ++ rj, (VoteOk x ∧ x.ballot ≤ 9) ∨ x = ⟨f + 1, k, l⟩ := fun x hx => by
    rcases List.mem_append.1 hx with e | e
    · exact mi x e
    · exact mj x e
  refine ⟨fun r hr x hx => ?_, fun r hr => ?_, keeps f [ri, rj] k l hf ?_ ?_⟩
  · have hx2 : x ∈ ri ++ rj := by
      simp at hr
      rcases hr with e | e
      · exact List.mem_append.2 (.inl (e ▸ hx))
      · exact List.mem_append.2 (.inr (e ▸ hx))
    rcases hall x hx2 with e | e
    · exact e.1
    · rw [e]; exact hok
  · simp at hr
    rcases hr with e | e <;> rw [e] <;> omega
  · rw [hfl]
    rcases hin with e | e
    · exact List.mem_append.2 (.inl e)
    · exact List.mem_append.2 (.inr e)
  · rw [hfl]
    intro x hx
    rcases hall x hx with e | e
    · exact .inl (by omega)
    · exact .inr e
end Go.Proofs.Ytpnecbhbdfdijaa
