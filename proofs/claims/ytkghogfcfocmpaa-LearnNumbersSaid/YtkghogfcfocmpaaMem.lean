/- Words for memory: what a slice reads as ('SliceOf'), what a call may have turned ('Touch'), and how both are kept. No program is named here. -/
import Derived.WalkKit
import Derived.WalkSpells
import Derived.WalkLawsBesides
import Derived.WalkSmall
import Derived.Lib.Hide
import Derived.Lib.SliceRun
import Derived.Below
import Derived.Deep.Slices
import Derived.Deep.AppendLies
import Derived.Deep.Draws
import Derived.Maps.AppendAt
import Derived.OwnWalk
import Derived.Laws.IdiomStrings
namespace Go.Proofs.Ytkghogfcfocmpaa
open Go.RowKit

/-! ### What a call may have turned -/
/-- Of the blocks that were there, those of T alone may have turned. -/
structure Touch (T : Nat → Prop) (w w' : World) : Prop where
  os : w'.os = w.os
  tape : w'.tape = w.tape
  output : w'.output = w.output
  size : w.heap.size ≤ w'.heap.size
  block : ∀ k, k < w.heap.size → ¬ T k → w'.heap[k]? = w.heap[k]?

theorem Touch.refl (T : Nat → Prop) (w : World) : Touch T w w := ⟨rfl, rfl, rfl, Nat.le_refl _, fun _ _ _ => rfl⟩
theorem Touch.trans {T T' : Nat → Prop} {a b c : World} (h : Touch T a b) (k : Touch T' b c) (hT : ∀ i, i < a.heap.size → T' i → T i) : Touch T a c :=
  ⟨k.os.trans h.os, k.tape.trans h.tape, k.output.trans h.output, Nat.le_trans h.size k.size,
    fun i hi hn => (k.block i (Nat.lt_of_lt_of_le hi h.size) (fun g => hn (hT i hi g))).trans (h.block i hi hn)⟩
theorem Touch.mono {T T' : Nat → Prop} {a b : World} (h : Touch T a b) (hT : ∀ i, i < a.heap.size → T i → T' i) : Touch T' a b :=
  ⟨h.os, h.tape, h.output, h.size, fun i hi hn => h.block i hi (fun g => hn (hT i hi g))⟩
theorem Touch.of_below {a b : World} (h : Below a.heap.size a b) (T : Nat → Prop) : Touch T a b := ⟨h.os, h.tape, h.output, h.size, fun k hk _ => h.block k hk⟩
theorem Touch.below {T : Nat → Prop} {a b : World} {B : Nat} (h : Touch T a b) (hT : ∀ k, T k → B ≤ k) (hB : B ≤ a.heap.size) : Below B a b :=
  ⟨h.os, h.tape, h.output, h.size, fun k hk => h.block k (by omega) (fun g => by have := hT k g; omega)⟩
theorem Touch.grown {T : Nat → Prop} {a b : World} {row : Option Nat} (h : a.grownBy b row) (hr : ∀ k, k < a.heap.size → row = some k → T k) : Touch T a b :=
  ⟨h.os, h.tape, h.output, h.size, fun k hk hn => h.block k hk (fun e => hn (hr k hk e.symm))⟩
theorem Touch.alloc (T : Nat → Prop) (w : World) (o : Obj) : Touch T w (w.alloc o) := ⟨rfl, rfl, rfl, by simp, fun k hk _ => Below.heap_alloc w o k hk⟩
theorem Touch.drewN (T : Nat → Prop) (w : World) (n : Nat) : Touch T w (w.drewN n) := ⟨rfl, rfl, rfl, Nat.le_refl _, fun _ _ _ => rfl⟩
theorem Touch.setCell {T : Nat → Prop} (w : World) {p : Addr} (u : Value) (hp : p.block < w.heap.size → T p.block) : Touch T w (w.setCell p u) :=
  ⟨rfl, rfl, rfl, by simp [World.setCell], fun k hk hn => Below.heap_setCell w p u k (fun e => hn (by subst e; exact hp hk))⟩
theorem Touch.cell {T : Nat → Prop} {w w' : World} (h : Touch T w w') {p : Addr} (hp : p.block < w.heap.size) (hn : ¬ T p.block) : w'.cell? p = w.cell? p :=
  World.cell?_of_block (h.block p.block hp hn)
theorem Touch.frozen {T : Nat → Prop} {w w' : World} (h : Touch T w w') {p : Addr} (hp : p.block < w.heap.size) (hn : ¬ T p.block) : w'.frozen? p = w.frozen? p :=
  World.frozen?_of_block (h.block p.block hp hn)
/-- A call's own blocks, and no others. -/
theorem Below.touch {T : Nat → Prop} {B : Nat} {a b : World} (h : Below B a b) (hT : ∀ k, k < a.heap.size → B ≤ k → T k) : Touch T a b :=
  ⟨h.os, h.tape, h.output, h.size, fun k hk hn => h.block k (Nat.lt_of_not_le fun g => hn (hT k hk g))⟩

theorem own_touch {T : Nat → Prop} {w w' : World} {base : Nat} {e : TypeId} {size : Nat} {v : Value} {n : Nat} {xs : List Value} (h : w.ownsRow base e size v n xs) (ht : Touch T w w') (hn : ∀ k, v.ownBlock = some k → ¬ T k) : w'.ownsRow base e size v n xs := by
  refine ⟨h.1, ?_⟩
  rcases h.2 with hz | ⟨g, cap, cur, rfl, hb, hg, rest⟩
  · exact .inl hz
  · refine .inr ⟨g, cap, cur, rfl, hb, ?_, rest⟩
    rw [ht.block g (Array.getElem?_eq_some_iff.1 hg).1 (hn g rfl)]
    exact hg
theorem own_below {w w' : World} {base : Nat} {e : TypeId} {size : Nat} {v : Value} {n : Nat} {xs : List Value} (h : w.ownsRow base e size v n xs) (hb : Below w.heap.size w w') : w'.ownsRow base e size v n xs :=
  own_touch h (Touch.of_below hb fun _ => False) (fun _ _ g => g)
theorem own_lt {w : World} {base : Nat} {e : TypeId} {size : Nat} {v : Value} {n : Nat} {xs : List Value} (h : w.ownsRow base e size v n xs) {k : Nat} (hk : v.ownBlock = some k) : base ≤ k ∧ k < w.heap.size := h.lt k hk

/-- A block that is known whole. -/
def Blk (w : World) (g : Nat) (t : TypeId) (cs : Array Value) : Prop := w.heap[g]? = some (.cells cs t (0, 0))
section
variable {w w' : World} {g : Nat} {t : TypeId} {cs : Array Value}
theorem Blk.lt (h : Blk w g t cs) : g < w.heap.size := (Array.getElem?_eq_some_iff.1 h).1
theorem Blk.cell (h : Blk w g t cs) (i : Nat) : w.cell? ⟨g, i, none⟩ = cs[i]? := cell_of_row w g i cs t (0, 0) h
theorem Blk.frozen (h : Blk w g t cs) (i : Nat) : w.frozen? ⟨g, i, none⟩ = false := by
  unfold Blk at h
  simp [World.frozen?, h]
theorem Blk.new (w : World) (t : TypeId) (cs : Array Value) : Blk (w.alloc (.cells cs t)) w.heap.size t cs := heap_alloc_new w _
theorem Blk.touch {T : Nat → Prop} (h : Blk w g t cs) (ht : Touch T w w') (hn : ¬ T g) : Blk w' g t cs := (ht.block g h.lt hn).trans h
theorem Blk.below {B : Nat} (h : Blk w g t cs) (hb : Below B w w') (hg : g < B) : Blk w' g t cs := (hb.block g hg).trans h
theorem Blk.alloc (h : Blk w g t cs) (o : Obj) : Blk (w.alloc o) g t cs := (Below.heap_alloc w o g h.lt).trans h
theorem Blk.set (h : Blk w g t cs) (i : Nat) (u : Value) : Blk (w.setCell ⟨g, i, none⟩ u) g t (cs.setIfInBounds i u) := by
  unfold Blk at h ⊢
  simp [World.setCell, Array.getElem?_modify, h]
theorem Blk.other (h : Blk w g t cs) {p : Addr} (hp : g ≠ p.block) (u : Value) : Blk (w.setCell p u) g t cs := (Below.heap_setCell w p u g hp).trans h
theorem Blk.apart {g' : Nat} {t' : TypeId} {cs' : Array Value} (h : Blk w g t cs) (h' : Blk w g' t' cs') (hne : t ≠ t') : g ≠ g' := by
  rintro rfl
  unfold Blk at h h'
  rw [h] at h'
  injection h' with h'
  injection h' with _ ht
  exact hne ht
theorem own_apart {base : Nat} {e : TypeId} {size n : Nat} {v : Value} {xs : List Value} (h : w.ownsRow base e size v n xs) (hg : Blk w g t cs) (hne : e ≠ t) {k : Nat} (hk : v.ownBlock = some k) : k ≠ g := by
  rcases h.2 with ⟨rfl, _⟩ | ⟨g', cap, cur, rfl, _, hh, _⟩
  · simp [Value.ownBlock] at hk
  · simp [Value.ownBlock] at hk
    subst hk
    exact Blk.apart (t := e) hh hg hne
end

/-! ### What a slice reads as -/
/-- How cells read as something: in a world, with all that is looked at in blocks of S. -/
abbrev Rep (α : Type) := World → (Nat → Prop) → List Value → α → Prop
/-- What is kept when the cells of its blocks are. -/
structure Rep.Kept {α : Type} (R : Rep α) : Prop where
  keep : ∀ {w w' : World} {S S' : Nat → Prop} {cs : List Value} {x : α}, R w S cs x → (∀ k, S k → w'.heap[k]? = w.heap[k]?) → (∀ k, S k → S' k) → R w' S' cs x

/-- The value v is a slice that reads as the list l, each element 'size' cells that read by R. -/
def SliceOf {α : Type} (R : Rep α) (size : Nat) (w : World) (S : Nat → Prop) (v : Value) (l : List α) : Prop :=
  ∃ A cap, v = .slice A l.length cap ∧ l.length ≤ cap ∧ cap ≤ maxLen ∧
    (0 < l.length → ∃ b off, A = some ⟨b, off, none⟩ ∧ S b ∧ ∀ i x, l[i]? = some x → ∃ cs, R w S cs x ∧ cs.length = size ∧ ∀ j u, cs[j]? = some u → w.cell? ⟨b, off + (i * size + j), none⟩ = some u)

theorem SliceOf.keep {α : Type} {R : Rep α} (hR : Rep.Kept R) {size : Nat} {w w' : World} {S S' : Nat → Prop} {v : Value} {l : List α} (h : SliceOf R size w S v l) (hk : ∀ k, S k → w'.heap[k]? = w.heap[k]?) (hS : ∀ k, S k → S' k) : SliceOf R size w' S' v l := by
  obtain ⟨A, cap, hv, h1, h2, h3⟩ := h
  refine ⟨A, cap, hv, h1, h2, fun hl => ?_⟩
  obtain ⟨b, off, hA, hb, hx⟩ := h3 hl
  refine ⟨b, off, hA, hS b hb, fun i x hi => ?_⟩
  obtain ⟨cs, hr, hlen, hc⟩ := hx i x hi
  exact ⟨cs, hR.keep hr hk hS, hlen, fun j u hu => (World.cell?_of_block (hk _ hb)).trans (hc j u hu)⟩
theorem SliceOf.touch {α : Type} {R : Rep α} (hR : Rep.Kept R) {size : Nat} {w w' : World} {S S' T : Nat → Prop} {v : Value} {l : List α} (h : SliceOf R size w S v l) (ht : Touch T w w') (hn : ∀ k, S k → k < w.heap.size ∧ ¬ T k) (hS : ∀ k, S k → S' k) : SliceOf R size w' S' v l :=
  SliceOf.keep hR h (fun k hp => ht.block k (hn _ hp).1 (hn _ hp).2) hS
theorem SliceOf.below {α : Type} {R : Rep α} (hR : Rep.Kept R) {size : Nat} {w w' : World} {S S' : Nat → Prop} {v : Value} {l : List α} {B : Nat} (h : SliceOf R size w S v l) (hb : Below B w w') (hn : ∀ k, S k → k < B) (hS : ∀ k, S k → S' k) : SliceOf R size w' S' v l :=
  SliceOf.keep hR h (fun k hp => hb.block k (hn _ hp)) hS
theorem SliceOf.nil {α : Type} (R : Rep α) (size : Nat) (w : World) (S : Nat → Prop) : SliceOf R size w S (.slice none 0 0) ([] : List α) :=
  ⟨none, 0, rfl, Nat.le_refl _, by unfold maxLen; omega, fun h => absurd h (by simp)⟩
/-- A cut s[:n]. -/
theorem SliceOf.take {α : Type} {R : Rep α} {size : Nat} {w : World} {S : Nat → Prop} {A : Option Addr} {m cap : Nat} {l : List α} (h : SliceOf R size w S (.slice A m cap) l) (n : Nat) (hn : n ≤ m) : m = l.length ∧ SliceOf R size w S (.slice A n cap) (l.take n) := by
  obtain ⟨A', cap', hv, h1, h2, h3⟩ := h
  injection hv with e1 e2 e3
  subst e1 e2 e3
  refine ⟨rfl, A, cap, by rw [List.length_take]; congr 1; omega, by rw [List.length_take]; omega, h2, fun hl => ?_⟩
  rw [List.length_take] at hl
  obtain ⟨b, off, hA, hb, hx⟩ := h3 (by omega)
  refine ⟨b, off, hA, hb, fun i x hi => hx i x ?_⟩
  rw [List.getElem?_take] at hi
  split at hi
  · exact hi
  · cases hi

def byteV (c : UInt8) : Value := .int .u8 c.toNat
/-- A byte. -/
def RByte : Rep UInt8 := fun _ _ cs x => cs = [byteV x]
theorem RByte.kept : Rep.Kept RByte := ⟨fun h _ _ => h⟩
/-- A slice in a cell. -/
def RSlice {α : Type} (R : Rep α) (size : Nat) : Rep (List α) := fun w S cs l => ∃ v, cs = [v] ∧ SliceOf R size w S v l
theorem RSlice.kept {α : Type} {R : Rep α} (hR : Rep.Kept R) (size : Nat) : Rep.Kept (RSlice R size) := ⟨fun ⟨v, hv, h⟩ hk hS => ⟨v, hv, SliceOf.keep hR h hk hS⟩⟩
abbrev BytesAt (w : World) (S : Nat → Prop) (v : Value) (l : List UInt8) : Prop := SliceOf RByte 1 w S v l

/-- The bytes' cells, one by one. -/
theorem BytesAt.open {w : World} {S : Nat → Prop} {v : Value} {l : List UInt8} (h : BytesAt w S v l) : ∃ A cap, v = .slice A l.length cap ∧ l.length ≤ cap ∧ cap ≤ maxLen ∧
    (0 < l.length → ∃ b off, A = some ⟨b, off, none⟩ ∧ S b ∧ ∀ i (hi : i < l.length), w.cell? ⟨b, off + i, none⟩ = some (.int .u8 (l[i].toNat : Int))) := by
  obtain ⟨A, cap, hv, h1, h2, h3⟩ := h
  refine ⟨A, cap, hv, h1, h2, fun hl => ?_⟩
  obtain ⟨b, off, hA, hb, hx⟩ := h3 hl
  refine ⟨b, off, hA, hb, fun i hi => ?_⟩
  obtain ⟨cs, hr, _, hc⟩ := hx i l[i] (List.getElem?_eq_getElem hi)
  have hr' : cs = [byteV l[i]] := hr
  subst hr'
  have := hc 0 (byteV l[i]) rfl
  simpa [byteV] using this

/-- 'string(b)'. -/
theorem conv_bytes {P : Program} {w w' : World} {S : Nat → Prop} {v : Value} {l : List UInt8} (h : BytesAt w S v l) {src dst e : TypeId} (hs : P.underlying src = some (.slice e)) (he : P.underlying e = some (.int .u8)) (hd : P.underlying dst = some .string)
    (hw : ∀ k, S k → w'.heap[k]? = w.heap[k]?) : (convert src dst v).run P w' = .ok (.string ⟨l.toArray⟩) w' := by
  obtain ⟨A, cap, rfl, _, _, h3⟩ := h.open
  by_cases hl : 0 < l.length
  · obtain ⟨b, off, rfl, hb, hx⟩ := h3 hl
    refine run_convert_bytes_back w' src dst e ⟨b, off, none⟩ cap l hs he hd fun j hj => ?_
    rw [WideShapes.add_plain, World.cell?_of_block (w := w) (hw _ hb)]
    exact hx j hj
  · have hl0 : l = [] := List.eq_nil_of_length_eq_zero (by omega)
    subst hl0
    cases A with
    | none =>
      rw [run_convert_bytes_string w' src dst e none _ cap hs he hd]
      simp [Conv.bytesToString, Sem.run_pure]
      rfl
    | some a => exact run_convert_bytes_back w' src dst e a cap [] hs he hd (fun j hj => absurd hj (by simp))

/-! ### Rows of the call's own -/
theorem own_block {w w' : World} {base : Nat} {e : TypeId} {size : Nat} {v : Value} {n : Nat} {xs : List Value} (h : w.ownsRow base e size v n xs) (hk : ∀ k, v.ownBlock = some k → w'.heap[k]? = w.heap[k]?) : w'.ownsRow base e size v n xs := by
  refine ⟨h.1, ?_⟩
  rcases h.2 with hz | ⟨g, cap, cur, rfl, hb, hg, rest⟩
  · exact .inl hz
  · exact .inr ⟨g, cap, cur, rfl, hb, (hk g rfl).trans hg, rest⟩
theorem own_rebase {w : World} {base base' : Nat} {e : TypeId} {size : Nat} {v : Value} {n : Nat} {xs : List Value} (h : w.ownsRow base e size v n xs) (hb : base' ≤ base) : w.ownsRow base' e size v n xs := by
  refine ⟨h.1, ?_⟩
  rcases h.2 with hz | ⟨g, cap, cur, rfl, hg, rest⟩
  · exact .inl hz
  · exact .inr ⟨g, cap, cur, rfl, Nat.le_trans hb hg, rest⟩
theorem own_shape {w : World} {base : Nat} {e : TypeId} {size : Nat} {v : Value} {n : Nat} {xs : List Value} (h : w.ownsRow base e size v n xs) : ∃ A c, v = .slice A n c := by
  rcases h.2 with ⟨rfl, rfl⟩ | ⟨g, cap, cur, rfl, _⟩
  · exact ⟨_, _, rfl⟩
  · exact ⟨_, _, rfl⟩
theorem own_one {w : World} {base : Nat} {e : TypeId} {size : Nat} {v : Value} {n : Nat} {xs : List Value} (h : w.ownsRow base e size v n xs) : v.oneCell' = true := by
  rcases h.2 with ⟨rfl, _⟩ | ⟨g, cap, cur, rfl, _⟩ <;> rfl
theorem slice_one {α : Type} {R : Rep α} {size : Nat} {w : World} {S : Nat → Prop} {v : Value} {l : List α} (h : SliceOf R size w S v l) : v.oneCell' = true := by
  obtain ⟨A, cap, rfl, _⟩ := h
  rfl
theorem slice_shape {α : Type} {R : Rep α} {size : Nat} {w : World} {S : Nat → Prop} {v : Value} {l : List α} (h : SliceOf R size w S v l) : ∃ A c, v = .slice A l.length c := by
  obtain ⟨A, cap, rfl, _⟩ := h
  exact ⟨A, cap, rfl⟩
/-- The element at a place. -/
theorem SliceOf.at {α : Type} {R : Rep α} {size : Nat} {w : World} {S : Nat → Prop} {A : Option Addr} {n cap : Nat} {l : List α} (h : SliceOf R size w S (.slice A n cap) l) {i : Nat} {x : α} (hx : l[i]? = some x) :
    ∃ b off, A = some ⟨b, off, none⟩ ∧ S b ∧ ∃ cs, R w S cs x ∧ cs.length = size ∧ ∀ j u, cs[j]? = some u → w.cell? ⟨b, off + (i * size + j), none⟩ = some u := by
  obtain ⟨A', cap', hv, h1, h2, h3⟩ := h
  injection hv with e1 e2 e3
  subst e1 e2 e3
  obtain ⟨b, off, hA, hb, hc⟩ := h3 (by have := (List.getElem?_eq_some_iff.1 hx).1; omega)
  exact ⟨b, off, hA, hb, hc i x hx⟩
/-- The cells of a list of elements, one by one. -/
def RowsOf {α : Type} (R : Rep α) (size : Nat) (w : World) (S : Nat → Prop) (css : List (List Value)) (l : List α) : Prop :=
  css.length = l.length ∧ ∀ (i : Nat) (cs : List Value) (x : α), css[i]? = some cs → l[i]? = some x → cs.length = size ∧ R w S cs x

theorem RowsOf.nil {α : Type} (R : Rep α) (size : Nat) (w : World) (S : Nat → Prop) : RowsOf R size w S [] ([] : List α) := ⟨rfl, fun i cs x h => by simp at h⟩
theorem RowsOf.keep {α : Type} {R : Rep α} (hR : Rep.Kept R) {size : Nat} {w w' : World} {S S' : Nat → Prop} {css : List (List Value)} {l : List α} (h : RowsOf R size w S css l) (hk : ∀ k, S k → w'.heap[k]? = w.heap[k]?) (hS : ∀ k, S k → S' k) : RowsOf R size w' S' css l :=
  ⟨h.1, fun i cs x h1 h2 => ⟨(h.2 i cs x h1 h2).1, hR.keep (h.2 i cs x h1 h2).2 hk hS⟩⟩
theorem RowsOf.snoc {α : Type} {R : Rep α} {size : Nat} {w : World} {S : Nat → Prop} {css : List (List Value)} {l : List α} (h : RowsOf R size w S css l) {cs : List Value} {x : α} (hl : cs.length = size) (hx : R w S cs x) : RowsOf R size w S (css ++ [cs]) (l ++ [x]) := by
  refine ⟨by simp [h.1], fun i c y h1 h2 => ?_⟩
  by_cases hi : i < css.length
  · rw [List.getElem?_append_left hi] at h1
    rw [List.getElem?_append_left (by rw [← h.1]; exact hi)] at h2
    exact h.2 i c y h1 h2
  · rw [List.getElem?_append_right (by omega)] at h1
    rw [List.getElem?_append_right (by rw [← h.1]; omega)] at h2
    rw [h.1] at h1
    cases hk : i - l.length with
    | zero => rw [hk] at h1 h2; simp at h1 h2; subst h1 h2; exact ⟨hl, hx⟩
    | succ k => rw [hk] at h1; simp at h1

theorem flatten_get {css : List (List Value)} {size : Nat} (h : ∀ cs ∈ css, cs.length = size) : ∀ (i j : Nat) (cs : List Value) (u : Value), css[i]? = some cs → cs[j]? = some u → css.flatten[i * size + j]? = some u := by
  induction css with
  | nil => intro i j cs u hi; simp at hi
  | cons c r ih =>
    intro i j cs u hi hj
    have hc := h c (by simp)
    cases i with
    | zero =>
      simp at hi
      subst hi
      have hlt : j < c.length := (List.getElem?_eq_some_iff.1 hj).1
      simp only [List.flatten_cons, Nat.zero_mul, Nat.zero_add]
      rw [List.getElem?_append_left hlt]
      exact hj
    | succ i =>
      simp at hi
      have := ih (fun x hx => h x (by simp [hx])) i j cs u hi hj
      simp only [List.flatten_cons]
      rw [List.getElem?_append_right (by rw [hc, Nat.succ_mul]; omega), hc, show (i + 1) * size + j - size = i * size + j by rw [Nat.succ_mul]; omega]
      exact this
theorem flatten_length {css : List (List Value)} {size : Nat} (h : ∀ cs ∈ css, cs.length = size) : css.flatten.length = css.length * size := by
  induction css with
  | nil => simp
  | cons c r ih => simp only [List.flatten_cons, List.length_append, List.length_cons, Nat.succ_mul]; rw [ih (fun x hx => h x (by simp [hx])), h c (by simp)]; omega
theorem RowsOf.sizes {α : Type} {R : Rep α} {size : Nat} {w : World} {S : Nat → Prop} {css : List (List Value)} {l : List α} (h : RowsOf R size w S css l) : ∀ cs ∈ css, cs.length = size := by
  intro cs hcs
  obtain ⟨i, hi, rfl⟩ := List.getElem_of_mem hcs
  exact (h.2 i _ (l[i]'(by rw [← h.1]; exact hi)) (List.getElem?_eq_getElem hi) (List.getElem?_eq_getElem (by rw [← h.1]; exact hi))).1

/-- A row of the call's own reads as a list. -/
def Owns {α : Type} (R : Rep α) (size : Nat) (e : TypeId) (w : World) (base : Nat) (S : Nat → Prop) (v : Value) (l : List α) : Prop :=
  ∃ css, RowsOf R size w S css l ∧ w.ownsRow base e size v l.length css.flatten

theorem Owns.nil {α : Type} (R : Rep α) (size : Nat) (e : TypeId) (w : World) (base : Nat) (S : Nat → Prop) : Owns R size e w base S (.slice none 0 0) ([] : List α) :=
  ⟨[], RowsOf.nil R size w S, World.ownsRow_nil w base e size⟩
theorem Owns.touch {α : Type} {R : Rep α} (hR : Rep.Kept R) {size : Nat} {e : TypeId} {w w' : World} {base : Nat} {S S' T : Nat → Prop} {v : Value} {l : List α} (h : Owns R size e w base S v l) (ht : Touch T w w') (hv : ∀ k, v.ownBlock = some k → ¬ T k) (hn : ∀ k, S k → k < w.heap.size ∧ ¬ T k) (hS : ∀ k, S k → S' k) : Owns R size e w' base S' v l := by
  obtain ⟨css, h1, h2⟩ := h
  exact ⟨css, RowsOf.keep hR h1 (fun k hp => ht.block k (hn _ hp).1 (hn _ hp).2) hS, own_touch h2 ht hv⟩
theorem Owns.slice {α : Type} {R : Rep α} (hR : Rep.Kept R) {size : Nat} {e : TypeId} {w : World} {base : Nat} {S S' : Nat → Prop} {v : Value} {l : List α} (h : Owns R size e w base S v l) (hS : ∀ k, S k → S' k) (hv : ∀ k, v.ownBlock = some k → S' k) : SliceOf R size w S' v l := by
  obtain ⟨css, h1, h2⟩ := h
  rcases h2.2 with ⟨rfl, hz⟩ | ⟨g, cap, cur, rfl, hb, hg, hl, hm, hs, htk⟩
  · have : l = [] := List.eq_nil_of_length_eq_zero hz
    subst this
    exact SliceOf.nil R size w S'
  · refine ⟨_, cap, rfl, hl, hm, fun hl0 => ⟨g, 0, rfl, hv g rfl, fun i x hi => ?_⟩⟩
    have hi' : i < css.length := by rw [h1.1]; exact (List.getElem?_eq_some_iff.1 hi).1
    obtain ⟨hlen, hr⟩ := h1.2 i css[i] x (List.getElem?_eq_getElem hi') hi
    refine ⟨css[i], hR.keep hr (fun _ _ => rfl) hS, hlen, fun j u hu => ?_⟩
    have hf := flatten_get h1.sizes i j css[i] u (List.getElem?_eq_getElem hi') hu
    have := h2.cells (g := g) rfl _ u hf
    rw [WideShapes.add_plain] at this
    exact this
theorem Owns.lt {α : Type} {R : Rep α} {size : Nat} {e : TypeId} {w : World} {base : Nat} {S : Nat → Prop} {v : Value} {l : List α} (h : Owns R size e w base S v l) : ∀ k, v.ownBlock = some k → base ≤ k ∧ k < w.heap.size := by
  obtain ⟨css, _, h2⟩ := h
  exact h2.lt
theorem Owns.rebase {α : Type} {R : Rep α} {size : Nat} {e : TypeId} {w : World} {base base' : Nat} {S : Nat → Prop} {v : Value} {l : List α} (h : Owns R size e w base S v l) (hb : base' ≤ base) : Owns R size e w base' S v l := by
  obtain ⟨css, h1, h2, h3⟩ := h
  refine ⟨css, h1, h2, ?_⟩
  rcases h3 with h3 | ⟨g, cap, cur, hv, hg, r⟩
  · exact .inl h3
  · exact .inr ⟨g, cap, cur, hv, Nat.le_trans hb hg, r⟩

/-- append, whatever the source: what the run leaves. 'news': the source's cells. -/
theorem run_append_src {P : Program} (w : World) (base : Nat) (t ty e : TypeId) (z : Value) (size bytes : Nat) (ht : P.underlying t = some (.slice e)) (hinfo : (P.info? e).map (fun i => (i.zero, i.size, i.bytes)) = some (some z, size, bytes)) (hzs : z.cells.size = size) (hsz : 0 < size)
    (v : Value) (n : Nat) (xs : List Value) (hown : w.ownsRow base e size v n xs) (A : Option Addr) (m c : Nat) (news : List Value) (hl : news.length = m * size)
    (hnews : 0 < m → ∃ b off, A = some ⟨b, off, none⟩ ∧ ∀ j u, news[j]? = some u → w.cell? ⟨b, off + j, none⟩ = some u) (h1 : ∀ u ∈ news, u.oneCell' = true)
    (h63 : n + m ≤ 140737488355328) (hbytes : (n + m) * bytes ≤ 140737488355328) (hbase : base ≤ w.heap.size) :
    ∃ v' w', (Builtin.append_ #[t, t] ty #[v, .slice A m c]).run P w = .ok v' w' ∧ w'.ownsRow base e size v' (n + m) (xs ++ news) ∧ w.grownBy w' v.ownBlock ∧ (v'.ownBlock = v.ownBlock ∨ v'.ownBlock = some w.heap.size) := by
  obtain ⟨i, hi, hz, hs1, hs2⟩ := info_parts hinfo
  cases A with
  | none =>
    have hm : m = 0 := by
      rcases Nat.eq_zero_or_pos m with h0 | h0
      · exact h0
      · obtain ⟨b, off, h, _⟩ := hnews h0
        cases h
    subst hm
    have hn : news = [] := List.eq_nil_of_length_eq_zero (by simpa using hl)
    subst hn
    refine ⟨v, w, ?_, by simpa using hown, World.grownBy.refl w _, .inl rfl⟩
    rcases hown.2 with ⟨rfl, rfl⟩ | ⟨g, cap, cur, rfl, _, _, hnc, _⟩
    · simp [Builtin.append_, run_underlying ht, sizeOf, typeInfo, hi, Builtin.lenOf, Builtin.firstCells]
    · simp [Builtin.append_, run_underlying ht, sizeOf, typeInfo, hi, Builtin.lenOf, Builtin.firstCells, hnc, storeCells]
  | some ad =>
    have hcells : ∀ j u, news[j]? = some u → w.cell? (ad.add j) = some u := by
      intro j u hu
      rcases Nat.eq_zero_or_pos m with h0 | h0
      · subst h0
        have hn : news = [] := List.eq_nil_of_length_eq_zero (by simpa using hl)
        subst hn
        simp at hu
      · obtain ⟨b, off, h, hc⟩ := hnews h0
        injection h with h
        subst h
        rw [WideShapes.add_plain]
        exact hc j u hu
    obtain ⟨v', w', hrun, h2, h3, _, h5⟩ := run_append_own_at (P := P) w base t ty e i z size bytes ht hi hz hs1 hs2 hzs hsz v n xs hown ad m c news hl hcells h1 (by unfold maxLen; omega) hbytes hbase
    exact ⟨v', w', hrun, h2, h3, h5⟩

/-- append at the operation, for the walk. -/
theorem wpList_append_src {P : Program} {w : World} {ops : Array Oper} {rest : List Oper} {o : Oper} {a : Act} {Q : Exit → Act → World → Prop} (hgd : o.guard = none) (s x : Operand) (t : TypeId)
    (ho : o.op = .call { callee := .builtin .append, args := #[s, x], argTypes := #[t, t] })
    (base : Nat) (e : TypeId) (z : Value) (size bytes : Nat) (ht : P.underlying t = some (.slice e)) (hinfo : (P.info? e).map (fun i => (i.zero, i.size, i.bytes)) = some (some z, size, bytes)) (hzs : z.cells.size = size) (hsz : 0 < size)
    (v : Value) (n : Nat) (xs : List Value) (hs : a.eval s = v) (hown : w.ownsRow base e size v n xs) (A : Option Addr) (m c : Nat) (news : List Value) (hx : a.eval x = .slice A m c) (hl : news.length = m * size)
    (hnews : 0 < m → ∃ b off, A = some ⟨b, off, none⟩ ∧ ∀ j u, news[j]? = some u → w.cell? ⟨b, off + j, none⟩ = some u) (h1 : ∀ u ∈ news, u.oneCell' = true)
    (h63 : n + m ≤ 140737488355328) (hbytes : (n + m) * bytes ≤ 140737488355328) (hbase : base ≤ w.heap.size)
    (h : ∀ v' w', w'.ownsRow base e size v' (n + m) (xs ++ news) → w.grownBy w' v.ownBlock → (v'.ownBlock = v.ownBlock ∨ v'.ownBlock = some w.heap.size) → wpList P ops Q rest (a.put o.dst v') w') : wpList P ops Q (o :: rest) a w := by
  refine wpList_plain hgd fun K hK => ?_
  obtain ⟨v', w', hrun, h2, h3, h4⟩ := run_append_src (P := P) w base t o.type e z size bytes ht hinfo hzs hsz v n xs hown A m c news hl hnews h1 h63 hbytes hbase
  unfold Oper.wp execOp
  simp only [ho, resolve, invoke, builtin, Sem.run_bind, Sem.run_pure, Result.andThen_ok, List.map_toArray, List.map_cons, List.map_nil, hs, hx, hrun]
  exact hK _ _ (h v' w' h2 h3 h4)

/-- append as a step of a region that draws its order. -/
theorem step_append_src {P : Program} {w : World} {ops : Array Oper} {o : Oper} {a : Act} {K : Act → World → Prop} {Q : Exit → Act → World → Prop} {E : Prop} (hgd : o.guard = none) (s x : Operand) (t : TypeId)
    (ho : o.op = .call { callee := .builtin .append, args := #[s, x], argTypes := #[t, t] })
    (base : Nat) (e : TypeId) (z : Value) (size bytes : Nat) (ht : P.underlying t = some (.slice e)) (hinfo : (P.info? e).map (fun i => (i.zero, i.size, i.bytes)) = some (some z, size, bytes)) (hzs : z.cells.size = size) (hsz : 0 < size)
    (v : Value) (n : Nat) (xs : List Value) (hs : a.eval s = v) (hown : w.ownsRow base e size v n xs) (A : Option Addr) (m c : Nat) (news : List Value) (hx : a.eval x = .slice A m c) (hl : news.length = m * size)
    (hnews : 0 < m → ∃ b off, A = some ⟨b, off, none⟩ ∧ ∀ j u, news[j]? = some u → w.cell? ⟨b, off + j, none⟩ = some u) (h1 : ∀ u ∈ news, u.oneCell' = true)
    (h63 : n + m ≤ 140737488355328) (hbytes : (n + m) * bytes ≤ 140737488355328) (hbase : base ≤ w.heap.size)
    (h : ∀ v' w', w'.ownsRow base e size v' (n + m) (xs ++ news) → w.grownBy w' v.ownBlock → (v'.ownBlock = v.ownBlock ∨ v'.ownBlock = some w.heap.size) → K (a.put o.dst v') w') :
    if Region.wanted o (yielded ops a.tmps) = true then Oper.wp P o a w K Q else E := by
  have hw : Region.wanted o (yielded ops a.tmps) = true := by simp [Region.wanted, hgd]
  rw [if_pos hw]
  obtain ⟨v', w', hrun, h2, h3, h4⟩ := run_append_src (P := P) w base t o.type e z size bytes ht hinfo hzs hsz v n xs hown A m c news hl hnews h1 h63 hbytes hbase
  unfold Oper.wp execOp
  simp only [ho, resolve, invoke, builtin, Sem.run_bind, Sem.run_pure, Result.andThen_ok, List.map_toArray, List.map_cons, List.map_nil, hs, hx, hrun]
  exact h v' w' h2 h3 h4
theorem SliceOf.heap {α : Type} {R : Rep α} (hR : Rep.Kept R) {size : Nat} {w w' : World} {S : Nat → Prop} {v : Value} {l : List α} (h : SliceOf R size w S v l) (hh : w'.heap = w.heap) : SliceOf R size w' S v l :=
  SliceOf.keep hR h (fun _ _ => by rw [hh]) (fun _ g => g)
theorem frozen_alloc (w : World) (o : Obj) (p : Addr) (hp : p.block < w.heap.size) : (w.alloc o).frozen? p = w.frozen? p := World.frozen?_of_block (Below.heap_alloc w o p.block hp)
/-- A slice that was just written out. -/
theorem SliceOf.lit {α : Type} {R : Rep α} (hR : Rep.Kept R) {size : Nat} {w : World} {S S' : Nat → Prop} {e : TypeId} {g : Nat} {cs : Array Value} {css : List (List Value)} {l : List α} {fr : Nat × Nat} (hrow : RowsOf R size w S css l) (hg : w.heap[g]? = some (.cells cs e fr)) (hcs : css.flatten = cs.toList) (hl : l.length ≤ 1000000000) (hS : ∀ k, S k → S' k) (hgS : S' g) :
    SliceOf R size w S' (.slice (some ⟨g, 0, none⟩) l.length l.length) l := by
  refine ⟨_, _, rfl, Nat.le_refl _, by unfold maxLen; omega, fun _ => ⟨g, 0, rfl, hgS, fun i x hi => ?_⟩⟩
  have hi' : i < css.length := by rw [hrow.1]; exact (List.getElem?_eq_some_iff.1 hi).1
  obtain ⟨hlen, hr⟩ := hrow.2 i css[i] x (List.getElem?_eq_getElem hi') hi
  refine ⟨css[i], hR.keep hr (fun _ _ => rfl) hS, hlen, fun j u hu => ?_⟩
  have hf := flatten_get hrow.sizes i j css[i] u (List.getElem?_eq_getElem hi') hu
  rw [hcs] at hf
  rw [cell_of_row w g _ cs e fr hg, Nat.zero_add]
  simpa using hf
theorem one_new (w : World) (x : Value) (t : TypeId) : 0 < 1 → ∃ b off, some (⟨w.heap.size, 0, none⟩ : Addr) = some ⟨b, off, none⟩ ∧ ∀ j u, [x][j]? = some u → (w.alloc (.cells #[x] t)).cell? ⟨b, off + j, none⟩ = some u :=
  fun _ => ⟨w.heap.size, 0, rfl, fun j u hj => by have := cell_one_new w x t j u hj; rwa [WideShapes.add_plain] at this⟩
theorem owns_snoc {α : Type} {R : Rep α} (hR : Rep.Kept R) {size : Nat} {e : TypeId} {w w2 : World} {base : Nat} {S S' : Nat → Prop} {css : List (List Value)} {cs : List Value} {v2 : Value} {l : List α} {x : α} (hrow : RowsOf R size w S css l) (hk : ∀ k, S k → w2.heap[k]? = w.heap[k]?) (hS : ∀ k, S k → S' k) (hlen : cs.length = size) (hx : R w2 S' cs x) (h2 : w2.ownsRow base e size v2 (l.length + 1) (css.flatten ++ cs)) : Owns R size e w2 base S' v2 (l ++ [x]) :=
  ⟨css ++ [cs], (RowsOf.keep hR hrow hk hS).snoc hlen hx, by simpa using h2⟩
/-- A row of the call's own as the source of an append. -/
theorem own_src {w : World} {base : Nat} {e : TypeId} {size : Nat} {A : Option Addr} {n m c : Nat} {xs : List Value} (h : w.ownsRow base e size (.slice A m c) n xs) : 0 < m → ∃ b off, A = some ⟨b, off, none⟩ ∧ ∀ j u, xs[j]? = some u → w.cell? ⟨b, off + j, none⟩ = some u := fun hm => by
  rcases h.2 with ⟨hv, _⟩ | ⟨g, cap, cur, hv, _⟩
  · injection hv with _ e2 _; omega
  · injection hv with e1 e2 e3
    subst e1 e2 e3
    refine ⟨g, 0, rfl, fun j u hu => ?_⟩
    have := h.cells (g := g) rfl j u hu
    rwa [WideShapes.add_plain] at this
theorem own_frozen {w : World} {base : Nat} {e : TypeId} {size n m g c : Nat} {xs : List Value} (h : w.ownsRow base e size (.slice (some ⟨g, 0, none⟩) m c) n xs) (j : Nat) : w.frozen? ⟨g, j, none⟩ = false := by
  rcases h.2 with ⟨hv, _⟩ | ⟨g', cap, cur, hv, _, hg, _⟩
  · cases hv
  · injection hv with e1
    injection e1 with e1
    injection e1 with e1
    subst e1
    simp [World.frozen?, hg]
end Go.Proofs.Ytkghogfcfocmpaa
