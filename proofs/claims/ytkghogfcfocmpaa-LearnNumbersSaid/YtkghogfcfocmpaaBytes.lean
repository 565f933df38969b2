/- Contracts of small functions that several statements use: wardmotekeep.Cut and slices.Clone at []byte. -/
import Derived.Test.YtkghogfcfocmpaaRows
import Derived.Test.YtkghogfcfocmpaaMem
import Derived.Deep.QuietTactic
import Derived.BigQuiet
import Derived.Lib.SlBytesConst
namespace Go.Proofs.Ytkghogfcfocmpaa
open Go.RowKit

theorem byte_info : (Try.prog.info? 5).map (fun i => (i.zero, i.size, i.bytes)) = some (some (.int .u8 0), 1, 1) := by kernel_rfl

theorem bytes_one (l : List UInt8) : ∀ u ∈ l.map byteV, u.oneCell' = true := by
  intro u hu
  obtain ⟨c, _, rfl⟩ := List.mem_map.1 hu
  rfl
theorem bytes_rows (w : World) (S : Nat → Prop) (l : List UInt8) : RowsOf RByte 1 w S (l.map fun c => [byteV c]) l := by
  refine ⟨by simp, fun i cs x h1 h2 => ?_⟩
  rw [List.getElem?_map, h2] at h1
  simp at h1
  subst h1
  exact ⟨rfl, rfl⟩
theorem bytes_flat (l : List UInt8) : (l.map fun c => [byteV c]).flatten = l.map byteV := by
  induction l with
  | nil => rfl
  | cons c r ih => simp [ih]
/-- Bytes in a row of the call's own. -/
theorem owns_bytes {w : World} {base : Nat} {S : Nat → Prop} {v : Value} {l : List UInt8} (h : w.ownsRow base 5 1 v l.length (l.map byteV)) : Owns RByte 1 5 w base S v l :=
  ⟨_, bytes_rows w S l, by rw [bytes_flat]; exact h⟩
theorem bytes_owns {w : World} {base : Nat} {S : Nat → Prop} {v : Value} {l : List UInt8} (h : Owns RByte 1 5 w base S v l) : w.ownsRow base 5 1 v l.length (l.map byteV) := by
  obtain ⟨css, h1, h2⟩ := h
  have : css = l.map fun c => [byteV c] := by
    refine List.ext_getElem? fun i => ?_
    rw [List.getElem?_map]
    by_cases hi : i < l.length
    · have hc : i < css.length := by rw [h1.1]; exact hi
      have := (h1.2 i css[i] l[i] (List.getElem?_eq_getElem hc) (List.getElem?_eq_getElem hi)).2
      rw [List.getElem?_eq_getElem hc, List.getElem?_eq_getElem hi, this]
      rfl
    · rw [List.getElem?_eq_none (by rw [h1.1]; omega), List.getElem?_eq_none (by omega)]
      rfl
  rw [this, bytes_flat] at h2
  exact h2


def CloneEnd (w : World) (l : List UInt8) (e : Ending) (w' : World) : Prop := ∃ v, e = .returned v ∧ w'.ownsRow w.heap.size 5 1 v l.length (l.map byteV) ∧ Below w.heap.size w w'
theorem clone_nil_fact (w : World) (A : Option Addr) (n c : Nat) : (binOp .eql 32 (.slice A n c) (.slice none 0 0)).run Try.prog w = .ok (.bool A.isNone) w :=
  Lib.run_eql_slice_nil w 32 5 A n c 0 0 Try.underlying32
set_option maxHeartbeats 400000 in
theorem clone_any (v : Value) (l : List UInt8) (S : Nat → Prop) (w : World) (h : BytesAt w S v l) (hS : ∀ k, S k → k < w.heap.size) (hl : l.length ≤ 140737488351232) :
    Calls Try.prog 19 #[v] w (CloneEnd w l) := by
  obtain ⟨A, cap, rfl, h1, h2, h3⟩ := h.open
  have he := fun W : World => clone_nil_fact W A l.length cap
  cases A with
  | none =>
    have hl0 : l = [] := by
      rcases Nat.eq_zero_or_pos l.length with h0 | h0
      · exact List.eq_nil_of_length_eq_zero h0
      · obtain ⟨b, off, hA, _⟩ := h3 h0
        cases hA
    subst hl0
    clear h h3 he
    have he := fun W : World => clone_nil_fact W none 0 cap
    go_enter Try.func19, Try.ntmps19
    go_wp2
    go_ret
    exact ⟨_, rfl, World.ownsRow_nil w w.heap.size 5 1, Below.refl _ _⟩
  | some a =>
    have hn : Hid (0 < l.length → ∃ b off, some a = some ⟨b, off, none⟩ ∧ ∀ j u, (l.map byteV)[j]? = some u → (w.alloc (.cells #[] 5)).cell? ⟨b, off + j, none⟩ = some u) := fun hl0 => by
      obtain ⟨b, off, hA, hb, hx⟩ := h3 hl0
      refine ⟨b, off, hA, fun j u hj => ?_⟩
      rw [World.cell?_alloc_lt w _ _ (hS b hb)]
      rw [List.getElem?_map] at hj
      obtain ⟨c, hc, rfl⟩ := Option.map_eq_some_iff.1 hj
      obtain ⟨hlt, rfl⟩ := List.getElem?_eq_some_iff.1 hc
      exact hx j hlt
    clear h h3
    go_enter Try.func19, Try.ntmps19
    go_wp2_with (at_builtin; refine wpList_append_src rfl _ _ 32 rfl w.heap.size 5 (.int .u8 0) 1 1 Try.underlying32 byte_info rfl (by omega) (.slice (some ⟨w.heap.size, 0, none⟩) 0 0) 0 [] rfl (World.ownsRow_lit w #[] 0 (Nat.le_refl _) (by unfold maxLen; omega) rfl) (some a) l.length cap (l.map byteV) rfl (by simp) hn.out (bytes_one l) (by omega) (by omega) (by simp) ?_; intro v1 w1 hown1 hg1 _)
    go_ret
    have hown1' : w1.ownsRow w.heap.size 5 1 v1 l.length (l.map byteV) := by simpa using hown1
    exact ⟨v1, rfl, hown1', ((Below.refl _ _).alloc (Nat.le_refl _) _).grown hg1 (by simp) (by simp [Value.ownBlock])⟩

/-- A slice of bytes in a cell, in a row that may be written: its block lies in S. -/
def RMine : Rep (List UInt8) := fun w S cs l => ∃ v, cs = [v] ∧ w.ownsRow 0 5 1 v l.length (l.map byteV) ∧ ∀ k, v.ownBlock = some k → S k
theorem RMine.kept : Rep.Kept RMine := ⟨fun ⟨v, hv, h, hs⟩ hk hS => ⟨v, hv, own_block h fun k e => hk k (hs k e), fun k e => hS k (hs k e)⟩⟩
theorem RMine.reads {w : World} {S : Nat → Prop} {cs : List Value} {l : List UInt8} (h : RMine w S cs l) : RSlice RByte 1 w S cs l := by
  obtain ⟨v, hv, ho, hs⟩ := h
  exact ⟨v, hv, Owns.slice RByte.kept (owns_bytes (S := S) ho) (fun _ h => h) hs⟩
abbrev RText : Rep (List UInt8) := RSlice RByte 1
theorem RText.kept : Rep.Kept RText := RSlice.kept RByte.kept 1
theorem slice_mono {α : Type} {R R' : Rep α} {size : Nat} {w : World} {S : Nat → Prop} {v : Value} {l : List α} (h : SliceOf R size w S v l) (hR : ∀ cs x, R w S cs x → R' w S cs x) : SliceOf R' size w S v l := by
  obtain ⟨A, cap, hv, h1, h2, h3⟩ := h
  refine ⟨A, cap, hv, h1, h2, fun hl => ?_⟩
  obtain ⟨b, off, hA, hb, hx⟩ := h3 hl
  refine ⟨b, off, hA, hb, fun i x hi => ?_⟩
  obtain ⟨cs, hr, r⟩ := hx i x hi
  exact ⟨cs, hR cs x hr, r⟩
/-- Bytes that were just written out. -/
theorem bytes_lit (w : World) (cs : Array Value) (l : List UInt8) (fr : Nat × Nat) (hcs : l.map byteV = cs.toList) (hl : l.length ≤ 1000000000) : BytesAt (w.alloc (.cells cs 5 fr)) (fun k => k = w.heap.size) (.slice (some ⟨w.heap.size, 0, none⟩) l.length l.length) l :=
  SliceOf.lit RByte.kept (bytes_rows _ (fun _ => False) l) (heap_alloc_new w _) (by rw [bytes_flat]; exact hcs) hl (fun _ g => g.elim) rfl

/-- A constant of bytes, made a slice: the walk's rule. -/
theorem const_rule (w : World) (C : Array Value) (n c g : Nat) (hg : g = w.heap.size) : (convert 32 32 (.slice (some ⟨g, 0, none⟩) n c)).run Try.prog (w.alloc (.cells C 5)) = .ok (.slice (some ⟨g, 0, none⟩) n c) (w.alloc (.cells C 5 (C.size, C.size + 1))) := by
  subst hg; exact Lib.run_convert_bytes_const w 32 5 C n c Try.underlying32 Try.underlying5
theorem texts_one {w : World} {S : Nat → Prop} {css : List (List Value)} {l : List (List UInt8)} (h : RowsOf RText 1 w S css l) : ∀ u ∈ css.flatten, u.oneCell' = true := by
  intro u hu
  obtain ⟨cs, hcs, huc⟩ := List.mem_flatten.1 hu
  obtain ⟨i, hi, rfl⟩ := List.getElem_of_mem hcs
  obtain ⟨v, hv, hs⟩ := (h.2 i _ (l[i]'(by rw [← h.1]; exact hi)) (List.getElem?_eq_getElem hi) (List.getElem?_eq_getElem (by rw [← h.1]; exact hi))).2
  rw [hv] at huc
  simp at huc
  subst huc
  exact slice_one hs
theorem texts_len {w : World} {S : Nat → Prop} {css : List (List Value)} {l : List (List UInt8)} (h : RowsOf RText 1 w S css l) : css.flatten.length = l.length * 1 := by
  rw [flatten_length h.sizes, h.1]
/-- Bytes as the source of an append. -/
theorem bytes_src {w : World} {S : Nat → Prop} {A : Option Addr} {n c : Nat} {l : List UInt8} (h : BytesAt w S (.slice A n c) l) : 0 < n → ∃ b off, A = some ⟨b, off, none⟩ ∧ ∀ j u, (l.map byteV)[j]? = some u → w.cell? ⟨b, off + j, none⟩ = some u := fun hn => by
  obtain ⟨A', c', hv, _, _, h3⟩ := h.open
  injection hv with e1 e2 e3
  subst e1 e2 e3
  obtain ⟨b, off, hA, _, hx⟩ := h3 hn
  refine ⟨b, off, hA, fun j u hj => ?_⟩
  rw [List.getElem?_map] at hj
  obtain ⟨c, hc, rfl⟩ := Option.map_eq_some_iff.1 hj
  obtain ⟨hlt, rfl⟩ := List.getElem?_eq_some_iff.1 hc
  exact hx j hlt
end Go.Proofs.Ytkghogfcfocmpaa
