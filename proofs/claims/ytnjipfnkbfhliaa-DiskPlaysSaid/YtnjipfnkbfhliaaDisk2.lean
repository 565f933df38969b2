/- Contracts of package disk's Copy, and of the statements' own helpers 'same' and 'known'. -/
import Derived.Test.YtnjipfnkbfhliaaDisk
namespace Go.Proofs.Ytnjipfnkbfhliaa
open Go.RowKit

theorem DiskAt.lt {w : World} {base : Nat} {F : Nat → Prop} {D : Nat} {recs : List (List UInt8)} (h : DiskAt w base F D recs) : ∀ k, F k → base ≤ k ∧ k < w.heap.size := by
  obtain ⟨v, S, _, _, _, _, _, _, _, h8⟩ := h; exact h8
theorem turned_size {w w1 : World} {base : Nat} {F : Nat → Prop} {D : Nat} {recs : List (List UInt8)} (h : DiskTurned w base F D recs w1) : w.heap.size ≤ w1.heap.size := by
  obtain ⟨_, _, _, t⟩ := h; exact t.size
theorem own_turned {w w1 : World} {base : Nat} {F : Nat → Prop} {D : Nat} {recs : List (List UInt8)} {b' : Nat} {e : TypeId} {size : Nat} {v : Value} {n : Nat} {xs : List Value} (h : w.ownsRow b' e size v n xs) (ht : DiskTurned w base F D recs w1) (hn : ∀ g, v.ownBlock = some g → ¬ F g) : w1.ownsRow b' e size v n xs := by
  obtain ⟨_, _, _, t⟩ := ht; exact own_touch h t hn
theorem copies_slice {w w1 : World} {recs : List (List UInt8)} {v : Value} (h : CopiesRel w recs recs.length v w1) : SliceOf RText 1 w1 (fun k => w.heap.size ≤ k ∧ k < w1.heap.size) v recs := by
  obtain ⟨S1, c1, c2, c3, c4⟩ := h
  rw [List.take_length] at c1
  exact Owns.slice RText.kept (owns_text c1) c2 c1.lt

/-- What Copy gives back: a disk in new blocks. -/
def CopyEnd (w : World) (recs : List (List UInt8)) (e : Ending) (w' : World) : Prop :=
  ∃ D F, e = .returned (.pointer (some ⟨D, 0, none⟩)) ∧ DiskAt w' w.heap.size F D recs ∧ Below w.heap.size w w'
theorem copy_disk {w w1 : World} {recs : List (List UInt8)} {v1 : Value} (hc : CopiesRel w recs recs.length v1 w1) : DiskAt (w1.alloc (.cells #[v1] 38)) w.heap.size (fun k => w.heap.size ≤ k ∧ k < w1.heap.size + 1) w1.heap.size recs := by
  obtain ⟨S1, c1, c2, c3, c4⟩ := hc
  rw [List.take_length] at c1
  have hz := c4.size
  have hlt := c1.lt
  refine ⟨v1, S1, Blk.new w1 _ _, Owns.touch RText.kept (owns_text c1) (Touch.alloc (fun _ => False) w1 _) (fun _ _ g => g) (fun k hk => ⟨(c2 k hk).2, fun g => g⟩) (fun _ g => g), ?_, ?_, ?_, ?_, c3, ?_⟩
  · exact ⟨by omega, by omega⟩
  · intro k hk; have := c2 k hk; exact ⟨by omega, by omega⟩
  · intro k hk; have := hlt k hk; exact ⟨by omega, by omega⟩
  · intro hk; have := c2 _ hk; omega
  · intro k hk; simp; omega
set_option maxHeartbeats 400000 in
theorem copy_any {w : World} {base : Nat} {F : Nat → Prop} {D : Nat} {recs : List (List UInt8)} (h : DiskAt w base F D recs) (hl : recs.length ≤ 1000000000) (hl2 : ∀ r ∈ recs, r.length ≤ 1000000000) :
    Calls Try.prog 12 #[.pointer (some ⟨D, 0, none⟩)] w (CopyEnd w recs) := by
  obtain ⟨A, cap, hc, _, hs⟩ := h.slice
  have hF : ∀ k, F k → k < w.heap.size := fun k hk => (h.lt k hk).2
  have Hs := Lib.hid hs
  have HF := Lib.hid hF
  have Hl2 := Lib.hid hl2
  clear h hs hF hl2
  go_enter Try.func12, Try.ntmps12
  go_wp2_with (go_at_call 18; refine (copies_any _ recs F w Hs.out HF.out hl Hl2.out).mono ?_; rintro e w1 ⟨v1, rfl, hc1⟩; obtain ⟨A1, c1, rfl⟩ := copies_shape hc1; have Hc1 := Lib.hid hc1; clear hc1)
  go_ret
  exact ⟨_, _, rfl, copy_disk Hc1.out, (copies_below Hc1.out).alloc (copies_below Hc1.out).size _⟩

/-- same, where the disk has the records: true. -/
def SameEnd (w : World) (e : Ending) (w' : World) : Prop := e = .returned (.bool true) ∧ Below w.heap.size w w'
set_option maxHeartbeats 1000000 in
theorem same_any {w : World} {base : Nat} {F S : Nat → Prop} {D : Nat} {recs : List (List UInt8)} {m : Value} (h : DiskAt w base F D recs) (hm : SliceOf RText 1 w S m recs) (hS : ∀ k, S k → k < w.heap.size) (hl : recs.length ≤ 1000000000) (hl2 : ∀ r ∈ recs, r.length ≤ 1000000000) :
    Calls Try.prog 7 #[.pointer (some ⟨D, 0, none⟩), m] w (SameEnd w) := by
  have H := Lib.hid h
  have Hm := Lib.hid hm
  have HS := Lib.hid hS
  obtain ⟨A, cap, rfl, _, _, _⟩ := hm
  clear h hS
  go_enter Try.func7, Try.ntmps7
  go_wp2_with fail
  go_loop [5, 6] (fun n i => ∃ k : Nat, k ≤ recs.length ∧ i = .int .i64 k ∧ n = .int .i64 (bytesOf (recs.take k))) (fun _ i => recs.length - (intOf i).toNat)
  case atStart => exact ⟨0, Nat.zero_le _, rfl, rfl⟩
  case round =>
    obtain ⟨k, hk, rfl, rfl⟩ := hrel
    have hbd := bytesOf_le hl2 k
    by_cases hlt : k < recs.length
    · obtain ⟨r, hr⟩ : ∃ r, recs[k]? = some r := ⟨recs[k], List.getElem?_eq_getElem hlt⟩
      obtain ⟨b, off, rfl, _, cs, ⟨x, rfl, hx⟩, _, hcc⟩ := Hm.out.at hr
      obtain ⟨Ax, cx, rfl, _⟩ := hx
      have hcell : w.cell? ⟨b, off + k, none⟩ = some (.slice Ax r.length cx) := by simpa using hcc 0 _ rfl
      have hrl : r.length ≤ 1000000000 := hl2 r (List.mem_of_getElem? hr)
      have hst := Lib.hid (bytesOf_take hr)
      clear hcc hr hl2
      go_wp2_with fail
      go_round
      case rel => exact ⟨k + 1, by omega, by go_num, by rw [hst.out]; go_num⟩
      case measure => simp [intOf]; omega
    · obtain rfl : k = recs.length := by omega
      have Hl2 := Lib.hid hl2
      clear hl2
      go_wp2_with (first
        | (go_at_call 14; refine (len_any H.out).mono ?_; rintro e w' ⟨rfl, rfl⟩)
        | (go_at_call 15; refine (bytes_any H.out hl Hl2.out).mono ?_; rintro e w' ⟨rfl, rfl⟩)
        | (go_at_call 13; refine (all_any H.out hl Hl2.out).mono ?_; rintro e w1 ⟨v1, rfl, hc1⟩; have Hc1 := Lib.hid hc1; clear hc1)
        | (go_at_call 16; refine (lists_any v1 _ recs _ S w1 (copies_slice Hc1.out) (SliceOf.below RText.kept Hm.out (copies_below Hc1.out) HS.out (fun _ g => g))).mono ?_; rintro e w2 ⟨rfl, nq, rfl⟩))
      go_ret
      exact ⟨rfl, below_drewN (copies_below Hc1.out) _⟩
end Go.Proofs.Ytnjipfnkbfhliaa
