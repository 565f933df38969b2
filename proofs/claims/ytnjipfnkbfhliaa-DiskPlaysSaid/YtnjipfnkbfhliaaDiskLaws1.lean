/- The statements' own helper 'known', and the closed statement DiskNumbers: both return true. -/
import Derived.Test.YtnjipfnkbfhliaaDisk2
namespace Go.Proofs.Ytnjipfnkbfhliaa
open Go.RowKit

theorem size_alloc (w : World) (o : Obj) : (w.alloc o).heap.size = w.heap.size + 1 := by simp
theorem DiskAt.alloc {w : World} {base : Nat} {F : Nat → Prop} {D : Nat} {recs : List (List UInt8)} (h : DiskAt w base F D recs) (o : Obj) : DiskAt (w.alloc o) base F D recs :=
  h.below ((Below.refl _ _).alloc (Nat.le_refl _) o)
/-- A list of one or two texts that was just written out. -/
theorem texts_lit {w : World} {g : Nat} {S S' : Nat → Prop} {cs : Array Value} {l : List (List UInt8)} (hg : w.heap[g]? = some (.cells cs 30 (0, 0))) (hl : l.length ≤ 1000000000) (hcs : cs.toList.length = l.length) (hx : ∀ (i : Nat) (v : Value) (x : List UInt8), cs.toList[i]? = some v → l[i]? = some x → BytesAt w S v x) (hS : ∀ k, S k → S' k) (hgS : S' g) :
    SliceOf RText 1 w S' (.slice (some ⟨g, 0, none⟩) l.length l.length) l := by
  refine SliceOf.lit RText.kept (css := cs.toList.map fun v => [v]) (S := S) ⟨by rw [List.length_map]; exact hcs, fun i c x h1 h2 => ?_⟩ hg ?_ hl hS hgS
  · rw [List.getElem?_map] at h1
    obtain ⟨v, hv, rfl⟩ := Option.map_eq_some_iff.1 h1
    exact ⟨rfl, v, rfl, hx i v x hv h2⟩
  · induction cs.toList with
    | nil => rfl
    | cons a r ih => simp [ih]

set_option maxHeartbeats 1000000 in
theorem known_any (w : World) : Calls Try.prog 10 #[] w (SameEnd w) := by
  have d0 := (DiskAt.new w w.heap.size (Nat.le_refl _)).alloc (.cells #[.int .u8 97] 5 (1, 2))
  have b1 := bytes_lit (w.alloc (.cells #[.slice none 0 0] 38)) #[.int .u8 97] [97] (1, 2) rfl (by simp)
  rw [size_alloc] at b1
  have l1 : Below w.heap.size w ((w.alloc (.cells #[.slice none 0 0] 38)).alloc (.cells #[.int .u8 97] 5 (1, 2))) := ((Below.refl _ _).alloc (Nat.le_refl _) _).alloc (by simp) _
  have s1 : ∀ k, k = w.heap.size + 1 → k < ((w.alloc (.cells #[.slice none 0 0] 38)).alloc (.cells #[.int .u8 97] 5 (1, 2))).heap.size := fun k e => by subst e; simp
  have D0 := Lib.hid d0
  have B1 := Lib.hid b1
  have L1 := Lib.hid l1
  have S1 := Lib.hid s1
  clear d0 b1 l1 s1
  have kc := const_rule
  go_enter Try.func10, Try.ntmps10
  go_wp2_with (go_at_call 6; refine (new_any _).mono ?_; rintro e w' ⟨rfl, rfl⟩)
  refine (append_any D0.out (by simp; omega) B1.out S1.out (by simp) (by simp)).mono ?_
  rintro e w2 ⟨rfl, F2, d2, f2, t2⟩
  have l2 : Below w.heap.size w w2 := L1.out.trans (t2.below (fun k e => by omega) (by simp; omega))
  have d3 := ((d2.alloc (.cells #[.int .u8 98] 5 (1, 2))).alloc (.cells #[.int .u8 99] 5 (1, 2))).alloc (.cells #[.slice (some ⟨w2.heap.size, 0, none⟩) 1 1, .slice (some ⟨w2.heap.size + 1, 0, none⟩) 1 1] 30)
  have l3 := ((l2.alloc l2.size (.cells #[.int .u8 98] 5 (1, 2))).alloc (by have := l2.size; simp; omega) (.cells #[.int .u8 99] 5 (1, 2))).alloc (by have := l2.size; simp; omega) (.cells #[.slice (some ⟨w2.heap.size, 0, none⟩) 1 1, .slice (some ⟨w2.heap.size + 1, 0, none⟩) 1 1] 30)
  have m3 : SliceOf RText 1 (((w2.alloc (.cells #[.int .u8 98] 5 (1, 2))).alloc (.cells #[.int .u8 99] 5 (1, 2))).alloc (.cells #[.slice (some ⟨w2.heap.size, 0, none⟩) 1 1, .slice (some ⟨w2.heap.size + 1, 0, none⟩) 1 1] 30)) (fun k => k < w2.heap.size + 3) (.slice (some ⟨w2.heap.size + 2, 0, none⟩) 2 2) [[98], [99]] := by
    have h1 := bytes_lit w2 #[.int .u8 98] [98] (1, 2) rfl (by simp)
    have h2 := bytes_lit (w2.alloc (.cells #[.int .u8 98] 5 (1, 2))) #[.int .u8 99] [99] (1, 2) rfl (by simp)
    rw [size_alloc] at h2
    have h1' := SliceOf.below RByte.kept (SliceOf.below RByte.kept h1 ((Below.refl _ _).alloc (Nat.le_refl _) (.cells #[.int .u8 99] 5 (1, 2))) (fun k e => by subst e; simp) (fun _ g => g)) ((Below.refl _ _).alloc (Nat.le_refl _) (.cells #[.slice (some ⟨w2.heap.size, 0, none⟩) 1 1, .slice (some ⟨w2.heap.size + 1, 0, none⟩) 1 1] 30)) (fun k e => by subst e; simp <;> omega) (S' := fun k => k < w2.heap.size + 2) (fun k e => by subst e; omega)
    have h2' := SliceOf.below RByte.kept h2 ((Below.refl _ _).alloc (Nat.le_refl _) (.cells #[.slice (some ⟨w2.heap.size, 0, none⟩) 1 1, .slice (some ⟨w2.heap.size + 1, 0, none⟩) 1 1] 30)) (fun k e => by subst e; simp <;> omega) (S' := fun k => k < w2.heap.size + 2) (fun k e => by subst e; omega)
    refine texts_lit (S := fun k => k < w2.heap.size + 2) (cs := #[.slice (some ⟨w2.heap.size, 0, none⟩) 1 1, .slice (some ⟨w2.heap.size + 1, 0, none⟩) 1 1]) (l := [[98], [99]]) ?_ (by simp) rfl (fun i v x h3 h4 => ?_) (fun k e => by omega) (by omega)
    · have := heap_alloc_new ((w2.alloc (.cells #[.int .u8 98] 5 (1, 2))).alloc (.cells #[.int .u8 99] 5 (1, 2))) (.cells #[.slice (some ⟨w2.heap.size, 0, none⟩) 1 1, .slice (some ⟨w2.heap.size + 1, 0, none⟩) 1 1] 30)
      simpa using this
    · match i with
      | 0 => simp at h3 h4; subst h3 h4; exact h1'
      | 1 => simp at h3 h4; subst h3 h4; exact h2'
      | k + 2 => simp at h4
  have D3 := Lib.hid d3
  have L3 := Lib.hid l3
  have M3 := Lib.hid m3
  clear d2 f2 t2 l2 d3 l3 m3 D0 B1 L1 S1
  go_wp2_with fail
  refine (replace_any D3.out (by have := L3.out.size; simpa using this) M3.out (by intro k e; simp; omega) (by simp) (by intro r hr; simp at hr; rcases hr with rfl | rfl <;> simp)).mono ?_
  rintro e w4 ⟨rfl, F4, d4, f4, t4⟩
  have l4 : Below w.heap.size w w4 := L3.out.trans (t4.below (fun k e => ((D3.out).lt k e).1) (by have := L3.out.size; exact this))
  have D4 := Lib.hid d4
  have L4 := Lib.hid l4
  clear d4 f4 t4 l4 D3 L3 M3
  go_wp2_with (first
    | (go_at_call 14; refine (len_any D4.out).mono ?_; rintro e w' ⟨rfl, rfl⟩)
    | (go_at_call 15; refine (bytes_any D4.out (by simp) (by intro r hr; simp at hr; rcases hr with rfl | rfl <;> simp)).mono ?_; rintro e w' ⟨rfl, rfl⟩))
  go_ret
  exact ⟨rfl, L4.out⟩

theorem nil_list (w : World) (S : Nat → Prop) : SliceOf RText 1 w S (.slice none 0 0) [] := SliceOf.nil RText 1 w S
set_option maxHeartbeats 1000000 in
theorem numbers_any (w : World) : Calls Try.prog 3 #[] w (SameEnd w) := by
  have d0 := DiskAt.new w w.heap.size (Nat.le_refl _)
  have l0 : Below w.heap.size w (w.alloc (.cells #[.slice none 0 0] 38)) := (Below.refl _ _).alloc (Nat.le_refl _) _
  have D0 := Lib.hid d0
  have L0 := Lib.hid l0
  clear d0 l0
  go_enter Try.func3, Try.ntmps3
  go_wp2_with (go_at_call 6; refine (new_any _).mono ?_; rintro e w' ⟨rfl, rfl⟩)
  refine (same_any (S := fun _ => False) D0.out (nil_list _ _) (fun _ g => g.elim) (by simp) (by simp)).mono ?_
  rintro e w1 ⟨rfl, b1⟩
  have d1 := D0.out.below b1
  have l1 := L0.out.trans (b1.mono L0.out.size)
  have D1 := Lib.hid d1
  have L1 := Lib.hid l1
  clear d1 l1 b1 D0 L0
  go_wp2_with fail
  refine (append_any (S := fun _ => False) (l := []) D1.out L1.out.size (SliceOf.nil RByte 1 _ _) (fun _ g => g.elim) (by simp) (by simp)).mono ?_
  rintro e w2 ⟨rfl, F2, d2, f2, t2⟩
  have l2 : Below w.heap.size w w2 := L1.out.trans (t2.below (fun k e => (D1.out.lt k e).1) L1.out.size)
  have d2' := d2.alloc (.cells #[.slice none 0 0] 30)
  have l2' := l2.alloc l2.size (.cells #[.slice none 0 0] 30)
  have m2 : SliceOf RText 1 (w2.alloc (.cells #[.slice none 0 0] 30)) (fun k => k = w2.heap.size) (.slice (some ⟨w2.heap.size, 0, none⟩) 1 1) [[]] := by
    refine texts_lit (S := fun _ => False) (l := [[]]) (heap_alloc_new w2 _) (by simp) rfl (fun i v x h3 h4 => ?_) (fun _ g => g.elim) rfl
    match i with
    | 0 => simp at h3 h4; subst h3 h4; exact SliceOf.nil RByte 1 _ _
    | k + 1 => simp at h4
  have D2 := Lib.hid d2'
  have L2 := Lib.hid l2'
  have M2 := Lib.hid m2
  clear d2 f2 t2 l2 d2' l2' m2 D1 L1
  go_wp2_with fail
  refine (same_any D2.out M2.out (by rintro k rfl; simp) (by simp) (by intro r hr; simp at hr; subst hr; simp)).mono ?_
  rintro e w3 ⟨rfl, b3⟩
  have d3 := D2.out.below b3
  have l3 := L2.out.trans (b3.mono L2.out.size)
  have D3 := Lib.hid d3
  have L3 := Lib.hid l3
  clear d3 l3 b3 D2 L2 M2
  go_wp2_with fail
  refine (replace_any (S := fun _ => False) D3.out L3.out.size (nil_list _ _) (fun _ g => g.elim) (by simp) (by simp)).mono ?_
  rintro e w4 ⟨rfl, F4, d4, f4, t4⟩
  have l4 : Below w.heap.size w w4 := L3.out.trans (t4.below (fun k e => ((D3.out).lt k e).1) L3.out.size)
  have D4 := Lib.hid d4
  have L4 := Lib.hid l4
  clear d4 f4 t4 l4 D3 L3
  go_wp2_with fail
  refine (same_any (S := fun _ => False) D4.out (nil_list _ _) (fun _ g => g.elim) (by simp) (by simp)).mono ?_
  rintro e w5 ⟨rfl, b5⟩
  have l5 := L4.out.trans (b5.mono L4.out.size)
  have L5 := Lib.hid l5
  clear l5 b5 D4 L4
  go_wp2_with (go_at_call 10; refine (known_any _).mono ?_; rintro e w6 ⟨rfl, b6⟩; have B6 := Lib.hid b6; clear b6)
  go_ret
  exact ⟨rfl, L5.out.trans (B6.out.mono L5.out.size)⟩
end Go.Proofs.Ytnjipfnkbfhliaa
