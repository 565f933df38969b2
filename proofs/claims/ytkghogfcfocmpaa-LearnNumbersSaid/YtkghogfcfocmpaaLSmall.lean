/- Small contracts of chapter 19: sizes of groups, lists of numbers, who is found. -/
import Derived.Test.YtkghogfcfocmpaaLMem2
namespace Go.Proofs.Ytkghogfcfocmpaa
open Go.RowKit

def isRight (n : Int) : Bool := decide (n = 1 ∨ n = 3 ∨ n = 5)
set_option maxHeartbeats 400000 in
theorem right_any (n : Int) (w : World) : Calls Try.prog 16 #[.int .i64 n] w fun e w' => e = .returned (.bool (isRight n)) ∧ w = w' := by
  by_cases h1 : n = 1
  · subst h1
    go_enter Try.func16, Try.ntmps16
    go_wp2
    go_ret
    exact ⟨rfl, rfl⟩
  · have e1 : (n == 1) = false := by rw [beq_eq_false_iff_ne]; exact h1
    by_cases h3 : n = 3
    · subst h3
      clear h1
      go_enter Try.func16, Try.ntmps16
      go_wp2
      go_ret
      exact ⟨rfl, rfl⟩
    · have e3 : (n == 3) = false := by rw [beq_eq_false_iff_ne]; exact h3
      by_cases h5 : n = 5
      · subst h5
        clear h1 h3
        go_enter Try.func16, Try.ntmps16
        go_wp2
        go_ret
        exact ⟨rfl, rfl⟩
      · have e5 : (n == 5) = false := by rw [beq_eq_false_iff_ne]; exact h5
        have hr : isRight n = false := by unfold isRight; rw [decide_eq_false_iff_not]; omega
        clear h1 h3 h5
        go_enter Try.func16, Try.ntmps16
        go_wp2
        go_ret
        exact ⟨by rw [hr]; rfl, rfl⟩
set_option maxHeartbeats 400000 in
theorem quorum_any (n : Int) (w : World) (hn : isRight n = true) : Calls Try.prog 21 #[.int .i64 n] w fun e w' => e = .returned (.int .i64 (n / 2 + 1)) ∧ w = w' := by
  have hn2 : n = 1 ∨ n = 3 ∨ n = 5 := by unfold isRight at hn; exact of_decide_eq_true hn
  go_enter Try.func21, Try.ntmps21
  go_wp2_with fail
  refine (right_any n w).mono ?_
  rintro e w' ⟨rfl, rfl⟩
  rw [hn]
  rcases hn2 with rfl | rfl | rfl
  all_goals
    clear hn
    go_wp2_with fail
    go_ret
    exact ⟨rfl, rfl⟩
set_option maxHeartbeats 400000 in
theorem new_ok (n : Int) (w : World) (hn : isRight n = true) : Calls Try.prog 8 #[.int .i64 n] w fun e w' => e = .returned (.pointer (some ⟨w.heap.size, 0, none⟩)) ∧ w.alloc (.cells #[.int .i64 n, .int .i64 0, .slice none 0 0, .slice none 0 0] 50) = w' := by
  go_enter Try.func8, Try.ntmps8
  go_wp2_with fail
  refine (right_any n w).mono ?_
  rintro e w' ⟨rfl, rfl⟩
  rw [hn]
  go_wp2_with fail
  go_ret
  exact ⟨rfl, rfl⟩
set_option maxHeartbeats 400000 in
theorem new_bad (n : Int) (w : World) (hn : isRight n = false) : Calls Try.prog 8 #[.int .i64 n] w fun e w' => e = .returned (.pointer none) ∧ w = w' := by
  go_enter Try.func8, Try.ntmps8
  go_wp2_with fail
  refine (right_any n w).mono ?_
  rintro e w' ⟨rfl, rfl⟩
  rw [hn]
  go_wp2_with fail
  go_ret
  exact ⟨rfl, rfl⟩

/-- slices.Index at whole numbers: -1, or the place. -/
def IdxEnd (l : List Int) (x : Int) (w : World) (e : Ending) (w' : World) : Prop := ∃ i : Int, e = .returned (.int .i64 i) ∧ (0 ≤ i ↔ x ∈ l) ∧ w = w'
set_option maxHeartbeats 1000000 in
theorem index_any (l : List Int) (x : Int) (fv : Value) (base : Nat) (w : World) (h : w.ownsRow base 3 1 fv l.length (l.map intV)) (hl : l.length ≤ 1000000000) : Calls Try.prog 28 #[fv, .int .i64 x] w (IdxEnd l x w) := by
  obtain ⟨A, c, rfl⟩ := own_shape h
  have H := Lib.hid h
  clear h
  go_enter Try.func28, Try.ntmps28
  go_wp2_with fail
  go_loop [8] (fun i => ∃ k : Nat, k ≤ l.length ∧ i = .int .i64 k ∧ Hid (x ∉ l.take k)) (fun i => l.length - (intOf i).toNat)
  case atStart => exact ⟨0, Nat.zero_le _, rfl, Lib.hid (by simp)⟩
  case round =>
    obtain ⟨k, hk, rfl, hx⟩ := hrel
    by_cases hlt : k < l.length
    · obtain ⟨y, hy⟩ : ∃ y, l[k]? = some y := ⟨l[k], List.getElem?_eq_getElem hlt⟩
      obtain ⟨b, off, rfl, hc⟩ := own_src H.out (by omega)
      have hcell : w.cell? ⟨b, off + k, none⟩ = some (.int .i64 y) := hc k _ (by rw [List.getElem?_map, hy]; rfl)
      have hmore : l.take (k + 1) = l.take k ++ [y] := by rw [List.take_add_one, hy]; rfl
      have hmem := List.mem_of_getElem? hy
      have g1 : (k : Int) < l.length := by omega
      have g2 : (0 : Int) ≤ k := by omega
      have Hmore := Lib.hid hmore
      have Hmem := Lib.hid hmem
      clear hc hy hmore hmem
      by_cases hxy : x = y
      · have e1 : (x == y) = true := by rw [beq_iff_eq]; exact hxy
        have Hxy := Lib.hid hxy
        clear hxy
        go_wp2_with fail
        go_ret
        exact ⟨k, rfl, ⟨fun _ => by rw [Hxy.out]; exact Hmem.out, fun _ => by omega⟩, rfl⟩
      · have e1 : (x == y) = false := by rw [beq_eq_false_iff_ne]; exact hxy
        have Hxy := Lib.hid hxy
        clear hxy
        go_wp2_with fail
        go_round
        case rel => exact ⟨k + 1, by omega, by go_num, Lib.hid (by rw [Hmore.out]; intro hm; rcases List.mem_append.1 hm with e | e; exact hx.out e; simp at e; exact Hxy.out e)⟩
        case measure => simp [intOf]; omega
    · have g1 : ¬ (k : Int) < l.length := by omega
      have hkl : x ∉ l := by have := hx.out; rwa [List.take_of_length_le (by omega)] at this
      have Hkl := Lib.hid hkl
      clear hkl hx
      go_wp2_with fail
      go_ret
      exact ⟨-1, rfl, ⟨fun h => by omega, fun h => absurd h Hkl.out⟩, rfl⟩
set_option maxHeartbeats 400000 in
theorem contains_any (l : List Int) (x : Int) (fv : Value) (base : Nat) (w : World) (h : w.ownsRow base 3 1 fv l.length (l.map intV)) (hl : l.length ≤ 1000000000) : Calls Try.prog 20 #[fv, .int .i64 x] w fun e w' => e = .returned (.bool (decide (x ∈ l))) ∧ w = w' := by
  have hc := index_any l x fv base w h hl
  go_enter Try.func20, Try.ntmps20
  go_wp2_with fail
  refine hc.mono ?_
  rintro e w' ⟨i, rfl, hi, rfl⟩
  go_wp2_with fail
  go_ret
  exact ⟨by rw [show decide (x ∈ l) = decide (0 ≤ i) from by rw [decide_eq_decide]; exact hi.symm]; rfl, rfl⟩
end Go.Proofs.Ytkghogfcfocmpaa
