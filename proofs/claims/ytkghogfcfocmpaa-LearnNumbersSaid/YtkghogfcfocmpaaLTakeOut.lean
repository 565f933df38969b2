/- Take, of a vote out of its bounds. -/
import Derived.Test.YtkghogfcfocmpaaLIndex
namespace Go.Proofs.Ytkghogfcfocmpaa
open Go.RowKit

def InReach (n low slot b src : Int) : Prop := low ≤ slot ∧ slot < low + 32 ∧ 0 ≤ b ∧ b ≤ 1073741824 ∧ 0 ≤ src ∧ src < n
set_option maxRecDepth 100000 in
set_option maxHeartbeats 2000000 in
theorem take_out {w : World} {base : Nat} {tag : Nat → Nat} {D : Nat} {n low : Int} {ts : List TallyT} {ds : List Nat} {lv dv : Value} (slot b src : Int) (vv : Value) (h : LearnAt w base tag D n low ts ds lv dv) (hlow : 0 ≤ low) (hlow2 : low ≤ 1073741824) (ho : ¬ InReach n low slot b src) :
    Calls Try.prog 9 #[.pointer (some ⟨D, 0, none⟩), .int .i64 slot, .int .i64 b, .int .i64 src, vv] w fun e w' => e = .returned (.bool false) ∧ Below w.heap.size w w' := by
  obtain ⟨W0, hW0⟩ : ∃ W0, W0 = (w.alloc (.cells #[.int .i64 slot] 3)).alloc (.cells #[.int .i64 b] 3) := ⟨_, rfl⟩
  have hbW : Below w.heap.size w W0 := by rw [hW0]; exact ((Below.refl w.heap.size w).alloc (Nat.le_refl _) _).alloc (by simp) _
  have c1 : W0.cell? ⟨w.heap.size, 0, none⟩ = some (.int .i64 slot) := by rw [hW0]; exact ((Blk.new w 3 #[.int .i64 slot]).alloc _).cell 0
  have c2 : W0.cell? ⟨w.heap.size + 1, 0, none⟩ = some (.int .i64 b) := by
    rw [hW0]
    have := (Blk.new (w.alloc (.cells #[.int .i64 slot] 3)) 3 #[.int .i64 b]).cell 0
    rwa [World.size_alloc] at this
  have hn := h.below hbW
  have k0 : W0.cell? ⟨D, 0, none⟩ = some (.int .i64 n) := hn.blk.cell 0
  have k1 : W0.cell? ⟨D, 1, none⟩ = some (.int .i64 low) := hn.blk.cell 1
  have HW0 := Lib.hid hW0
  have Hend : Hid (∀ q, Below w.heap.size w (W0.drewN q)) := Lib.hid (fun q => below_drewN hbW q)
  have Ho := Lib.hid ho
  clear h hn hbW hW0 ho
  by_cases q1 : slot < low
  · have d1 : decide (slot < low) = true := decide_eq_true q1
    clear q1
    go_enter Try.func9, Try.ntmps9
    go_wp2_with fail
    rw [← HW0.out]
    go_quiet (fail)
    go_wp2_with fail
    go_ret
    exact ⟨rfl, Hend.out _⟩
  · have d1 : decide (slot < low) = false := decide_eq_false q1
    by_cases q2 : low + 32 ≤ slot
    · have d2 : decide (low + 32 ≤ slot) = true := decide_eq_true q2
      clear q2
      go_enter Try.func9, Try.ntmps9
      go_wp2_with fail
      rw [← HW0.out]
      go_quiet (fail)
      go_wp2_with fail
      go_ret
      exact ⟨rfl, Hend.out _⟩
    · have d2 : decide (low + 32 ≤ slot) = false := decide_eq_false q2
      by_cases q3 : b < 0
      · have d3 : decide (b < 0) = true := decide_eq_true q3
        clear q3
        go_enter Try.func9, Try.ntmps9
        go_wp2_with fail
        rw [← HW0.out]
        go_quiet (fail)
        go_wp2_with fail
        go_ret
        exact ⟨rfl, Hend.out _⟩
      · have d3 : decide (b < 0) = false := decide_eq_false q3
        by_cases q4 : 1073741824 < b
        · have d4 : decide (1073741824 < b) = true := decide_eq_true q4
          clear q4
          go_enter Try.func9, Try.ntmps9
          go_wp2_with fail
          rw [← HW0.out]
          go_quiet (fail)
          go_wp2_with fail
          go_ret
          exact ⟨rfl, Hend.out _⟩
        · have d4 : decide (1073741824 < b) = false := decide_eq_false q4
          by_cases q5 : src < 0
          · have d5 : decide (src < 0) = true := decide_eq_true q5
            clear q5
            go_enter Try.func9, Try.ntmps9
            go_wp2_with fail
            rw [← HW0.out]
            go_quiet (fail)
            go_wp2_with fail
            go_ret
            exact ⟨rfl, Hend.out _⟩
          · have d5 : decide (src < 0) = false := decide_eq_false q5
            have q6 : n ≤ src := by have := Ho.out; unfold InReach at this; omega
            have d6 : decide (n ≤ src) = true := decide_eq_true q6
            clear q6
            go_enter Try.func9, Try.ntmps9
            go_wp2_with fail
            rw [← HW0.out]
            go_quiet (fail)
            go_wp2_with fail
            go_ret
            exact ⟨rfl, Hend.out _⟩
end Go.Proofs.Ytkghogfcfocmpaa
