/- Send without room, Double, Take. -/
import Derived.Test.YtelgnemlnhcdmaaNNet
namespace Go.Proofs.Ytelgnemlnhcdmaa
open Go.RowKit

set_option maxHeartbeats 1000000 in
theorem send_full {w : World} {base : Nat} {F : Nat → Prop} {D : Nat} {room : Int} {ms : List MsgT} (x : MsgT) (bv lv : Value) (h : NetAt w base F D room ms) (hr : ¬ (ms.length : Int) < room) :
    Calls Try.prog 7 #[.pointer (some ⟨D, 0, none⟩), .agg (msgCells x bv lv)] w fun e w' => e = .returned (.bool false) ∧ NetTurned w base F D room ms w' := by
  obtain ⟨W0, hW0⟩ : ∃ W0, W0 = w.alloc (.cells (msgCells x bv lv) 31) := ⟨_, rfl⟩
  have hbW : Below w.heap.size w W0 := by rw [hW0]; exact (Below.refl w.heap.size w).alloc (Nat.le_refl _) _
  have hn := h.below hbW
  obtain ⟨A, cap, k0, k1, _, _⟩ := hn.slice
  have Hend : Hid (∀ q, NetTurned w base F D room ms (W0.drewN q)) := fun q => ⟨F, hn.touch (Touch.drewN (fun _ => False) W0 q) (fun _ _ g => g), fun _ h => .inl h, (Touch.of_below hbW F).trans (Touch.drewN _ _ _) (fun _ _ h => h)⟩
  have HW0 := Lib.hid hW0
  clear hW0 h hn hbW
  go_enter Try.func7, Try.ntmps7
  go_wp2_with fail
  rw [← HW0.out]
  go_quiet (fail)
  go_wp2_with fail
  go_ret
  exact ⟨rfl, Hend.out _⟩

theorem RowsOf.erase {α : Type} {R : Rep α} {size : Nat} {w : World} {S : Nat → Prop} {css : List (List Value)} {l : List α} (h : RowsOf R size w S css l) (i : Nat) : RowsOf R size w S (css.eraseIdx i) (l.eraseIdx i) := by
  obtain ⟨h1, h2⟩ := h
  refine ⟨by rw [List.length_eraseIdx, List.length_eraseIdx, h1], fun j cs x a b => ?_⟩
  rw [List.getElem?_eraseIdx] at a b
  split at a
  · rename_i hj
    rw [if_pos hj] at b
    exact h2 j cs x a b
  · rename_i hj
    rw [if_neg hj] at b
    exact h2 (j + 1) cs x a b
theorem RowsOf.msg_one {w : World} {S : Nat → Prop} {css : List (List Value)} {l : List MsgT} (h : RowsOf RMsg 10 w S css l) : ∀ u ∈ css.flatten, u.oneCell' = true := by
  intro u hu
  obtain ⟨cs, hcs, hu⟩ := List.mem_flatten.1 hu
  obtain ⟨i, hi⟩ := List.mem_iff_getElem?.1 hcs
  have hil : i < l.length := by rw [← h.1]; exact (List.getElem?_eq_some_iff.1 hi).1
  obtain ⟨_, bv, lv, rfl, hb, hl⟩ := h.2 i cs l[i] hi (List.getElem?_eq_getElem hil)
  simp at hu
  rcases hu with rfl | rfl | rfl | rfl | rfl | rfl | rfl | rfl | rfl | rfl
  all_goals first | rfl | exact slice_one hb | exact slice_one hl
theorem results_cell_tmp_row {P : Program} {fn : Func} {p u : Tmp} {ty : TypeId} (h : fn.results = #[.cell p ty, .tmp u]) (tmps : Array Value) (w : World) (g : Nat) (t : TypeId) (cs : Array Value) (fr : Nat × Nat) (d : TypeDesc) (x : Value)
    (hp : tmps.getD p undef = .pointer (some ⟨g, 0, none⟩)) (hx : tmps.getD u undef = x) (hg : w.heap[g]? = some (.cells cs t fr))
    (hu : P.underlying ty = some d) (hd : (match d with | .struct _ | .array _ _ => true | _ => false) = true) (hi : (P.info? ty).map (·.size) = some cs.size) :
    (results fn tmps).run P w = .ok (.tuple #[.agg cs, x]) w := by
  rw [results_cell_tmp h, hp, hx]
  simp [asAddr, run_loadVar_row w g t ty cs fr d hg hu hd hi]

set_option maxHeartbeats 1000000 in
theorem double_no {w : World} {base : Nat} {F : Nat → Prop} {D : Nat} {room : Int} {ms : List MsgT} (i : Int) (h : NetAt w base F D room ms) (hi : ¬ (0 ≤ i ∧ i < ms.length)) :
    Calls Try.prog 9 #[.pointer (some ⟨D, 0, none⟩), .int .i64 i] w fun e w' => e = .returned (.bool false) ∧ w = w' := by
  obtain ⟨A, cap, k0, k1, _, _⟩ := h.slice
  clear h
  rcases Int.lt_or_le i 0 with h0 | h0
  · have h0' : ¬ (0 : Int) ≤ i := by omega
    clear hi
    go_enter Try.func9, Try.ntmps9
    go_wp2_with fail
    go_ret
    exact ⟨rfl, rfl⟩
  · have h1 : ¬ i < (ms.length : Int) := by omega
    clear hi
    go_enter Try.func9, Try.ntmps9
    go_wp2_with fail
    go_ret
    exact ⟨rfl, rfl⟩
set_option maxHeartbeats 1000000 in
theorem double_at {w : World} {base : Nat} {F : Nat → Prop} {D : Nat} {room : Int} {ms : List MsgT} {x : MsgT} (k : Nat) (h : NetAt w base F D room ms) (hx : ms[k]? = some x) (hr2 : room ≤ 1000) (hsm : Smalls ms) :
    Calls Try.prog 9 #[.pointer (some ⟨D, 0, none⟩), .int .i64 k] w fun e w' => e = .returned (.bool (decide ((ms.length : Int) < room))) ∧ NetTurned w base F D room (if (ms.length : Int) < room then ms ++ [x] else ms) w' := by
  obtain ⟨A, cap, k0, k1, hml, hs⟩ := h.slice
  have hF := h.lt
  have hk : k < ms.length := (List.getElem?_eq_some_iff.1 hx).1
  have hxs := hsm x (List.mem_of_getElem? hx)
  obtain ⟨gb, off, rfl, hgS, cs, ⟨bv, lv, rfl, hb, hl⟩, _, hcc⟩ := hs.at hx
  have hcall : ∀ (h : NetAt w base F D room ms), Calls Try.prog 7 #[.pointer (some ⟨D, 0, none⟩), .agg (msgCells x bv lv)] w fun e w' => e = .returned (.bool (decide ((ms.length : Int) < room))) ∧ NetTurned w base F D room (if (ms.length : Int) < room then ms ++ [x] else ms) w' := fun h => by
    by_cases hr : (ms.length : Int) < room
    · rw [decide_eq_true hr, if_pos hr]
      exact send_ok x bv lv F h hr hr2 hb hl (fun k hk => (hF.2 k hk).2) hxs
    · rw [decide_eq_false hr, if_neg hr]
      exact send_full x bv lv h hr
  have hcall := hcall h
  generalize (if (ms.length : Int) < room then ms ++ [x] else ms) = out at *
  generalize decide ((ms.length : Int) < room) = bo at *
  obtain ⟨mk, mg, ms', md, mb, mt, mc, mq, b, l⟩ := x
  simp only at hb hl hcc
  obtain ⟨Ab, cb', rfl⟩ := slice_shape hb
  obtain ⟨Al, cl', rfl⟩ := slice_shape hl
  have hml' : ms.length ≤ 9223372036854775807 := by unfold maxLen at hml; omega
  have hk' : (k : Int) < ms.length := by omega
  have p0 : w.cell? ⟨gb, off + k * 10, none⟩ = some (.int .i64 mk) := by simpa [Nat.add_assoc] using hcc 0 _ rfl
  have p1 : w.cell? ⟨gb, off + k * 10 + 1, none⟩ = some (.int .i64 mg) := by simpa [Nat.add_assoc] using hcc 1 _ rfl
  have p2 : w.cell? ⟨gb, off + k * 10 + 2, none⟩ = some (.int .i64 ms') := by simpa [Nat.add_assoc] using hcc 2 _ rfl
  have p3 : w.cell? ⟨gb, off + k * 10 + 3, none⟩ = some (.int .i64 md) := by simpa [Nat.add_assoc] using hcc 3 _ rfl
  have p4 : w.cell? ⟨gb, off + k * 10 + 4, none⟩ = some (.int .i64 mb) := by simpa [Nat.add_assoc] using hcc 4 _ rfl
  have p5 : w.cell? ⟨gb, off + k * 10 + 5, none⟩ = some (.int .i64 mt) := by simpa [Nat.add_assoc] using hcc 5 _ rfl
  have p6 : w.cell? ⟨gb, off + k * 10 + 6, none⟩ = some (.int .i64 mc) := by simpa [Nat.add_assoc] using hcc 6 _ rfl
  have p7 : w.cell? ⟨gb, off + k * 10 + 7, none⟩ = some (.int .i64 mq) := by simpa [Nat.add_assoc] using hcc 7 _ rfl
  have p8 : w.cell? ⟨gb, off + k * 10 + 8, none⟩ = some (.slice Ab b.length cb') := by simpa [Nat.add_assoc] using hcc 8 _ rfl
  have p9 : w.cell? ⟨gb, off + k * 10 + 9, none⟩ = some (.slice Al l.length cl') := by simpa [Nat.add_assoc] using hcc 9 _ rfl
  have Hcall := Lib.hid hcall
  clear h hs hx hxs hb hl hcc hcall hsm hF hml
  go_enter Try.func9, Try.ntmps9
  go_wp2_with fail
  refine Hcall.out.mono ?_
  rintro e w' ⟨rfl, ht⟩
  have Ht := Lib.hid ht
  clear ht
  go_wp2_with fail
  go_ret
  exact ⟨rfl, Ht.out⟩
end Go.Proofs.Ytelgnemlnhcdmaa
