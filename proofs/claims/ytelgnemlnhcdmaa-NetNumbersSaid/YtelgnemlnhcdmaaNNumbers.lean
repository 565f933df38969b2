/- The walk of the closed statement NetNumbers: it returns true. -/
import Derived.Test.YtelgnemlnhcdmaaNPlay
namespace Go.Proofs.Ytelgnemlnhcdmaa
open Go.RowKit

theorem ask_info : (Try.prog.info? 41).map (fun i => (i.zero, i.size, i.bytes)) = some (some (.agg #[.int .i64 0, .int .i64 0, .int .i64 0, .int .i64 0, .int .i64 0, .int .i64 0, .int .i64 0, .int .i64 0, .int .i64 0, .int .i64 0, .slice none 0 0, .slice none 0 0]), 12, 128) := by kernel_rfl
theorem five_vals (k : Nat) (h : k < 5) : ∃ n : Int, (#[.int .i64 (-1), .int .i64 0, .int .i64 1, .int .i64 512, .int .i64 513] : Array Value)[k]? = some (.int .i64 n) ∧ -1 ≤ n ∧ n ≤ 513 := by
  match k, h with
  | 0, _ => exact ⟨-1, rfl, by omega, by omega⟩
  | 1, _ => exact ⟨0, rfl, by omega, by omega⟩
  | 2, _ => exact ⟨1, rfl, by omega, by omega⟩
  | 3, _ => exact ⟨512, rfl, by omega, by omega⟩
  | 4, _ => exact ⟨513, rfl, by omega, by omega⟩

set_option maxRecDepth 100000 in
set_option maxHeartbeats 4000000 in
theorem numbers_any (w : World) : Calls Try.prog 4 #[] w (SameEnd w) := by
  obtain ⟨W1, hW1⟩ : ∃ W1, W1 = w.alloc (.cells #[.int .i64 (-1), .int .i64 0, .int .i64 1, .int .i64 512, .int .i64 513] 3) := ⟨_, rfl⟩
  have hb1 : Below w.heap.size w W1 := by rw [hW1]; exact (Below.refl w.heap.size w).alloc (Nat.le_refl _) _
  have hL : Blk W1 w.heap.size 3 #[.int .i64 (-1), .int .i64 0, .int .i64 1, .int .i64 512, .int .i64 513] := by rw [hW1]; exact Blk.new w _ _
  have hsz : w.heap.size < W1.heap.size := by rw [hW1]; simp
  have HW1 := Lib.hid hW1
  have Hb1 := Lib.hid hb1
  have HL := Lib.hid hL
  clear hW1 hb1 hL
  go_enter Try.func4, Try.ntmps4
  go_wp2_with fail
  rw [← HW1.out]
  go_loopw [10] (fun i wr => ∃ k : Nat, k ≤ 5 ∧ i = .int .i64 k ∧ Below W1.heap.size W1 wr) (fun i _ => 5 - (intOf i).toNat)
  case atStart => exact ⟨0, by omega, rfl, Below.refl _ _⟩
  case round =>
    obtain ⟨k, hk, rfl, hbb⟩ := hrel
    by_cases hlt : k < 5
    · have g1 : (k : Int) < 5 := by omega
      have g2 : (0 : Int) ≤ k := by omega
      obtain ⟨n, hn, hn1, hn2⟩ := five_vals k hlt
      have hc : wr.cell? ⟨w.heap.size, k, none⟩ = some (.int .i64 n) := ((HL.out.below hbb hsz).cell k).trans hn
      have Hbb := Lib.hid hbb
      clear hn hbb
      by_cases h1 : 1 ≤ n ∧ n ≤ 512
      · obtain ⟨h1, h2⟩ := h1
        go_wp2_with fail
        refine (new_ok n wr h1 h2).mono ?_
        rintro e w1 ⟨rfl, rfl⟩
        go_wp2_with fail
        go_roundw
        case rel => exact ⟨k + 1, by omega, by go_num, Hbb.out.alloc Hbb.out.size _⟩
        case measure => simp [intOf]; omega
      · have Hh := Lib.hid h1
        rcases Int.lt_or_le n 1 with h0 | h0
        all_goals
          have h3 := Hh.out
          try have h4 : ¬ n ≤ 512 := by omega
          try have h4 : ¬ 1 ≤ n := by omega
          clear h3 h1
          go_wp2_with fail
          refine (new_bad n wr Hh.out).mono ?_
          rintro e w1 ⟨rfl, rfl⟩
          go_wp2_with fail
          go_roundw
          case rel => exact ⟨k + 1, by omega, by go_num, Hbb.out⟩
          case measure => simp [intOf]; omega
    · have g1 : ¬ (k : Int) < 5 := by omega
      have hbw := Hb1.out.trans (hbb.mono (by omega))
      have Hbw := Lib.hid hbw
      clear hbb hbw HL Hb1 HW1
      obtain ⟨W2, rfl⟩ : ∃ W2 : World, W2 = wr := ⟨_, rfl⟩
      go_wp2_with fail
      go_loopw [6, 7] (fun ov i wr => ∃ k : Nat, k ≤ 60 ∧ i = .int .i64 k ∧ ∃ l : List AskT, l.length = k ∧ (∀ a ∈ l, VotesOk a.m) ∧ OutRow RAsk 12 41 W2 l ov wr) (fun _ i _ => 60 - (intOf i).toNat)
      case atStart => exact ⟨0, by omega, rfl, [], rfl, fun a ha => (by cases ha), OutRow.nil _ _ _ _⟩
      case round =>
        obtain ⟨i, hi, rfl, l, hl, hok, hm⟩ := hrel
        by_cases hi60 : i < 60
        · have g3 : (i : Int) < 60 := by omega
          have g4 : (0 : Int) ≤ i := by omega
          obtain ⟨S, css, g5, g6, g7, g8, g9⟩ := hm
          rw [hl] at g5
          obtain ⟨Ao, co, rfl⟩ := own_shape g5
          have hbyte : [UInt8.ofNat i].map byteV = (#[.int .u8 (i : Int)] : Array Value).toList := by
            simp only [List.map_cons, List.map_nil, byteV]
            rw [UInt8.toNat_ofNat', Nat.mod_eq_of_lt (show i < 2 ^ 8 by omega)]
          have hbl := bytes_lit wr #[.int .u8 (i : Int)] [UInt8.ofNat i] (0, 0) hbyte (by simp)
          have hb4 : Below wr.heap.size wr (wr.alloc (.cells #[.int .u8 (i : Int)] 5)) := (Below.refl _ _).alloc (Nat.le_refl _) _
          have hx4 : RAsk (wr.alloc (.cells #[.int .u8 (i : Int)] 5)) (fun k => k = wr.heap.size) [.int .i64 (1 + (i : Int) * 5 % 7 / 3), .int .i64 ((i : Int) % 5), .int .i64 i, .int .i64 0, .int .i64 0, .int .i64 0, .int .i64 0, .int .i64 0, .int .i64 0, .int .i64 0, .slice (some ⟨wr.heap.size, 0, none⟩) 1 1, .slice none 0 0] ⟨1 + (i : Int) * 5 % 7 / 3, (i : Int) % 5, ⟨i, 0, 0, 0, 0, 0, 0, 0, [UInt8.ofNat i], []⟩⟩ := ⟨_, rfl, _, _, rfl, hbl, SliceOf.nil RVote 3 _ _⟩
          have hzw := g9.size
          have g10 := own_below g5 hb4
          have Hpush := Lib.hid (fun v5 w5 => @OutRow.push AskT RAsk RAsk.kept 12 41 W2 wr (wr.alloc (.cells #[.int .u8 (i : Int)] 5)) w5 l (.slice Ao i co) v5 ⟨1 + (i : Int) * 5 % 7 / 3, (i : Int) % 5, ⟨i, 0, 0, 0, 0, 0, 0, 0, [UInt8.ofNat i], []⟩⟩ [.int .i64 (1 + (i : Int) * 5 % 7 / 3), .int .i64 ((i : Int) % 5), .int .i64 i, .int .i64 0, .int .i64 0, .int .i64 0, .int .i64 0, .int .i64 0, .int .i64 0, .int .i64 0, .slice (some ⟨wr.heap.size, 0, none⟩) 1 1, .slice none 0 0] (fun k => k = wr.heap.size) S css (.cells [.int .i64 (1 + (i : Int) * 5 % 7 / 3), .int .i64 ((i : Int) % 5), .int .i64 i, .int .i64 0, .int .i64 0, .int .i64 0, .int .i64 0, .int .i64 0, .int .i64 0, .int .i64 0, .slice (some ⟨wr.heap.size, 0, none⟩) 1 1, .slice none 0 0].toArray 41) (by rw [hl]; exact g5) g6 g7 g8 g9 hb4 rfl hx4 (fun k h => by subst h; simp))
          have G10 := Lib.hid g10
          have Hl := Lib.hid hl
          have Hok := Lib.hid hok
          clear g5 g6 g7 g8 g9 g10 hbyte hbl hb4 hx4 hl hok
          go_wp2_with (at_builtin; refine wpList_append_src rfl _ _ 39 rfl W2.heap.size 41 (.agg #[.int .i64 0, .int .i64 0, .int .i64 0, .int .i64 0, .int .i64 0, .int .i64 0, .int .i64 0, .int .i64 0, .int .i64 0, .int .i64 0, .slice none 0 0, .slice none 0 0]) 12 128 Try.underlying39 ask_info (by rfl) (by omega) (.slice Ao i co) i css.flatten rfl (by exact G10.out.alloc _) (some ⟨wr.heap.size + 1, 0, none⟩) 1 1 [.int .i64 (1 + (i : Int) * 5 % 7 / 3), .int .i64 ((i : Int) % 5), .int .i64 i, .int .i64 0, .int .i64 0, .int .i64 0, .int .i64 0, .int .i64 0, .int .i64 0, .int .i64 0, .slice (some ⟨wr.heap.size, 0, none⟩) 1 1, .slice none 0 0] rfl rfl (fun _ => ⟨wr.heap.size + 1, 0, rfl, fun j u hj => by have := World.news_of_block (w := (wr.alloc (.cells #[.int .u8 (i : Int)] 5)).alloc _) (heap_alloc_new (wr.alloc (.cells #[.int .u8 (i : Int)] 5)) (.cells [.int .i64 (1 + (i : Int) * 5 % 7 / 3), .int .i64 ((i : Int) % 5), .int .i64 i, .int .i64 0, .int .i64 0, .int .i64 0, .int .i64 0, .int .i64 0, .int .i64 0, .int .i64 0, .slice (some ⟨wr.heap.size, 0, none⟩) 1 1, .slice none 0 0].toArray 41)) j u hj; rw [World.size_alloc] at this; rwa [WideShapes.add_plain] at this⟩) (by intro u hu; simp at hu; rcases hu with rfl | rfl | rfl | rfl | rfl | rfl <;> rfl) (by omega) (by omega) (by simp; omega) ?_; intro v5 w5 hown5 hg5 hat5)
          have hp := Hpush.out v5 w5 (by rw [Hl.out]; exact hown5) hg5 hat5
          have Hp := Lib.hid hp
          obtain ⟨A9, c9, rfl⟩ := own_shape hown5
          clear hp hown5 hg5 hat5
          go_wp2_with fail
          go_roundw
          case rel => exact ⟨i + 1, by omega, by go_num, l ++ [⟨1 + (i : Int) * 5 % 7 / 3, (i : Int) % 5, ⟨i, 0, 0, 0, 0, 0, 0, 0, [UInt8.ofNat i], []⟩⟩], by simp [Hl.out], fun a ha => (by rcases List.mem_append.1 ha with e | e; exact Hok.out a e; simp at e; subst e; intro v hv; cases hv), Hp.out⟩
          case measure => simp [intOf]; omega
        · have g3 : ¬ (i : Int) < 60 := by omega
          obtain ⟨he1, he2⟩ := OutRow.slice RAsk.kept hm
          obtain ⟨Ao, co, rfl⟩ := slice_shape he1
          have he3 := SliceOf.below (S' := fun k => k < wr.heap.size) RAsk.kept he1 (Below.refl wr.heap.size wr) (fun k h => h.2) (fun k h => h.2)
          have Hs := Lib.hid he3
          have Hok := Lib.hid hok
          have Hb2 := Lib.hid (Hbw.out.trans (he2.mono Hbw.out.size))
          clear hm he1 he2 he3 hok hl
          go_wp2_with fail
          refine (play_any 5 _ l (fun k => k < wr.heap.size) _ (by omega) (by omega) Hs.out (fun _ h => h) Hok.out).mono ?_
          rintro e w1 ⟨rfl, b1⟩
          have hs1 := SliceOf.below (S' := fun k => k < w1.heap.size) RAsk.kept Hs.out b1 (fun _ h => h) (fun k h => Nat.lt_of_lt_of_le h b1.size)
          have Hs1 := Lib.hid hs1
          have B1 := Lib.hid (Hb2.out.trans (b1.mono Hb2.out.size))
          clear b1 hs1 Hs Hb2
          go_wp2_with fail
          refine (play_any 1 _ l (fun k => k < w1.heap.size) _ (by omega) (by omega) Hs1.out (fun _ h => h) Hok.out).mono ?_
          rintro e w2 ⟨rfl, b2⟩
          have B2 := Lib.hid (B1.out.trans (b2.mono B1.out.size))
          clear b2 B1
          go_wp2_with fail
          refine (known_any _).mono ?_
          rintro e w3 ⟨rfl, b3⟩
          have Hend := Lib.hid (B2.out.trans (b3.mono B2.out.size))
          clear b3 B2
          go_wp2_with fail
          go_ret
          exact ⟨rfl, Hend.out⟩
end Go.Proofs.Ytelgnemlnhcdmaa
