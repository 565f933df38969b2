/- The walk of the statement NetOrders: it returns true. -/
import Derived.Test.YtelgnemlnhcdmaaNKnown
namespace Go.Proofs.Ytelgnemlnhcdmaa
open Go.RowKit

def RInt : Rep Int := fun _ _ cs x => cs = [.int .i64 x] ∧ -9223372036854775808 ≤ x ∧ x ≤ 9223372036854775807
theorem RInt.kept : Rep.Kept RInt := ⟨fun h _ _ => h⟩
def sent (l : List Int) (i : Nat) : List MsgT := (List.range i).map fun (j : Nat) => msgOf (1 + (j : Int)) (l.getD j 0)
theorem sent_len (l : List Int) (i : Nat) : (sent l i).length = i := by simp [sent]
theorem sent_succ (l : List Int) (i : Nat) : sent l (i + 1) = sent l i ++ [msgOf (1 + (i : Int)) (l.getD i 0)] := by
  unfold sent; rw [List.range_succ, List.map_append]; rfl
theorem sent_get (l : List Int) {i n : Nat} (h : i < n) : (sent l n)[i]? = some (msgOf (1 + (i : Int)) (l.getD i 0)) := by
  unfold sent; rw [List.getElem?_map, List.getElem?_range h]; rfl
theorem drop_first {α : Type} {l : List α} {i : Nat} {x : α} (h : l[i]? = some x) : (l.drop i)[0]? = some x ∧ (l.drop i).eraseIdx 0 = l.drop (i + 1) := by
  refine ⟨by rw [List.getElem?_drop]; simpa using h, ?_⟩
  have hi := (List.getElem?_eq_some_iff.1 h).1
  rw [List.drop_eq_getElem_cons hi]
  rfl

theorem sent_small (l : List Int) (n : Nat) : Smalls (sent l n) := fun m hm => by
  obtain ⟨j, _, rfl⟩ := List.mem_map.1 hm
  exact msgOf_small _ _
theorem NetIn.drewN {w0 wr : World} {D : Nat} {room : Int} {ms : List MsgT} (h : NetIn w0 D room ms wr) (n : Nat) : NetIn w0 D room ms (wr.drewN n) := by
  induction n with
  | zero => exact h
  | succ n ih => exact ih.below (Below.refl _ _).drew

set_option maxRecDepth 100000 in
set_option maxHeartbeats 2000000 in
theorem orders_any (v : Value) (l : List Int) (d : Int) (w : World) (hd1 : -9223372036854775808 ≤ d) (hd2 : d ≤ 9223372036854775807) (h : SliceOf RInt 1 w (fun k => k < w.heap.size) v l) : Calls Try.prog 3 #[v, .int .i64 d] w (SameEnd w) := by
  have H := Lib.hid h
  obtain ⟨A, cap, rfl, hc0, hcm, _⟩ := h
  have hmax : l.length ≤ 9223372036854775807 := by unfold maxLen at hcm; omega
  have N0 := Lib.hid (NetIn.new w 100)
  obtain ⟨n, hn1, hn2, hn3⟩ : ∃ n : Nat, n ≤ l.length ∧ n ≤ 40 ∧ (n = l.length ∨ n = 40) := ⟨min l.length 40, by omega, by omega, by omega⟩
  clear hc0 hcm
  go_enter Try.func3, Try.ntmps3
  go_wp2_with fail
  refine (new_ok 100 w (by omega) (by omega)).mono ?_
  rintro e w1 ⟨rfl, rfl⟩
  go_wp2_with fail
  all_goals
    have hcase : (n = l.length ∧ l.length ≤ 40) ∨ (n = 40 ∧ 40 ≤ l.length) := by omega
    first
      | (have hcase1 : n = l.length ∧ l.length ≤ 40 := by omega)
      | (have hcase2 : n = 40 ∧ 40 ≤ l.length := by omega)
    clear hcase hn3
    go_loopw [8] (fun i wr => ∃ i' : Nat, i' ≤ n ∧ i = .int .i64 i' ∧ NetIn w w.heap.size 100 (sent l i') wr) (fun i _ => n - (intOf i).toNat)
    case atStart => exact ⟨0, Nat.zero_le _, rfl, N0.out⟩
    case round =>
      obtain ⟨i, hi, rfl, hm⟩ := hrel
      by_cases hlt : i < n
      · have g1 : (i : Int) < l.length := by omega
        have g2 : (i : Int) < 40 := by omega
        have g3 : (0 : Int) ≤ i := by omega
        obtain ⟨q, hq⟩ : ∃ q, l[i]? = some q := ⟨l[i], List.getElem?_eq_getElem (by omega)⟩
        have hb : Below w.heap.size w wr := by obtain ⟨_, _, h⟩ := hm; exact h
        obtain ⟨bl, ol, rfl, hblS, cs, ⟨rfl, q1, q2⟩, hl1, hcc⟩ := (SliceOf.below (S' := fun k => k < w.heap.size) RInt.kept H.out hb (fun k h => h) (fun _ h => h)).at hq
        have hcell : wr.cell? ⟨bl, ol + i, none⟩ = some (.int .i64 q) := by have := hcc 0 _ rfl; simpa using this
        have hsucc := sent_succ l i
        have hqd : l.getD i 0 = q := by rw [List.getD_eq_getElem?_getD, hq]; rfl
        rw [hqd] at hsucc
        have Hm := Lib.hid hm
        have Hsucc := Lib.hid hsucc
        clear hm hsucc hqd hq hcc hl1 hb
        go_wp2_with fail
        refine (send_of (1 + (i : Int)) q Hm.out (by rw [sent_len]; omega) (by omega)).mono ?_
        rintro e w2 ⟨rfl, h2⟩
        rw [← Hsucc.out] at h2
        have H2 := Lib.hid h2
        clear h2
        go_wp2_with fail
        go_roundw
        case rel => exact ⟨i + 1, by omega, by go_num, H2.out⟩
        case measure => simp [intOf]; omega
      · try have g1 : ¬ (i : Int) < l.length := by omega
        try have g1 : ¬ (i : Int) < 40 := by omega
        have hin : i = n := by omega
        rw [hin] at hm
        have Hm := Lib.hid hm
        clear hm
        by_cases hn0 : 0 < n
        · try have k1 : (0 : Int) < l.length := by omega
          have Hin := Lib.hid hin
          have Hlt := Lib.hid hlt
          clear hin hlt
          go_wp2_with fail
          refine (within_any d 0 _ _ hd1 hd2 (by omega) (by omega) (by omega)).mono ?_
          rintro e w' ⟨rfl, rfl⟩
          first
            | (have := hcase1; have hbd := within_bd d 0 ((l.length : Int) - 1) (by omega); generalize within d 0 ((l.length : Int) - 1) = K at *)
            | (have := hcase2; have hbd := within_bd d 0 39 (by omega); generalize within d 0 39 = K at *)
          obtain ⟨kN, rfl⟩ := Int.eq_ofNat_of_zero_le hbd.1
          have hkn : kN < n := by omega
          clear hbd
          go_wp2_with fail
          obtain ⟨F, f1, f2⟩ := Hm.out
          refine (double_at (x := msgOf (1 + (kN : Int)) (l.getD kN 0)) kN f1 (sent_get l hkn) (by omega) (sent_small l n)).mono ?_
          rintro e w2 ⟨rfl, ht⟩
          have hn100 : ((sent l n).length : Int) < 100 := by rw [sent_len]; omega
          rw [if_pos hn100] at ht
          rw [decide_eq_true hn100]
          have hN := NetIn.of f1 f2 ht
          have hget : ∀ i, i < n → (sent l n ++ [msgOf (1 + (kN : Int)) (l.getD kN 0)])[i]? = some (msgOf (1 + (i : Int)) (l.getD i 0)) := fun i hi => by
            rw [List.getElem?_append_left (by rw [sent_len]; exact hi)]; exact sent_get l hi
          have hlast : (sent l n ++ [msgOf (1 + (kN : Int)) (l.getD kN 0)])[n]? = some (msgOf (1 + (kN : Int)) (l.getD kN 0)) := by
            rw [List.getElem?_append_right (by rw [sent_len]; omega), sent_len]; simp
          have hmlen : (sent l n ++ [msgOf (1 + (kN : Int)) (l.getD kN 0)]).length = n + 1 := by simp [sent_len]
          generalize sent l n ++ [msgOf (1 + (kN : Int)) (l.getD kN 0)] = ms at *
          have HN := Lib.hid hN
          have Hget := Lib.hid hget
          have Hlast := Lib.hid hlast
          have Hmlen := Lib.hid hmlen
          clear f1 f2 ht hN hget hlast hmlen Hm hn100 F
          go_wp2_with fail
          go_loopw [10] (fun i wr => ∃ i' : Nat, i' ≤ n ∧ i = .int .i64 i' ∧ NetIn w w.heap.size 100 (ms.drop i') wr) (fun i _ => n - (intOf i).toNat)
          case atStart => exact ⟨0, Nat.zero_le _, rfl, HN.out⟩
          case round =>
            obtain ⟨i, hi, rfl, hm⟩ := hrel
            by_cases hlt : i < n
            · have g1 : (i : Int) < l.length := by omega
              have g2 : (i : Int) < 40 := by omega
              have g3 : (0 : Int) ≤ i := by omega
              obtain ⟨q, hq⟩ : ∃ q, l[i]? = some q := ⟨l[i], List.getElem?_eq_getElem (by omega)⟩
              have hqd : l.getD i 0 = q := by rw [List.getD_eq_getElem?_getD, hq]; rfl
              have hx := Hget.out i hlt
              rw [hqd] at hx
              obtain ⟨hx0, hxe⟩ := drop_first hx
              have Hxe := Lib.hid hxe
              have Hq := Lib.hid hq
              have Hm := Lib.hid hm
              clear hxe hm hx hq hqd
              go_wp2_with fail
              refine (take_of (x := msgOf (1 + (i : Int)) q) 0 Hm.out hx0 (by have := Hmlen.out; rw [List.length_drop]; omega)).mono ?_
              rintro e w3 ⟨⟨A1, n1, c1, A2, n2, c2, rfl⟩, h3⟩
              rw [Hxe.out] at h3
              have h4 := h3.below ((Below.refl _ _).alloc (Nat.le_refl _) (.cells (msgCells (msgOf (1 + (i : Int)) q) (.slice A1 n1 c1) (.slice A2 n2 c2)) 31))
              have hb : Below w.heap.size w (w3.alloc (.cells (msgCells (msgOf (1 + (i : Int)) q) (.slice A1 n1 c1) (.slice A2 n2 c2)) 31)) := by obtain ⟨_, _, h⟩ := h4; exact h
              obtain ⟨bl, ol, rfl, hblS, cs, ⟨rfl, q1, q2⟩, hl1, hcc⟩ := (SliceOf.below (S' := fun k => k < w.heap.size) RInt.kept H.out hb (fun k h => h) (fun _ h => h)).at Hq.out
              have hcell : (w3.alloc (.cells #[.int .i64 (1 + (i : Int)), .int .i64 0, .int .i64 0, .int .i64 0, .int .i64 0, .int .i64 0, .int .i64 0, .int .i64 q, .slice A1 n1 c1, .slice A2 n2 c2] 31)).cell? ⟨bl, ol + i, none⟩ = some (.int .i64 q) := by have := hcc 0 _ rfl; simpa using this
              have H4 := Lib.hid h4
              clear h3 h4 hb hx0 hcc hl1 Hm
              go_wp2_with fail
              go_quiet (fail)
              go_wp2_with fail
              go_roundw
              case rel => exact ⟨i + 1, by omega, by go_num, by first | exact H4.out | exact H4.out.drewN _⟩
              case measure => simp [intOf]; omega
            · try have g1 : ¬ (i : Int) < l.length := by omega
              try have g1 : ¬ (i : Int) < 40 := by omega
              have hin2 : i = n := by omega
              rw [hin2] at hm
              obtain ⟨hx0, hxe⟩ := drop_first Hlast.out
              have hemp : ms.drop (n + 1) = [] := List.drop_of_length_le (by have := Hmlen.out; omega)
              rw [hemp] at hxe
              have Hxe := Lib.hid hxe
              have Hm := Lib.hid hm
              have Hin2 := Lib.hid hin2
              have Hx0 := Lib.hid hx0
              clear hxe hm hin2 hx0 hemp hlt
              go_wp2_with fail
              refine (take_of (x := msgOf (1 + (kN : Int)) (l.getD kN 0)) 0 Hm.out Hx0.out (by have := Hmlen.out; rw [List.length_drop]; omega)).mono ?_
              rintro e w3 ⟨⟨A1, n1, c1, A2, n2, c2, rfl⟩, h3⟩
              rw [Hxe.out] at h3
              have HE := Lib.hid (h3.below ((Below.refl _ _).alloc (Nat.le_refl _) (.cells (msgCells (msgOf (1 + (kN : Int)) (l.getD kN 0)) (.slice A1 n1 c1) (.slice A2 n2 c2)) 31)))
              clear h3
              go_wp2_with fail
              refine (take_none 0 HE.out (by simp)).mono ?_
              rintro e w8 ⟨rfl, h8⟩
              have H8 := Lib.hid (h8.below ((Below.refl _ _).alloc (Nat.le_refl _) (.cells #[.int .i64 0, .int .i64 0, .int .i64 0, .int .i64 0, .int .i64 0, .int .i64 0, .int .i64 0, .int .i64 0, .slice none 0 0, .slice none 0 0] 31)))
              clear h8 HE
              go_wp2_with fail
              refine (len_of H8.out).mono ?_
              rintro e w9 ⟨rfl, rfl⟩
              go_wp2_with fail
              refine (known_any _).mono ?_
              rintro e w10 ⟨rfl, b10⟩
              have hend : Below w.heap.size w w10 := by obtain ⟨_, _, h⟩ := H8.out; exact h.trans (b10.mono h.size)
              have Hend := Lib.hid hend
              clear b10 hend
              go_wp2_with fail
              go_ret
              exact ⟨rfl, Hend.out⟩
        · have hn00 : n = 0 := by omega
          rw [hn00] at Hm
          have HE := Lib.hid (show NetIn w w.heap.size 100 [] wr from Hm.out)
          try (exfalso; omega)
          all_goals
            have hl0 : ¬ (0 : Int) < l.length := by omega
            have Hin := Lib.hid hin
            have Hn00 := Lib.hid hn00
            have Hc := Lib.hid hcase1
            clear hin hlt hn00 hcase1 hn0 Hm
            go_wp2_with fail
            go_loopw [10] (fun i wr => i = .int .i64 0 ∧ NetIn w w.heap.size 100 [] wr) (fun i _ => 0)
            case atStart => exact ⟨rfl, HE.out⟩
            case round =>
              clear HE
              obtain ⟨rfl, hm⟩ := hrel
              have HE := Lib.hid hm
              clear hm
              go_wp2_with fail
              refine (take_none 0 HE.out (by simp)).mono ?_
              rintro e w8 ⟨rfl, h8⟩
              have H8 := Lib.hid (h8.below ((Below.refl _ _).alloc (Nat.le_refl _) (.cells #[.int .i64 0, .int .i64 0, .int .i64 0, .int .i64 0, .int .i64 0, .int .i64 0, .int .i64 0, .int .i64 0, .slice none 0 0, .slice none 0 0] 31)))
              clear h8 HE
              go_wp2_with fail
              refine (len_of H8.out).mono ?_
              rintro e w9 ⟨rfl, rfl⟩
              go_wp2_with fail
              refine (known_any _).mono ?_
              rintro e w10 ⟨rfl, b10⟩
              have hend : Below w.heap.size w w10 := by obtain ⟨_, _, h⟩ := H8.out; exact h.trans (b10.mono h.size)
              have Hend := Lib.hid hend
              clear b10 hend
              go_wp2_with fail
              go_ret
              exact ⟨rfl, Hend.out⟩
end Go.Proofs.Ytelgnemlnhcdmaa
