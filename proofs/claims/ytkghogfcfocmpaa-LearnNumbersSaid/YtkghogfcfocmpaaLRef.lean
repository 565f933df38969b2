/- The reference's learner in memory; its Decided and Len. -/
import Derived.Test.YtkghogfcfocmpaaLUse
namespace Go.Proofs.Ytkghogfcfocmpaa
open Go.RowKit

structure TakeT where
  slot : Int
  b : Int
  frm : Int
  v : List UInt8
structure DoneT where
  slot : Int
  v : List UInt8
def RTake : Rep TakeT := fun w S cs x => ∃ v, cs = [.int .i64 x.slot, .int .i64 x.b, .int .i64 x.frm, v] ∧ BytesAt w S v x.v
theorem RTake.kept : Rep.Kept RTake := ⟨fun ⟨v, hv, h⟩ hk hS => ⟨v, hv, SliceOf.keep RByte.kept h hk hS⟩⟩
def RDone : Rep DoneT := fun w S cs x => ∃ v, cs = [.int .i64 x.slot, v] ∧ BytesAt w S v x.v
theorem RDone.kept : Rep.Kept RDone := ⟨fun ⟨v, hv, h⟩ hk hS => ⟨v, hv, SliceOf.keep RByte.kept h hk hS⟩⟩
theorem RTake.one {w : World} {S : Nat → Prop} {cs : List Value} {x : TakeT} (h : RTake w S cs x) : ∀ u ∈ cs, u.oneCell' = true := by
  obtain ⟨v, rfl, hv⟩ := h
  intro u hu
  simp at hu
  rcases hu with rfl | rfl | rfl | rfl
  · rfl
  · rfl
  · rfl
  · exact slice_one hv
theorem RDone.one {w : World} {S : Nat → Prop} {cs : List Value} {x : DoneT} (h : RDone w S cs x) : ∀ u ∈ cs, u.oneCell' = true := by
  obtain ⟨v, rfl, hv⟩ := h
  intro u hu
  simp at hu
  rcases hu with rfl | rfl
  · rfl
  · exact slice_one hv
theorem RowsOf.one {α : Type} {R : Rep α} {size : Nat} {w : World} {S : Nat → Prop} {css : List (List Value)} {l : List α} (h : RowsOf R size w S css l) (hR : ∀ cs x, R w S cs x → ∀ u ∈ cs, u.oneCell' = true) : ∀ u ∈ css.flatten, u.oneCell' = true := by
  intro u hu
  obtain ⟨cs, hcs, huc⟩ := List.mem_flatten.1 hu
  obtain ⟨i, hi, rfl⟩ := List.getElem_of_mem hcs
  exact hR _ _ (h.2 i _ (l[i]'(by rw [← h.1]; exact hi)) (List.getElem?_eq_getElem hi) (List.getElem?_eq_getElem (by rw [← h.1]; exact hi))).2 u huc
theorem RowsOf.flat {α : Type} {R : Rep α} {size : Nat} {w : World} {S : Nat → Prop} {css : List (List Value)} {l : List α} (h : RowsOf R size w S css l) : css.flatten.length = l.length * size := by
  rw [flatten_length h.sizes, h.1]
/-- The reference's learner: S holds its rows' blocks and its values' blocks. -/
structure RefAt (w : World) (base : Nat) (S : Nat → Prop) (M : Nat) (n low : Int) (L : List TakeT) (Ds : List DoneT) (lv dv : Value) : Prop where
  blk : Blk w M 42 #[.int .i64 n, .int .i64 low, lv, dv]
  lrow : Owns RTake 4 64 w base S lv L
  drow : Owns RDone 2 66 w base S dv Ds
  inl : ∀ (k : Nat), lv.ownBlock = some k → S k
  ind : ∀ (k : Nat), dv.ownBlock = some k → S k
  rng : ∀ (k : Nat), S k → base ≤ k ∧ k < w.heap.size ∧ k ≠ M
theorem RefAt.touch {w w' : World} {base : Nat} {S T : Nat → Prop} {M : Nat} {n low : Int} {L : List TakeT} {Ds : List DoneT} {lv dv : Value} (h : RefAt w base S M n low L Ds lv dv) (ht : Touch T w w') (hM : ¬ T M) (hS : ∀ k, S k → ¬ T k) : RefAt w' base S M n low L Ds lv dv :=
  ⟨h.blk.touch ht hM, h.lrow.touch RTake.kept ht (fun k e => hS k (h.inl k e)) (fun k hk => ⟨(h.rng k hk).2.1, hS k hk⟩) (fun _ e => e), h.drow.touch RDone.kept ht (fun k e => hS k (h.ind k e)) (fun k hk => ⟨(h.rng k hk).2.1, hS k hk⟩) (fun _ e => e), h.inl, h.ind, fun k hk => ⟨(h.rng k hk).1, Nat.lt_of_lt_of_le (h.rng k hk).2.1 ht.size, (h.rng k hk).2.2⟩⟩
theorem RefAt.below {w w' : World} {base : Nat} {S : Nat → Prop} {M : Nat} {n low : Int} {L : List TakeT} {Ds : List DoneT} {lv dv : Value} (h : RefAt w base S M n low L Ds lv dv) (hb : Below w.heap.size w w') : RefAt w' base S M n low L Ds lv dv :=
  h.touch (Touch.of_below hb fun _ => False) (fun g => g) (fun _ _ g => g)
/-- A cell of an own row's entry. -/
theorem Owns.at {α : Type} {R : Rep α} {size : Nat} {e : TypeId} {w : World} {base : Nat} {S : Nat → Prop} {A : Option Addr} {n c i : Nat} {l : List α} {x : α} (h : Owns R size e w base S (.slice A n c) l) (hi : l[i]? = some x) :
    ∃ g cs, A = some ⟨g, 0, none⟩ ∧ R w S cs x ∧ cs.length = size ∧ ∀ j u, cs[j]? = some u → w.cell? ⟨g, i * size + j, none⟩ = some u := by
  obtain ⟨css, h1, h2⟩ := h
  have hil : i < l.length := (List.getElem?_eq_some_iff.1 hi).1
  rcases h2.2 with ⟨hv, hz⟩ | ⟨g, cap, cur, hv, hb, hg, hl, hm, hs, htk⟩
  · omega
  · injection hv with e1 e2 e3
    have hi' : i < css.length := by rw [h1.1]; exact hil
    obtain ⟨hlen, hr⟩ := h1.2 i css[i] x (List.getElem?_eq_getElem hi') hi
    refine ⟨g, css[i], e1, hr, hlen, fun j u hu => ?_⟩
    have hf := flatten_get h1.sizes i j css[i] u (List.getElem?_eq_getElem hi') hu
    have := h2.cells (g := g) (by rw [e1]; rfl) _ u hf
    rwa [WideShapes.add_plain, Nat.zero_add] at this
theorem Owns.shape {α : Type} {R : Rep α} {size : Nat} {e : TypeId} {w : World} {base : Nat} {S : Nat → Prop} {v : Value} {l : List α} (h : Owns R size e w base S v l) : ∃ A c, v = .slice A l.length c := by
  obtain ⟨css, _, h2⟩ := h
  exact own_shape h2
instance : Inhabited TakeT := ⟨⟨0, 0, 0, []⟩⟩
instance : Inhabited DoneT := ⟨⟨0, []⟩⟩
/-- What was decided at a slot, as the reference has it. -/
def doneAt (Ds : List DoneT) (s : Int) : Option (List UInt8) := (Ds.find? fun d => decide (d.slot = s)).map fun d => d.v
def RDecEnd (S : Nat → Prop) (w : World) (o : Option (List UInt8)) (e : Ending) (w' : World) : Prop :=
  match o with
  | none => e = .returned (.tuple #[.slice none 0 0, .bool false]) ∧ w = w'
  | some v => ∃ A c, e = .returned (.tuple #[.slice A v.length c, .bool true]) ∧ BytesAt w S (.slice A v.length c) v ∧ w = w'
theorem rdec_hit {Ds : List DoneT} {s : Int} {k : Nat} {d : DoneT} (h : ∀ y ∈ Ds.take k, decide (y.slot = s) = false) (hk : Ds[k]? = some d) (hd : d.slot = s) : doneAt Ds s = some d.v := by
  unfold doneAt
  rw [find_first h hk (decide_eq_true hd)]
  rfl
set_option maxHeartbeats 1000000 in
theorem rdec_any {w : World} {base : Nat} {S : Nat → Prop} {M : Nat} {n low : Int} {L : List TakeT} {Ds : List DoneT} {lv dv : Value} (s : Int) (h : RefAt w base S M n low L Ds lv dv) (hl : Ds.length ≤ 1000000000) :
    Calls Try.prog 30 #[.pointer (some ⟨M, 0, none⟩), .int .i64 s] w (RDecEnd S w (doneAt Ds s)) := by
  obtain ⟨A, c, rfl⟩ := h.drow.shape
  have k3 : w.cell? ⟨M, 3, none⟩ = some (.slice A Ds.length c) := h.blk.cell 3
  have H := Lib.hid h.drow
  clear h
  go_enter Try.func30, Try.ntmps30
  go_wp2_with fail
  go_loop [6] (fun i => ∃ k : Nat, k ≤ Ds.length ∧ i = .int .i64 k ∧ Hid (∀ y ∈ Ds.take k, decide (y.slot = s) = false)) (fun i => Ds.length - (intOf i).toNat)
  case atStart => exact ⟨0, Nat.zero_le _, rfl, Lib.hid (by simp)⟩
  case round =>
    obtain ⟨k, hk, rfl, hx⟩ := hrel
    by_cases hlt : k < Ds.length
    · obtain ⟨d, hd⟩ : ∃ d, Ds[k]? = some d := ⟨Ds[k], List.getElem?_eq_getElem hlt⟩
      obtain ⟨g, cs, rfl, ⟨v, rfl, hv⟩, _, hc⟩ := Owns.at H.out hd
      have hc0 : w.cell? ⟨g, k * 2, none⟩ = some (.int .i64 d.slot) := hc 0 _ rfl
      have hc1 : w.cell? ⟨g, k * 2 + 1, none⟩ = some v := hc 1 _ rfl
      have hmore : Ds.take (k + 1) = Ds.take k ++ [d] := by rw [List.take_add_one, hd]; rfl
      have g1 : (k : Int) < Ds.length := by omega
      have g2 : (0 : Int) ≤ k := by omega
      have Hmore := Lib.hid hmore
      have Hd := Lib.hid hd
      obtain ⟨Av, cv, rfl⟩ := slice_shape hv
      have Hv := Lib.hid hv
      clear hc hd hmore hv
      by_cases hxy : d.slot = s
      · have e1 : (d.slot == s) = true := by rw [beq_iff_eq]; exact hxy
        have Hxy := Lib.hid hxy
        clear hxy
        go_wp2_with fail
        go_ret2
        rw [rdec_hit hx.out Hd.out Hxy.out]
        exact ⟨_, _, rfl, Hv.out, rfl⟩
      · have e1 : (d.slot == s) = false := by rw [beq_eq_false_iff_ne]; exact hxy
        have Hxy := Lib.hid hxy
        clear hxy
        go_wp2_with fail
        go_round
        case rel => exact ⟨k + 1, by omega, by go_num, Lib.hid (by rw [Hmore.out]; intro q hq; rcases List.mem_append.1 hq with e | e; exact hx.out q e; simp at e; subst e; exact decide_eq_false Hxy.out)⟩
        case measure => simp [intOf]; omega
    · have g1 : ¬ (k : Int) < Ds.length := by omega
      have hf : doneAt Ds s = none := by
        have := hx.out
        rw [List.take_of_length_le (by omega)] at this
        unfold doneAt
        rw [Option.map_eq_none_iff, List.find?_eq_none]
        intro q hq
        rw [this q hq]
        simp
      have Hf := Lib.hid hf
      clear hf hx
      go_wp2_with fail
      go_ret2
      rw [Hf.out]
      exact ⟨rfl, rfl⟩
/-- Is something known of a slot? -/
def seenAt (L : List TakeT) (s : Int) : Bool := L.any fun x => decide (x.slot = s)
def slotsOf (L : List TakeT) (low : Int) (j : Nat) : Nat := ((List.range j).filter fun q => seenAt L (low + (q : Nat))).length
theorem slots_more (L : List TakeT) (low : Int) (j : Nat) : slotsOf L low (j + 1) = slotsOf L low j + if seenAt L (low + (j : Nat)) then 1 else 0 := by
  unfold slotsOf
  rw [List.range_succ, List.filter_append, List.length_append]
  congr 1
  by_cases h : seenAt L (low + (j : Nat)) = true
  · simp [h]
  · simp [h]
theorem seen_snoc (L : List TakeT) (k : Nat) (x : TakeT) (h : L[k]? = some x) (s : Int) : seenAt (L.take (k + 1)) s = (seenAt (L.take k) s || decide (x.slot = s)) := by
  unfold seenAt
  rw [List.take_add_one, h, Option.toList_some, List.any_append]
  simp
theorem slots_le (L : List TakeT) (low : Int) (j : Nat) : slotsOf L low j ≤ j := by
  unfold slotsOf
  have := List.length_filter_le (fun q => seenAt L (low + (q : Nat))) (List.range j)
  simpa using this
set_option maxRecDepth 100000 in
set_option maxHeartbeats 4000000 in
theorem rlen_any {w : World} {base : Nat} {S : Nat → Prop} {M : Nat} {n low : Int} {L : List TakeT} {Ds : List DoneT} {lv dv : Value} (h : RefAt w base S M n low L Ds lv dv) (hl : L.length ≤ 1000000000) (h0 : 0 ≤ low) (h1 : low ≤ 1073741824) :
    Calls Try.prog 29 #[.pointer (some ⟨M, 0, none⟩)] w fun e w' => e = .returned (.int .i64 (slotsOf L low 32)) ∧ w' = w := by
  obtain ⟨A, c, rfl⟩ := h.lrow.shape
  have k2 : w.cell? ⟨M, 2, none⟩ = some (.slice A L.length c) := h.blk.cell 2
  have k1 : w.cell? ⟨M, 1, none⟩ = some (.int .i64 low) := h.blk.cell 1
  have H := Lib.hid h.lrow
  clear h
  go_enter Try.func29, Try.ntmps29
  go_wp2_with fail
  go_loop [3, 4] (fun nv sv => ∃ j : Nat, j ≤ 32 ∧ sv = .int .i64 (low + j) ∧ nv = .int .i64 (slotsOf L low j)) (fun _ sv => (low + 32 - intOf sv).toNat)
  case atStart => exact ⟨0, by omega, by simp, rfl⟩
  case round =>
    obtain ⟨j, hj, rfl, rfl⟩ := hrel
    by_cases hlt : j < 32
    · have g1 : low + (j : Int) < low + 32 := by omega
      have g0 : (0 : Int) ≤ j := by omega
      have gn : ((slotsOf L low j : Nat) : Int) ≤ 32 := by have := slots_le L low j; omega
      have gn0 : (0 : Int) ≤ (slotsOf L low j : Nat) := by omega
      have hmore := slots_more L low j
      obtain ⟨s, hs⟩ : ∃ s, low + (j : Int) = s := ⟨_, rfl⟩
      obtain ⟨N, hN⟩ : ∃ N, slotsOf L low j = N := ⟨_, rfl⟩
      rw [hs, hN] at hmore
      rw [hN] at gn gn0
      rw [hN]
      rw [hs]
      rw [hs] at g1
      have Hmore := Lib.hid hmore
      have Hs := Lib.hid hs
      clear hN hmore hs
      have s0 : 0 ≤ s := by have := Hs.out; omega
      have s1 : s ≤ 1073741856 := by have := Hs.out; omega
      go_wp2_with fail
      go_loop [5, 6] (fun iv i => ∃ k : Nat, k ≤ L.length ∧ i = .int .i64 k ∧ iv = .bool (seenAt (L.take k) s)) (fun _ i => L.length - (intOf i).toNat)
      case atStart => exact ⟨0, Nat.zero_le _, rfl, rfl⟩
      case round =>
        obtain ⟨k, hk, rfl, rfl⟩ := hrel
        by_cases hlk : k < L.length
        · obtain ⟨x, hx⟩ : ∃ x, L[k]? = some x := ⟨L[k], List.getElem?_eq_getElem hlk⟩
          have hsn := seen_snoc L k x hx s
          obtain ⟨g, cs, rfl, ⟨v, rfl, hv⟩, _, hc⟩ := Owns.at H.out hx
          have hc0 : w.cell? ⟨g, k * 4, none⟩ = some (.int .i64 x.slot) := hc 0 _ rfl
          have q1 : (k : Int) < L.length := by omega
          have q2 : (0 : Int) ≤ k := by omega
          have Hsn := Lib.hid hsn
          clear hc hsn hx hv
          cases hb : seenAt (L.take k) s with
          | true =>
            rw [hb] at Hsn
            clear hb
            go_wp2_with fail
            go_round
            case rel => exact ⟨k + 1, by omega, by go_num, by rw [Hsn.out]; rfl⟩
            case measure => simp [intOf]; omega
          | false =>
            rw [hb] at Hsn
            clear hb
            by_cases hxs : x.slot = s
            · have e1 : (x.slot == s) = true := by rw [beq_iff_eq]; exact hxs
              rw [decide_eq_true hxs] at Hsn
              clear hxs
              go_wp2_with fail
              go_round
              case rel => exact ⟨k + 1, by omega, by go_num, by rw [Hsn.out]; rfl⟩
              case measure => simp [intOf]; omega
            · have e1 : (x.slot == s) = false := by rw [beq_eq_false_iff_ne]; exact hxs
              rw [decide_eq_false hxs] at Hsn
              clear hxs
              go_wp2_with fail
              go_round
              case rel => exact ⟨k + 1, by omega, by go_num, by rw [Hsn.out]; rfl⟩
              case measure => simp [intOf]; omega
        · have q1 : ¬ (k : Int) < L.length := by omega
          have hfull : L.take k = L := List.take_of_length_le (by omega)
          rw [hfull]
          clear hfull
          cases hb : seenAt L s with
          | true =>
            rw [hb] at Hmore
            clear hb
            go_wp2_with fail
            go_round
            case rel => exact ⟨j + 1, by omega, by have := Hs.out; go_num, by rw [Hmore.out]; rfl⟩
            case measure => have := Hs.out; simp [intOf]; omega
          | false =>
            rw [hb] at Hmore
            clear hb
            go_wp2_with fail
            go_round
            case rel => exact ⟨j + 1, by omega, by have := Hs.out; go_num, by rw [Hmore.out]; rfl⟩
            case measure => have := Hs.out; simp [intOf]; omega
    · have hj32 : j = 32 := by omega
      subst hj32
      have g1 : ¬ low + ((32 : Nat) : Int) < low + 32 := by omega
      go_wp2_with fail
      go_ret
      exact ⟨rfl, rfl⟩
end Go.Proofs.Ytkghogfcfocmpaa
