/- slices.DeleteFunc of the tallies below a slot. -/
import Derived.Test.YtkghogfcfocmpaaLIndex
namespace Go.Proofs.Ytkghogfcfocmpaa
open Go.RowKit

theorem Blk.many {g : Nat} {t : TypeId} {w : World} {cs : Array Value} (vs : List Value) (o : Nat) (h : Blk w g t cs) (ho : o + vs.length ≤ cs.size) : ∃ cs', Blk (w.setCells g o vs) g t cs' ∧ cs'.size = cs.size ∧ cs'.toList = cs.toList.take o ++ vs ++ cs.toList.drop (o + vs.length) := by
  induction vs generalizing o w cs with
  | nil => exact ⟨cs, h, rfl, by simp⟩
  | cons v r ih =>
    simp only [List.length_cons] at ho
    obtain ⟨cs', h1, h2, h3⟩ := ih (o + 1) (h.set o v) (by rw [Array.size_setIfInBounds]; omega)
    refine ⟨cs', h1, by rw [h2, Array.size_setIfInBounds], ?_⟩
    rw [h3]
    have hl : cs.toList.length = cs.size := by simp
    rw [Array.toList_setIfInBounds, List.drop_set_of_lt (by omega), List.take_set, List.take_add_one]
    have hg : cs.toList[o]? = some cs.toList[o] := List.getElem?_eq_getElem (by omega)
    rw [hg]
    simp only [Option.toList_some, List.length_cons]
    rw [List.set_append_right _ _ (by rw [List.length_take]; omega)]
    rw [List.length_take, Nat.min_eq_left (by omega)]
    simp
    congr 1
    omega
theorem Touch.many {T : Nat → Prop} {g : Nat} (hT : T g) : ∀ (vs : List Value) (o : Nat) (w : World), Touch T w (w.setCells g o vs)
  | [], _, w => Touch.refl T w
  | v :: r, o, w => (Touch.setCell (p := ⟨g, o, none⟩) w v (fun _ => hT)).trans (Touch.many hT r (o + 1) _) (fun _ _ h => h)

set_option maxHeartbeats 1000000 in
theorem old_any (w : World) (p c1 : Nat) (ts s : Int) (h0 : w.cell? ⟨p, 0, none⟩ = some (.int .i64 ts)) (k1 : w.cell? ⟨c1, 0, none⟩ = some (.int .i64 s)) :
    Calls Try.prog 26 #[.pointer (some ⟨p, 0, none⟩), .pointer (some ⟨c1, 0, none⟩)] w fun e w' => e = .returned (.bool (decide (ts < s))) ∧ ∃ n, w' = w.drewN n := by
  go_enter Try.func26, Try.ntmps26
  go_wp2_with fail
  go_quiet (fail)
  go_wp2_with fail
  go_ret
  exact ⟨rfl, _, rfl⟩
theorem hit_at {α : Type} {f : α → Bool} : ∀ {l : List α} {k : Nat} {x : α}, (∀ u ∈ l.take k, f u = false) → l[k]? = some x → f x = true → l.findIdx? f = some k
  | [], k, x, _, h, _ => by simp at h
  | a :: r, 0, x, _, h, hx => by simp at h; subst h; simp [List.findIdx?_cons, hx]
  | a :: r, k + 1, x, h1, h, hx => by
    have ha := h1 a (by simp)
    have := hit_at (l := r) (fun y hy => h1 y (by rw [List.take_succ_cons]; exact List.mem_cons_of_mem _ hy)) (by simpa using h) hx
    simp [List.findIdx?_cons, ha, this]
/-- Is a tally's slot below s? -/
def oldAt (sl : Nat → Int) (s : Int) (p : Nat) : Bool := decide (sl p < s)
set_option maxHeartbeats 1000000 in
theorem index_old {w : World} {base : Nat} {lv : Value} {ps : List Nat} {sl : Nat → Int} (c1 : Nat) (s : Int) (h : w.ownsRow base 52 1 lv ps.length (ps.map ptrV)) (hs : ∀ p ∈ ps, w.cell? ⟨p, 0, none⟩ = some (.int .i64 (sl p))) (hl : ps.length ≤ 1000000000) (k1 : w.cell? ⟨c1, 0, none⟩ = some (.int .i64 s)) :
    Calls Try.prog 17 #[lv, .func (.func 26) #[] #[.pointer (some ⟨c1, 0, none⟩)]] w fun e w' => e = .returned (.int .i64 (idxV (ps.findIdx? (oldAt sl s)))) ∧ ∃ q, w' = w.drewN q := by
  obtain ⟨A, c, rfl⟩ := own_shape h
  have H := Lib.hid h
  have Hs := Lib.hid hs
  clear h hs
  go_enter Try.func17, Try.ntmps17
  go_wp2_with fail
  go_loopw [8] (fun i wr => ∃ k : Nat, k ≤ ps.length ∧ i = .int .i64 k ∧ Hid (∀ u ∈ ps.take k, oldAt sl s u = false) ∧ ∃ q, wr = w.drewN q) (fun i _ => ps.length - (intOf i).toNat)
  case atStart => exact ⟨0, Nat.zero_le _, rfl, Lib.hid (by simp), 0, rfl⟩
  case round =>
    obtain ⟨k, hk, rfl, hx, q, rfl⟩ := hrel
    by_cases hlt : k < ps.length
    · obtain ⟨p, hp⟩ : ∃ p, ps[k]? = some p := ⟨ps[k], List.getElem?_eq_getElem hlt⟩
      have hpm := List.mem_of_getElem? hp
      obtain ⟨bb, off, rfl, hc⟩ := own_src H.out (by omega)
      have hcell : w.cell? ⟨bb, off + k, none⟩ = some (.pointer (some ⟨p, 0, none⟩)) := hc k _ (by rw [List.getElem?_map, hp]; rfl)
      have hs0 : (w.drewN q).cell? ⟨p, 0, none⟩ = some (.int .i64 (sl p)) := Hs.out p hpm
      have hcall := old_any (w.drewN q) p c1 (sl p) s hs0 k1
      have hmore : ps.take (k + 1) = ps.take k ++ [p] := by rw [List.take_add_one, hp]; rfl
      have g1 : (k : Int) < ps.length := by omega
      have g2 : (0 : Int) ≤ k := by omega
      have Hmore := Lib.hid hmore
      have Ht := Lib.hid hp
      have Hcall := Lib.hid hcall
      clear hc hmore hp hs0 hcall
      go_wp2_with fail
      refine Hcall.out.mono ?_
      rintro e w' ⟨rfl, q2, rfl⟩
      by_cases hyes : sl p < s
      · rw [decide_eq_true hyes]
        have Hyes := Lib.hid hyes
        clear hyes
        go_wp2_with fail
        go_ret
        have hf := hit_at (f := oldAt sl s) hx.out Ht.out (decide_eq_true Hyes.out)
        exact ⟨by rw [hf]; rfl, _, rfl⟩
      · rw [decide_eq_false hyes]
        have Hyes := Lib.hid hyes
        clear hyes
        go_wp2_with fail
        go_roundw
        case rel => exact ⟨k + 1, by omega, by go_num, Lib.hid (by rw [Hmore.out]; intro u hu; rcases List.mem_append.1 hu with e | e; exact hx.out u e; simp at e; subst e; exact decide_eq_false (Int.not_lt.2 Hyes.out)), _, rfl⟩
        case measure => simp [intOf]; omega
    · have g1 : ¬ (k : Int) < ps.length := by omega
      have hf : ps.findIdx? (oldAt sl s) = none := by
        rw [List.findIdx?_eq_none_iff]
        have := hx.out
        rwa [List.take_of_length_le (by omega)] at this
      have Hf := Lib.hid hf
      clear hf hx
      go_wp2_with fail
      go_ret
      exact ⟨by rw [Hf.out]; rfl, q, rfl⟩
theorem ptr_inf : (Try.prog.info? 52).map (fun i => (i.zero, i.size, i.bytes)) = some (some (.pointer none), 1, 8) := by kernel_rfl
theorem ptr_zero (w : World) : (zeroValue 52).run Try.prog w = .ok (.pointer none) w := by
  obtain ⟨i, hi, hz, _, _⟩ := info_parts ptr_inf
  simp [zeroValue, typeInfo, hi, hz]
theorem ptr_clear (w : World) (ty : TypeId) (b o m c : Nat) (hc : ∀ j, j < m → (w.cell? ⟨b, o + j, none⟩).isSome = true) (hf : ∀ j, j < m → w.frozen? ⟨b, o + j, none⟩ = false) :
    (Builtin.clear_ #[48] ty #[.slice (some ⟨b, o, none⟩) m c]).run Try.prog w = .ok (.tuple #[]) (w.setCells b o (List.replicate m (.pointer none))) := by
  have hzc : (Builtin.zeroCells #[Value.pointer none] m).toList = List.replicate m (.pointer none) := by
    apply List.ext_getElem
    · simp [Builtin.zeroCells]
    · intro i h1 h2
      simp [Builtin.zeroCells, Nat.mod_one]
  have hst := run_storeCells_cells (P := Try.prog) b o (List.replicate m (.pointer none)) 0 w (by simpa using hc) (by simpa using hf) (fun u hu => by rw [List.eq_of_mem_replicate hu]; rfl)
  simp only [Nat.add_zero] at hst
  have hzz : (Value.pointer none).cells = #[Value.pointer none] := by rfl
  have hz0 := ptr_zero
  cases m with
  | zero =>
    simp [Builtin.clear_, run_underlying Try.underlying48]
    rfl
  | succ m => simp [Builtin.clear_, run_underlying Try.underlying48, hz0, hzz, hzc, hst]
def DelEnd (base : Nat) (lv : Value) (ps' : List Nat) (w : World) (e : Ending) (w' : World) : Prop :=
  ∃ lv', e = .returned lv' ∧ lv'.ownBlock = lv.ownBlock ∧ w'.ownsRow base 52 1 lv' ps'.length (ps'.map ptrV) ∧ Touch (fun k => lv.ownBlock = some k) w w'
/-- Where the deletion stands: the first q were looked at, m of them kept. -/
def DelRel (w : World) (g cap : Nat) (sl : Nat → Int) (s : Int) (ps : List Nat) (m q : Nat) (wr : World) : Prop :=
  ∃ cur : Array Value, Blk wr g 52 cur ∧ cur.size = cap ∧ cur.toList.take m = ((ps.take q).filter fun p => !oldAt sl s p).map ptrV ∧ (∀ t, q ≤ t → t < ps.length → cur[t]? = (ps[t]?).map ptrV) ∧ Touch (fun k => k = g) w wr
theorem DelRel.skip {w wr : World} {g cap m q p : Nat} {sl : Nat → Int} {s : Int} {ps : List Nat} (h : DelRel w g cap sl s ps m q wr) (hp : ps[q]? = some p) (ho : sl p < s) (n : Nat) : DelRel w g cap sl s ps m (q + 1) (wr.drewN n) := by
  obtain ⟨cur, h1, h2, h3, h4, h5⟩ := h
  refine ⟨cur, h1, h2, ?_, fun t a b => h4 t (by omega) b, h5.trans (Touch.drewN (fun _ => False) wr n) (fun _ _ g => g.elim)⟩
  rw [h3, List.take_add_one, hp]
  simp [List.filter_append, oldAt, ho]
theorem DelRel.keep {w wr : World} {g cap m q p : Nat} {sl : Nat → Int} {s : Int} {ps : List Nat} (h : DelRel w g cap sl s ps m q wr) (hp : ps[q]? = some p) (ho : ¬ sl p < s) (hm : m < q) (hq : q < ps.length) (hc : ps.length ≤ cap) (n : Nat) : DelRel w g cap sl s ps (m + 1) (q + 1) ((wr.drewN n).setCell ⟨g, m, none⟩ (ptrV p)) := by
  obtain ⟨cur, h1, h2, h3, h4, h5⟩ := h
  have h1' : Blk (wr.drewN n) g 52 cur := h1
  refine ⟨cur.setIfInBounds m (ptrV p), h1'.set m _, by rw [Array.size_setIfInBounds, h2], ?_, fun t a b => ?_, (h5.trans (Touch.drewN (fun _ => False) wr n) (fun _ _ g => g.elim)).trans (Touch.setCell (T := fun k => k = g) _ _ (fun _ => rfl)) (fun _ _ e => e)⟩
  · rw [Array.toList_setIfInBounds, List.take_add_one, List.take_set, List.set_eq_of_length_le (by rw [List.length_take]; omega), h3, List.getElem?_set_self (by simp [h2]; omega), List.take_add_one, hp]
    simp [List.filter_append, oldAt, ho]
  · rw [Array.getElem?_setIfInBounds_ne (by omega)]
    exact h4 t (by omega) b
set_option maxRecDepth 100000 in
set_option maxHeartbeats 4000000 in
theorem del_any {w : World} {base : Nat} {lv : Value} {ps : List Nat} {sl : Nat → Int} (c1 : Nat) (s : Int) (h : w.ownsRow base 52 1 lv ps.length (ps.map ptrV)) (hs : ∀ p ∈ ps, w.cell? ⟨p, 0, none⟩ = some (.int .i64 (sl p)) ∧ p < w.heap.size ∧ lv.ownBlock ≠ some p) (hl : ps.length ≤ 1000000) (k1 : w.cell? ⟨c1, 0, none⟩ = some (.int .i64 s)) (k2 : c1 < w.heap.size ∧ lv.ownBlock ≠ some c1) :
    Calls Try.prog 27 #[lv, .func (.func 26) #[] #[.pointer (some ⟨c1, 0, none⟩)]] w (DelEnd base lv (ps.filter fun p => !oldAt sl s p) w) := by
  have hix := index_old c1 s h (fun p hp => (hs p hp).1) (by omega) k1
  obtain ⟨A, c, rfl⟩ := own_shape h
  cases hfi : ps.findIdx? (oldAt sl s) with
  | none =>
    rw [hfi] at hix
    have hall : (ps.filter fun p => !oldAt sl s p) = ps := by
      rw [List.filter_eq_self]
      intro p hp
      rw [List.findIdx?_eq_none_iff] at hfi
      rw [hfi p hp]; rfl
    have hend : ∀ q, DelEnd base (.slice A ps.length c) (ps.filter fun p => !oldAt sl s p) w (.returned (.slice A ps.length c)) (w.drewN q) := fun q => by
      rw [hall]
      exact ⟨_, rfl, rfl, own_touch h (Touch.drewN (fun _ => False) w q) (fun _ _ g => g), Touch.drewN _ w q⟩
    have Hend := Lib.hid hend
    have Hix := Lib.hid hix
    clear hix hend hall hfi h hs k1 k2
    go_enter Try.func27, Try.ntmps27
    go_wp2_with fail
    refine Hix.out.mono ?_
    rintro e w' ⟨rfl, q, rfl⟩
    simp only [idxV]
    go_wp2_with fail
    go_ret
    exact Hend.out q
  | some i =>
    rw [hfi] at hix
    obtain ⟨hil, hiy, hin⟩ := List.findIdx?_eq_some_iff_getElem.1 hfi
    rcases h.2 with ⟨hv, _⟩ | ⟨g, cap, cur, hv, hB, hgb, hnc, hcm, hcs, hct⟩
    · injection hv with e1 e2 e3
      omega
    injection hv with e1 e2 e3
    subst e1 e3
    clear e2
    have hob : ∀ k, Value.ownBlock (.slice (some ⟨g, 0, none⟩) ps.length c) = some k ↔ k = g := fun k => by simp [Value.ownBlock]; exact eq_comm
    have hrel0 : ∀ q, DelRel w g c sl s ps i (i + 1) (w.drewN q) := fun q => by
      refine ⟨cur, hgb, by simpa using hcs, ?_, fun t a b => ?_, Touch.drewN _ w q⟩
      · have h1 : cur.toList.take i = (ps.take i).map ptrV := by
          rw [List.map_take, ← hct, List.take_take, Nat.min_eq_left (by omega)]
        rw [h1, List.take_add_one, List.getElem?_eq_getElem hil, List.filter_append]
        congr 1
        have h2 : (ps.take i).filter (fun p => !oldAt sl s p) = ps.take i := by
          rw [List.filter_eq_self]
          intro p hp
          obtain ⟨j, hj, rfl⟩ := List.getElem_of_mem hp
          rw [List.length_take] at hj
          have := hin j (by omega)
          rw [List.getElem_take]
          simpa using this
        rw [h2]
        simp [hiy]
      · rw [← List.getElem?_map, ← hct, List.getElem?_take, if_pos (by omega)]
        simp
    have Hs : Hid (∀ p ∈ ps, w.cell? ⟨p, 0, none⟩ = some (.int .i64 (sl p)) ∧ p < w.heap.size ∧ p ≠ g) := Lib.hid (fun p hp => ⟨(hs p hp).1, (hs p hp).2.1, fun e => (hs p hp).2.2 ((hob p).2 e)⟩)
    have hc1 : c1 < w.heap.size ∧ c1 ≠ g := ⟨k2.1, fun e => k2.2 ((hob c1).2 e)⟩
    have Hend : Hid (∀ (m : Nat) (W : World), m < ps.length → DelRel w g c sl s ps m ps.length W → DelEnd base (.slice (some ⟨g, 0, none⟩) ps.length c) (ps.filter fun p => !oldAt sl s p) w (.returned (.slice (some ⟨g, 0, none⟩) m c)) (W.setCells g m (List.replicate (ps.length - m) (.pointer none)))) := Lib.hid (fun m W hm hR => by
      obtain ⟨cu, r1, r2, r3, _, r5⟩ := hR
      rw [List.take_length] at r3
      have hml : (ps.filter fun p => !oldAt sl s p).length = m := by
        have := congrArg List.length r3
        rw [List.length_take, List.length_map] at this
        simp [r2] at this
        omega
      obtain ⟨cu', q1, q2, q3⟩ := Blk.many (List.replicate (ps.length - m) (.pointer none)) m r1 (by rw [List.length_replicate, r2]; omega)
      refine ⟨_, rfl, rfl, ⟨by rw [List.length_map, Nat.mul_one], .inr ⟨g, c, cu', by rw [hml], hB, q1, by rw [hml]; omega, hcm, by rw [q2, r2, Nat.mul_one], ?_⟩⟩, ?_⟩
      · rw [hml, q3, List.append_assoc, Nat.mul_one, List.take_append_of_le_length (by rw [List.length_take]; simp [r2]; omega), List.take_take, Nat.min_self, r3]
      · exact (r5.trans (Touch.many (T := fun k => k = g) rfl _ _ _) (fun _ _ e => e)).mono (fun k _ e => (hob k).2 e))
    have hcm' : c ≤ 9223372036854775807 := by unfold maxLen at hcm; omega
    have Hix := Lib.hid hix
    have Hrel0 := Lib.hid hrel0
    clear hix hrel0 hs k2 h hfi hiy hin hct hcs hgb hB hob hcm
    go_enter Try.func27, Try.ntmps27
    go_wp2_with fail
    refine Hix.out.mono ?_
    rintro e w' ⟨rfl, q0, rfl⟩
    simp only [idxV]
    have i1 : ((i : Int) == -1) = false := by rw [beq_eq_false_iff_ne]; omega
    go_wp2_with fail
    go_loopw [5, 6] (fun a b wr => ∃ m q : Nat, m < q ∧ q ≤ ps.length ∧ a = .int .i64 m ∧ b = .int .i64 q ∧ DelRel w g c sl s ps m q wr) (fun _ b _ => ps.length - (intOf b).toNat)
    case atStart => exact ⟨i, i + 1, by omega, by omega, rfl, by go_num, Hrel0.out q0⟩
    case round =>
      obtain ⟨m, q, hmq, hq, rfl, rfl, hR⟩ := hrel
      have HR := Lib.hid hR
      clear hR
      by_cases hlt : q < ps.length
      · obtain ⟨p, hp⟩ : ∃ p, ps[q]? = some p := ⟨ps[q], List.getElem?_eq_getElem hlt⟩
        obtain ⟨cu, r1, r2, r3, r4, r5⟩ := HR.out
        have hcell : wr.cell? ⟨g, q, none⟩ = some (.pointer (some ⟨p, 0, none⟩)) := by
          rw [r1.cell, r4 q (by omega) hlt, hp]; rfl
        have hps := Hs.out p (List.mem_of_getElem? hp)
        have hs0 : wr.cell? ⟨p, 0, none⟩ = some (.int .i64 (sl p)) := (r5.cell (p := ⟨p, 0, none⟩) hps.2.1 hps.2.2).trans hps.1
        have hcall := old_any wr p c1 (sl p) s hs0 ((r5.cell (p := ⟨c1, 0, none⟩) hc1.1 hc1.2).trans k1)
        have g1 : (q : Int) < ps.length := by omega
        have g2 : (0 : Int) ≤ q := by omega
        have g3 : (0 : Int) ≤ m := by omega
        have g4 : (m : Int) < ps.length := by omega
        have Hp := Lib.hid hp
        have Hcall := Lib.hid hcall
        have hst : ∃ x, cu[m]? = some x := ⟨cu[m]'(by omega), Array.getElem?_eq_getElem (by omega)⟩
        obtain ⟨x, hx⟩ := hst
        have hm1 := (r1.cell m).trans hx
        have hm2 := r1.frozen m
        clear hx r1 r2 r3 r4 r5 hps hs0 hcall hp
        go_wp2_with fail
        refine Hcall.out.mono ?_
        rintro e w' ⟨rfl, q2, rfl⟩
        by_cases hyes : sl p < s
        · rw [decide_eq_true hyes]
          have Hn := Lib.hid (HR.out.skip Hp.out hyes)
          clear hyes
          go_wp2_with fail
          go_roundw
          case rel => exact ⟨m, q + 1, by omega, by omega, rfl, by go_num, Hn.out _⟩
          case measure => simp [intOf]; omega
        · rw [decide_eq_false hyes]
          have Hn := Lib.hid (HR.out.keep Hp.out hyes hmq hlt hnc q2)
          have hn1 : (wr.drewN q2).cell? ⟨g, m, none⟩ = some x := hm1
          have hn2 : (wr.drewN q2).frozen? ⟨g, m, none⟩ = false := hm2
          obtain ⟨w3, hw3⟩ : ∃ w3, w3 = wr.drewN q2 := ⟨_, rfl⟩
          rw [← hw3] at hn1 hn2 Hn ⊢
          clear hyes hw3
          go_wp2_with fail
          go_roundw
          case rel => exact ⟨m + 1, q + 1, by omega, by omega, by go_num, by go_num, Hn.out⟩
          case measure => simp [intOf]; omega
      · have hqe : q = ps.length := by omega
        subst hqe
        have g1 : ¬ (ps.length : Int) < ps.length := by omega
        have g2 : (0 : Int) ≤ m := by omega
        have g3 : (m : Int) ≤ ps.length := by omega
        have g4 : m ≤ ps.length := by omega
        have g5 : ¬ c = m := by omega
        have g6 : m ≤ c := by omega
        obtain ⟨cu, r1, r2, r3, r4, r5⟩ := HR.out
        have hcl : ∀ ty, (Builtin.clear_ #[48] ty #[.slice (some ⟨g, m, none⟩) (ps.length - m) (c - m)]).run Try.prog wr = .ok (.tuple #[]) (wr.setCells g m (List.replicate (ps.length - m) (.pointer none))) := fun ty => ptr_clear wr ty g m _ _ (fun j hj => by
          rw [r1.cell, Array.getElem?_eq_getElem (by omega)]; rfl) (fun j _ => r1.frozen _)
        have Hn := Lib.hid (Hend.out m wr hmq HR.out)
        clear r1 r2 r3 r4 r5 HR
        go_wp2_with fail
        go_ret
        exact Hn.out
end Go.Proofs.Ytkghogfcfocmpaa
