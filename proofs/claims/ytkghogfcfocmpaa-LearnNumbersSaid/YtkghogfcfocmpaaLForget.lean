/- The contracts of Forget, Len and Low. -/
import Derived.Test.YtkghogfcfocmpaaLDel
namespace Go.Proofs.Ytkghogfcfocmpaa
open Go.RowKit

theorem slotOf_mem {ts : List TallyT} (h : (ts.map fun t => t.p).Nodup) {t : TallyT} (ht : t ∈ ts) : slotOf ts t.p = t.slot := by unfold slotOf; rw [look_mem h ht]; rfl
def young (s : Int) (t : TallyT) : Bool := !decide (t.slot < s)
def keptT (s : Int) (ts : List TallyT) : List TallyT := ts.filter (young s)
def keptD (s : Int) (ts : List TallyT) (ds : List Nat) : List Nat := ds.filter fun p => !oldAt (slotOf ts) s p
theorem keptT_map {ts : List TallyT} (h : (ts.map fun t => t.p).Nodup) (s : Int) : (ts.map fun t => t.p).filter (fun p => !oldAt (slotOf ts) s p) = (keptT s ts).map fun t => t.p := by
  rw [List.filter_map]
  unfold keptT
  congr 1
  refine List.filter_congr fun t ht => ?_
  show (!oldAt (slotOf ts) s t.p) = young s t
  unfold oldAt young
  rw [slotOf_mem h ht]
/-- The memory of Forget. -/
theorem LearnAt.cut {w w0 w2 w4 : World} {base : Nat} {tag : Nat → Nat} {D : Nat} {n low s : Int} {ts : List TallyT} {ds : List Nat} {lv dv lv' dv' : Value} (h : LearnAt w base tag D n low ts ds lv dv) (b0 : Below w.heap.size w w0)
    (o2 : w2.ownsRow base 52 1 lv' ((keptT s ts).map fun t => t.p).length (((keptT s ts).map fun t => t.p).map ptrV)) (e2 : lv'.ownBlock = lv.ownBlock) (t2 : Touch (fun k => lv.ownBlock = some k) (w0.setCell ⟨D, 1, none⟩ (.int .i64 s)) w2)
    (o4 : w4.ownsRow base 52 1 dv' (keptD s ts ds).length ((keptD s ts ds).map ptrV)) (e4 : dv'.ownBlock = dv.ownBlock) (t4 : Touch (fun k => dv.ownBlock = some k) (w2.setCell ⟨D, 2, none⟩ lv') w4) :
    LearnAt (w4.setCell ⟨D, 3, none⟩ dv') base tag D n s (keptT s ts) (keptD s ts ds) lv' dv' ∧ Touch (fun k => tag k ≠ 0) w (w4.setCell ⟨D, 3, none⟩ dv') := by
  have a1 : Touch (fun k => k = D) w0 (w0.setCell ⟨D, 1, none⟩ (.int .i64 s)) := Touch.setCell _ _ (fun _ => rfl)
  have a3 : Touch (fun k => k = D) w2 (w2.setCell ⟨D, 2, none⟩ lv') := Touch.setCell _ _ (fun _ => rfl)
  have a5 : Touch (fun k => k = D) w4 (w4.setCell ⟨D, 3, none⟩ dv') := Touch.setCell _ _ (fun _ => rfl)
  have hlD : lv.ownBlock ≠ some D := fun e => by have := h.tagl D e; rw [h.tagD] at this; omega
  have hdD : dv.ownBlock ≠ some D := fun e => by have := h.tagd D e; rw [h.tagD] at this; omega
  have T : Touch (fun k => tag k ≤ 3 ∧ tag k ≠ 0) w (w4.setCell ⟨D, 3, none⟩ dv') := by
    have hD : tag D ≤ 3 ∧ tag D ≠ 0 := by rw [h.tagD]; omega
    have hl : ∀ k, lv.ownBlock = some k → tag k ≤ 3 ∧ tag k ≠ 0 := fun k e => by rw [h.tagl k e]; omega
    have hd : ∀ k, dv.ownBlock = some k → tag k ≤ 3 ∧ tag k ≠ 0 := fun k e => by rw [h.tagd k e]; omega
    refine (((((Touch.of_below b0 _).trans (a1.mono (T' := fun k => tag k ≤ 3 ∧ tag k ≠ 0) (fun k _ e => by subst e; exact hD)) (fun _ _ e => e)).trans (t2.mono (T' := fun k => tag k ≤ 3 ∧ tag k ≠ 0) (fun k _ e => hl k e)) (fun _ _ e => e)).trans (a3.mono (T' := fun k => tag k ≤ 3 ∧ tag k ≠ 0) (fun k _ e => by subst e; exact hD)) (fun _ _ e => e)).trans (t4.mono (T' := fun k => tag k ≤ 3 ∧ tag k ≠ 0) (fun k _ e => hd k e)) (fun _ _ e => e)).trans (a5.mono (T' := fun k => tag k ≤ 3 ∧ tag k ≠ 0) (fun k _ e => by subst e; exact hD)) (fun _ _ e => e)
  have hz := T.size
  refine ⟨⟨?_, ?_, ?_, ?_, h.tagD, fun k e => h.tagl k (by rw [← e2]; exact e), fun k e => h.tagd k (by rw [← e4]; exact e), fun k hk => ⟨(h.rng k hk).1, Nat.lt_of_lt_of_le (h.rng k hk).2 hz⟩, ?_, ?_⟩, T.mono (fun k _ e => e.2)⟩
  · have := (((((h.blk.touch (Touch.of_below b0 fun _ => False) (fun g => g)).set 1 (.int .i64 s)).touch t2 hlD).set 2 lv').touch t4 hdD).set 3 dv'
    simpa using this
  · have := own_touch (own_touch (own_touch o2 a3 (fun k e e3 => by subst e3; exact hlD (by rw [← e2]; exact e))) t4 (fun k e e3 => by have h1 := h.tagl k (by rw [← e2]; exact e); have h2 := h.tagd k e3; omega)) a5 (fun k e e3 => by subst e3; exact hlD (by rw [← e2]; exact e))
    rw [List.length_map, List.map_map] at this
    exact this
  · exact own_touch o4 a5 (fun k e e3 => by subst e3; exact hdD (by rw [← e4]; exact e))
  · exact fun t ht => (h.tally t (List.mem_filter.1 ht).1).touch T (fun k hk => (h.rng k hk).2) (fun k hk => ⟨fun e => by omega, rfl⟩)
  · exact h.nd.sublist ((List.filter_sublist).map _)
  · intro p hp
    obtain ⟨hp1, hp2⟩ := List.mem_filter.1 hp
    obtain ⟨t, ht, rfl⟩ := h.dec p hp1
    refine ⟨t, List.mem_filter.2 ⟨ht, ?_⟩, rfl⟩
    unfold oldAt at hp2
    rw [slotOf_mem h.nd ht] at hp2
    exact hp2
def ForgetEnd (w : World) (base : Nat) (tag : Nat → Nat) (D : Nat) (n s : Int) (ts : List TallyT) (ds : List Nat) (e : Ending) (w' : World) : Prop :=
  e = .returned (.tuple #[]) ∧ ∃ lv' dv', LearnAt w' base tag D n s (keptT s ts) (keptD s ts ds) lv' dv' ∧ Touch (fun k => tag k ≠ 0) w w'
set_option maxRecDepth 100000 in
set_option maxHeartbeats 4000000 in
theorem forget_in {w : World} {base : Nat} {tag : Nat → Nat} {D : Nat} {n low : Int} {ts : List TallyT} {ds : List Nat} {lv dv : Value} (s : Int) (h : LearnAt w base tag D n low ts ds lv dv) (hs : low < s) (hs2 : s ≤ 1073741824) (hl : ts.length ≤ 1000000) (hdl : ds.length ≤ 1000000) :
    Calls Try.prog 13 #[.pointer (some ⟨D, 0, none⟩), .int .i64 s] w (ForgetEnd w base tag D n s ts ds) := by
  obtain ⟨W0, hW0⟩ : ∃ W0, W0 = w.alloc (.cells #[.int .i64 s] 3) := ⟨_, rfl⟩
  have b0 : Below w.heap.size w W0 := by rw [hW0]; exact (Below.refl w.heap.size w).alloc (Nat.le_refl _) _
  have c1 : W0.cell? ⟨w.heap.size, 0, none⟩ = some (.int .i64 s) := by rw [hW0]; exact (Blk.new w 3 #[.int .i64 s]).cell 0
  have hz0 : W0.heap.size = w.heap.size + 1 := by rw [hW0]; simp
  have h0 := h.below b0
  have k1 : W0.cell? ⟨D, 1, none⟩ = some (.int .i64 low) := h0.blk.cell 1
  have d1 : decide (s ≤ low) = false := decide_eq_false (by omega)
  have d2 : decide (1073741824 < s) = false := decide_eq_false (by omega)
  have HW0 := Lib.hid hW0
  have H := Lib.hid h
  have H0 := Lib.hid h0
  have B0 := Lib.hid b0
  have Hz0 := Lib.hid hz0
  have C1 := Lib.hid c1
  clear h h0 b0 hW0 hz0
  go_enter Try.func13, Try.ntmps13
  go_wp2_with fail
  rw [← HW0.out]
  go_quiet (fail)
  obtain ⟨WA, hWA⟩ : ∃ WA, WA = W0.drewN nq := ⟨_, rfl⟩
  rw [← hWA]
  have hA := H0.out.touch (w' := WA) (T := fun _ => False) (by rw [hWA]; exact Touch.drewN _ _ _) (fun _ _ g => g)
  have bA : Below w.heap.size w WA := by rw [hWA]; exact below_drewN B0.out _
  have cA : WA.cell? ⟨w.heap.size, 0, none⟩ = some (.int .i64 s) := by rw [hWA]; exact C1.out
  have hzA : WA.heap.size = w.heap.size + 1 := by rw [hWA]; exact Hz0.out
  have kA := hA.blk.cell 1
  have fA := hA.blk.frozen 1
  have kA2 := hA.blk.cell 2
  have hlD : lv.ownBlock ≠ some D := fun e => by have := hA.tagl D e; rw [hA.tagD] at this; omega
  have hdD : dv.ownBlock ≠ some D := fun e => by have := hA.tagd D e; rw [hA.tagD] at this; omega
  have hwl : lv.ownBlock ≠ some w.heap.size := fun e => by have := (H.out.lrow.lt _ e).2; omega
  have hwd : dv.ownBlock ≠ some w.heap.size := fun e => by have := (H.out.drow.lt _ e).2; omega
  have hDw : D ≠ w.heap.size := fun e => by have := (H.out.rng D (by rw [H.out.tagD]; omega)).2; omega
  have a1 : Touch (fun k => k = D) WA (WA.setCell ⟨D, 1, none⟩ (.int .i64 s)) := Touch.setCell _ _ (fun _ => rfl)
  have hps : ∀ (t : TallyT), t ∈ ts → WA.cell? ⟨t.p, 0, none⟩ = some (.int .i64 t.slot) ∧ t.p < WA.heap.size ∧ t.p ≠ D ∧ lv.ownBlock ≠ some t.p ∧ dv.ownBlock ≠ some t.p := fun t ht => by
    obtain ⟨_, _, _, q1, _, _, q4, _⟩ := hA.tally t ht
    refine ⟨q1.cell 0, q1.lt, fun e => ?_, fun e => ?_, fun e => ?_⟩
    · rw [e, hA.tagD] at q4; omega
    · have := hA.tagl _ e; omega
    · have := hA.tagd _ e; omega
  have hd1 := del_any (w := WA.setCell ⟨D, 1, none⟩ (.int .i64 s)) (ps := ts.map fun t => t.p) (sl := slotOf ts) w.heap.size s (by rw [List.length_map, List.map_map]; exact own_touch hA.lrow a1 (fun k e e2 => by subst e2; exact hlD e)) (fun p hp => by
    obtain ⟨t, ht, rfl⟩ := List.mem_map.1 hp
    obtain ⟨q1, q2, q3, q4, _⟩ := hps t ht
    exact ⟨by rw [slotOf_mem hA.nd ht]; exact (a1.cell (p := ⟨t.p, 0, none⟩) q2 q3).trans q1, Nat.lt_of_lt_of_le q2 a1.size, q4⟩) (by rw [List.length_map]; omega) ((a1.cell (p := ⟨w.heap.size, 0, none⟩) (by show w.heap.size < WA.heap.size; omega) (fun e => hDw e.symm)).trans cA) ⟨by have := a1.size; omega, hwl⟩
  rw [keptT_map hA.nd] at hd1
  have HA := Lib.hid hA
  have BA := Lib.hid bA
  have CA := Lib.hid cA
  have HzA := Lib.hid hzA
  have Hd1 := Lib.hid hd1
  have Hps := Lib.hid hps
  have A1 := Lib.hid a1
  clear hWA hA bA hzA k1 d1 d2 c1 hd1 hps a1
  simp only [List.getElem?_toArray, List.getElem?_cons_succ, List.getElem?_cons_zero] at kA kA2
  go_wp2_with fail
  refine Hd1.out.mono ?_
  rintro e w2 ⟨lv', rfl, e2, o2, t2⟩
  rw [List.length_map] at o2
  obtain ⟨A2, c2, rfl⟩ := own_shape o2
  have hB2 := (HA.out.blk.set 1 (.int .i64 s)).touch t2 hlD
  have k2 := hB2.cell 2
  have f2 := hB2.frozen 2
  have k3 := hB2.cell 3
  have f3 := hB2.frozen 3
  have a3 : Touch (fun k => k = D) w2 (w2.setCell ⟨D, 2, none⟩ (.slice A2 (keptT s ts).length c2)) := Touch.setCell _ _ (fun _ => rfl)
  have T3 : Touch (fun k => k = D ∨ lv.ownBlock = some k) WA (w2.setCell ⟨D, 2, none⟩ (.slice A2 (keptT s ts).length c2)) := ((A1.out.mono (T' := fun k => k = D ∨ lv.ownBlock = some k) (fun _ _ e => .inl e)).trans (t2.mono (T' := fun k => k = D ∨ lv.ownBlock = some k) (fun _ _ e => .inr e)) (fun _ _ e => e)).trans (a3.mono (T' := fun k => k = D ∨ lv.ownBlock = some k) (fun _ _ e => .inl e)) (fun _ _ e => e)
  have hd2 := del_any (w := w2.setCell ⟨D, 2, none⟩ (.slice A2 (keptT s ts).length c2)) (ps := ds) (sl := slotOf ts) w.heap.size s (own_touch HA.out.drow T3 (fun k e e2 => by
    rcases e2 with e2 | e2
    · subst e2; exact hdD e
    · have h1 := HA.out.tagl k e2; have h2 := HA.out.tagd k e; omega)) (fun p hp => by
    obtain ⟨t, ht, rfl⟩ := HA.out.dec p hp
    obtain ⟨q1, q2, q3, q4, q5⟩ := Hps.out t ht
    exact ⟨by rw [slotOf_mem HA.out.nd ht]; exact (T3.cell (p := ⟨t.p, 0, none⟩) q2 (fun e => e.elim q3 q4)).trans q1, Nat.lt_of_lt_of_le q2 T3.size, q5⟩) (by omega) ((T3.cell (p := ⟨w.heap.size, 0, none⟩) (by show w.heap.size < WA.heap.size; have := HzA.out; omega) (fun e => e.elim (fun e => hDw e.symm) hwl)).trans cA) ⟨by have := T3.size; have := HzA.out; omega, hwd⟩
  have Hd2 := Lib.hid hd2
  have HB2 := Lib.hid hB2
  have E2 := Lib.hid e2
  have O2 := Lib.hid o2
  have T2 := Lib.hid t2
  clear hd2 hB2 e2 o2 t2 a3 T3 kA2 cA
  simp only [List.setIfInBounds_toArray, List.set_cons_zero, List.set_cons_succ, List.getElem?_toArray, List.getElem?_cons_succ, List.getElem?_cons_zero] at k2 k3
  go_wp2_with fail
  refine Hd2.out.mono ?_
  rintro e w4 ⟨dv', rfl, e4, o4, t4⟩
  obtain ⟨A4, c4, rfl⟩ := own_shape o4
  have hB4 := (HB2.out.set 2 (.slice A2 (keptT s ts).length c2)).touch t4 hdD
  have k4 := hB4.cell 3
  have f4 := hB4.frozen 3
  have hfin := HA.out.cut (Below.refl _ _) (by rw [List.length_map]; exact O2.out) E2.out T2.out o4 e4 t4
  have Hfin := Lib.hid hfin
  clear hfin hB4 e4 o4 t4 k2 k3 f2 f3
  simp only [List.setIfInBounds_toArray, List.set_cons_zero, List.set_cons_succ, List.getElem?_toArray, List.getElem?_cons_succ, List.getElem?_cons_zero] at k4
  go_wp2_with fail
  go_end0
  exact ⟨rfl, _, _, Hfin.out.1, (Touch.of_below BA.out _).trans Hfin.out.2 (fun _ _ e => e)⟩
set_option maxHeartbeats 1000000 in
theorem forget_out {w : World} {base : Nat} {tag : Nat → Nat} {D : Nat} {n low : Int} {ts : List TallyT} {ds : List Nat} {lv dv : Value} (s : Int) (h : LearnAt w base tag D n low ts ds lv dv) (hs : ¬ (low < s ∧ s ≤ 1073741824)) :
    Calls Try.prog 13 #[.pointer (some ⟨D, 0, none⟩), .int .i64 s] w fun e w' => e = .returned (.tuple #[]) ∧ Below w.heap.size w w' := by
  obtain ⟨W0, hW0⟩ : ∃ W0, W0 = w.alloc (.cells #[.int .i64 s] 3) := ⟨_, rfl⟩
  have b0 : Below w.heap.size w W0 := by rw [hW0]; exact (Below.refl w.heap.size w).alloc (Nat.le_refl _) _
  have c1 : W0.cell? ⟨w.heap.size, 0, none⟩ = some (.int .i64 s) := by rw [hW0]; exact (Blk.new w 3 #[.int .i64 s]).cell 0
  have h0 := h.below b0
  have k1 : W0.cell? ⟨D, 1, none⟩ = some (.int .i64 low) := h0.blk.cell 1
  have HW0 := Lib.hid hW0
  have Hend : Hid (∀ q, Below w.heap.size w (W0.drewN q)) := Lib.hid (fun q => below_drewN b0 q)
  clear h h0 b0 hW0
  by_cases q1 : s ≤ low
  · have d1 : decide (s ≤ low) = true := decide_eq_true q1
    clear q1 hs
    go_enter Try.func13, Try.ntmps13
    go_wp2_with fail
    rw [← HW0.out]
    go_quiet (fail)
    go_wp2_with fail
    (try simp only [Exit.inBlock, Exit.then]); refine bodyPost_ret (results_none rfl _ _ _) rfl ?_
    exact ⟨rfl, Hend.out _⟩
  · have d1 : decide (s ≤ low) = false := decide_eq_false q1
    have d2 : decide (1073741824 < s) = true := decide_eq_true (by omega)
    clear q1 hs
    go_enter Try.func13, Try.ntmps13
    go_wp2_with fail
    rw [← HW0.out]
    go_quiet (fail)
    go_wp2_with fail
    (try simp only [Exit.inBlock, Exit.then]); refine bodyPost_ret (results_none rfl _ _ _) rfl ?_
    exact ⟨rfl, Hend.out _⟩
end Go.Proofs.Ytkghogfcfocmpaa
