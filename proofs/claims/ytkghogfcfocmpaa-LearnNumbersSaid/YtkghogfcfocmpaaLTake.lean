/- Take, of a vote within its bounds. -/
import Derived.Test.YtkghogfcfocmpaaLTakeOut
import Derived.Deep.CutRange
namespace Go.Proofs.Ytkghogfcfocmpaa
open Go.RowKit

def withT (ts : List TallyT) (slot b : Int) (v : List UInt8) (T : Nat) : List TallyT := match firstAt slot b ts with | none => ts ++ [⟨T, slot, b, v, []⟩] | some _ => ts
/-- What Take makes of a vote within its bounds. -/
def Took (n : Int) (ts : List TallyT) (ds : List Nat) (slot b src : Int) (v : List UInt8) (T : Nat) : Bool × List TallyT × List Nat :=
  match (withT ts slot b v T).find? (isAt slot b) with
  | none => (false, withT ts slot b v T, ds)
  | some t =>
    if t.v = v then
      if src ∈ t.src then (true, withT ts slot b v T, ds)
      else (true, (withT ts slot b v T).map (addSrc t.p src), if n / 2 + 1 ≤ (t.src.length : Int) + 1 ∧ findD ((withT ts slot b v T).map (addSrc t.p src)) ds slot = none then ds ++ [t.p] else ds)
    else (false, withT ts slot b v T, ds)
def TakeEnd (w : World) (base : Nat) (tag : Nat → Nat) (D : Nat) (n low : Int) (ts : List TallyT) (ds : List Nat) (slot b src : Int) (v : List UInt8) (e : Ending) (w' : World) : Prop :=
  ∃ T tag' lv' dv', (∀ (t : TallyT), t ∈ ts → t.p ≠ T) ∧ e = .returned (.bool (Took n ts ds slot b src v T).1) ∧ LearnAt w' base tag' D n low (Took n ts ds slot b src v T).2.1 (Took n ts ds slot b src v T).2.2 lv' dv' ∧ (∀ k, tag' k ≠ 0 → tag k ≠ 0 ∨ w.heap.size ≤ k) ∧ Touch (fun k => tag k ≠ 0) w w'
/-- Where the walk's two ways meet: the tally is there. -/
def Found (w : World) (base : Nat) (tag : Nat → Nat) (D : Nat) (n low : Int) (ts : List TallyT) (ds : List Nat) (dv : Value) (slot b : Int) (v : List UInt8) (i : Value) (wx : World) : Prop :=
  ∃ T k t tag1 lv1, (∀ (u : TallyT), u ∈ ts → u.p ≠ T) ∧ (withT ts slot b v T).find? (isAt slot b) = some t ∧ (withT ts slot b v T)[k]? = some t ∧ i = .int .i64 (k : Nat) ∧ LearnAt wx base tag1 D n low (withT ts slot b v T) ds lv1 dv ∧ (∀ k, tag1 k ≠ 0 → tag k ≠ 0 ∨ w.heap.size ≤ k) ∧ Touch (fun k => tag k ≠ 0) w wx ∧ wx.cell? ⟨w.heap.size, 0, none⟩ = some (.int .i64 slot) ∧ (∀ k, tag1 k ≠ 0 → k ≠ w.heap.size)
theorem int_info : (Try.prog.info? 3).map (fun i => (i.zero, i.size, i.bytes)) = some (some (.int .i64 0), 1, 8) := by kernel_rfl
theorem ptr_info : (Try.prog.info? 52).map (fun i => (i.zero, i.size, i.bytes)) = some (some (.pointer none), 1, 8) := by kernel_rfl
theorem first_some {s b : Int} : ∀ {ts : List TallyT} {k : Nat}, firstAt s b ts = some k → ∃ t, ts[k]? = some t ∧ ts.find? (isAt s b) = some t
  | [], k, h => by simp [firstAt] at h
  | a :: r, k, h => by
    unfold firstAt at h
    rw [List.findIdx?_cons] at h
    by_cases ha : isAt s b a = true
    · rw [if_pos ha] at h
      injection h with h
      subst h
      exact ⟨a, rfl, by simp [ha]⟩
    · rw [if_neg ha] at h
      obtain ⟨j, hj, rfl⟩ := Option.map_eq_some_iff.1 h
      obtain ⟨t, h1, h2⟩ := first_some (ts := r) hj
      exact ⟨t, by simpa using h1, by rw [List.find?_cons]; simp [ha, h2]⟩
theorem first_new {s b : Int} {ts : List TallyT} (h : firstAt s b ts = none) (T : Nat) (v : List UInt8) : (ts ++ [(⟨T, s, b, v, []⟩ : TallyT)]).find? (isAt s b) = some ⟨T, s, b, v, []⟩ := by
  unfold firstAt at h
  rw [List.findIdx?_eq_none_iff] at h
  rw [List.find?_append]
  have : ts.find? (isAt s b) = none := by rw [List.find?_eq_none]; intro x hx; rw [h x hx]; simp
  rw [this]
  simp [isAt]

theorem found_new {w WB w1 w2 : World} {base : Nat} {tag : Nat → Nat} {D : Nat} {n low slot b : Int} {ts : List TallyT} {ds : List Nat} {lv dv lv2 : Value} {v : List UInt8} {A : Option Addr} {c : Nat} {L : Obj} (H : LearnAt w base tag D n low ts ds lv dv) (hbB : Below w.heap.size w WB) (hzB : w.heap.size + 1 < WB.heap.size) (hnB : LearnAt WB base tag D n low ts ds lv dv) (hfa : firstAt slot b ts = none) (hc : WB.cell? ⟨w.heap.size, 0, none⟩ = some (.int .i64 slot))
    (hb1 : Below WB.heap.size WB w1) (hv : w1.ownsRow WB.heap.size 5 1 (.slice A v.length c) v.length (v.map byteV))
    (hown : w2.ownsRow base 52 1 lv2 (ts.length + 1) ((ts.map fun t => ptrV t.p) ++ [.pointer (some ⟨w1.heap.size, 0, none⟩)])) (hg : ((w1.alloc (.cells #[.int .i64 slot, .int .i64 b, .slice A v.length c, .slice none 0 0] 54)).alloc L).grownBy w2 lv.ownBlock) (hat : lv2.ownBlock = lv.ownBlock ∨ lv2.ownBlock = some ((w1.alloc (.cells #[.int .i64 slot, .int .i64 b, .slice A v.length c, .slice none 0 0] 54)).alloc L).heap.size) :
    Found w base tag D n low ts ds dv slot b v (.int .i64 (ts.length : Nat)) (w2.setCell ⟨D, 2, none⟩ lv2) := by
  have hpl : ∀ u ∈ ts, u.p < w.heap.size := fun u hu => by
    obtain ⟨_, _, _, _, _, _, h4, _⟩ := H.tally u hu
    exact (H.rng u.p (by omega)).2
  have hz1 := hb1.size
  have hw : withT ts slot b v w1.heap.size = ts ++ [⟨w1.heap.size, slot, b, v, []⟩] := by unfold withT; rw [hfa]
  obtain ⟨tag1, g1, g2, g3⟩ := hnB.push hb1 hv hown hg (hat.imp id (fun e => e.trans (by simp)))
  refine ⟨w1.heap.size, ts.length, ⟨w1.heap.size, slot, b, v, []⟩, tag1, _, fun u hu e => by have := hpl u hu; omega, by rw [hw]; exact first_new hfa _ _, by rw [hw]; simp, rfl, by rw [hw]; exact g1, fun k hk => ?_, (Touch.of_below hbB _).trans g3 (fun _ _ e => e), (g3.cell (p := ⟨w.heap.size, 0, none⟩) (by show w.heap.size < WB.heap.size; omega) (fun e => by have := (H.rng _ e).2; simp at this)).trans hc, fun k hk e => ?_⟩
  · rcases g2 k hk with e | e
    · exact .inl e
    · exact .inr (by omega)
  · rcases g2 k hk with e2 | e2
    · have := (H.rng k e2).2; omega
    · omega

set_option maxRecDepth 100000 in
set_option maxHeartbeats 40000000 in
theorem take_in {w : World} {base : Nat} {tag : Nat → Nat} {D : Nat} {n low : Int} {ts : List TallyT} {ds : List Nat} {lv dv : Value} (slot b src : Int) (vv : Value) (v : List UInt8) (Sv : Nat → Prop) (h : LearnAt w base tag D n low ts ds lv dv) (hr : isRight n = true) (hlow : 0 ≤ low) (hlow2 : low ≤ 1073741824) (hin : InReach n low slot b src)
    (hl : ts.length ≤ 1000000) (hdl : ds.length ≤ 1000000) (hsl : ∀ t ∈ ts, t.src.length ≤ 1000000) (hvl : v.length ≤ 1000000000) (hv : BytesAt w Sv vv v) (hS : ∀ k, Sv k → k < w.heap.size ∧ tag k = 0) :
    Calls Try.prog 9 #[.pointer (some ⟨D, 0, none⟩), .int .i64 slot, .int .i64 b, .int .i64 src, vv] w (TakeEnd w base tag D n low ts ds slot b src v) := by
  obtain ⟨Av, cv, rfl⟩ := slice_shape hv
  obtain ⟨r1, r2, r3, r4, r5, r6⟩ := hin
  obtain ⟨W0, hW0⟩ : ∃ W0, W0 = (w.alloc (.cells #[.int .i64 slot] 3)).alloc (.cells #[.int .i64 b] 3) := ⟨_, rfl⟩
  have hbW : Below w.heap.size w W0 := by rw [hW0]; exact ((Below.refl w.heap.size w).alloc (Nat.le_refl _) _).alloc (by simp) _
  have c1 : W0.cell? ⟨w.heap.size, 0, none⟩ = some (.int .i64 slot) := by rw [hW0]; exact ((Blk.new w 3 #[.int .i64 slot]).alloc _).cell 0
  have c2 : W0.cell? ⟨w.heap.size + 1, 0, none⟩ = some (.int .i64 b) := by
    rw [hW0]
    have := (Blk.new (w.alloc (.cells #[.int .i64 slot] 3)) 3 #[.int .i64 b]).cell 0
    rwa [World.size_alloc] at this
  have hsz : W0.heap.size = w.heap.size + 2 := by rw [hW0]; simp
  have hn := h.below hbW
  obtain ⟨Al, cl, rfl⟩ := own_shape h.lrow
  have k0 : W0.cell? ⟨D, 0, none⟩ = some (.int .i64 n) := hn.blk.cell 0
  have k1 : W0.cell? ⟨D, 1, none⟩ = some (.int .i64 low) := hn.blk.cell 1
  have k2 : W0.cell? ⟨D, 2, none⟩ = some (.slice Al ts.length cl) := hn.blk.cell 2
  have hmf : ∀ (fn : Fn) (first cap : Array Value) (w : World), (Instr.makeFunc fn first cap).run Try.prog w = .ok (.func fn first cap) w := fun _ _ _ _ => rfl
  have d1 : decide (slot < low) = false := decide_eq_false (by omega)
  have d2 : decide (low + 32 ≤ slot) = false := decide_eq_false (by omega)
  have d3 : decide (b < 0) = false := decide_eq_false (by omega)
  have d4 : decide (1073741824 < b) = false := decide_eq_false (by omega)
  have d5 : decide (src < 0) = false := decide_eq_false (by omega)
  have d6 : decide (n ≤ src) = false := decide_eq_false (by omega)
  have hvW := SliceOf.below (S' := Sv) RByte.kept hv hbW (fun k hk => (hS k hk).1) (fun _ h => h)
  have HW0 := Lib.hid hW0
  have Hsz := Lib.hid hsz
  have HbW := Lib.hid hbW
  have Hn := Lib.hid hn
  have Hv := Lib.hid hv
  have HvW := Lib.hid hvW
  have HS := Lib.hid hS
  have H := Lib.hid h
  have Hsl := Lib.hid hsl
  have Hr := Lib.hid hr
  clear hW0 hbW hn hv hvW hS h hsz hsl hr r1 r2 r3 r4 r5 r6
  go_enter Try.func9, Try.ntmps9
  go_wp2_with fail
  rw [← HW0.out]
  go_quiet (fail)
  go_wp2_with fail
  refine (index_func w.heap.size (w.heap.size + 1) slot b (Hn.out.touch (Touch.drewN (fun _ => False) W0 _) (fun _ _ g => g)) (by omega) c1 c2).mono ?_
  rintro e w' ⟨rfl, q2, rfl⟩
  obtain ⟨WB, hWB⟩ : ∃ WB, WB = (W0.drewN nq).drewN q2 := ⟨_, rfl⟩
  rw [← hWB]
  have hbB : Below w.heap.size w WB := by rw [hWB]; exact below_drewN (below_drewN HbW.out _) _
  have hnB := H.out.below hbB
  have hszB : w.heap.size + 2 = WB.heap.size := by rw [hWB]; exact Hsz.out.symm
  have b1 : WB.cell? ⟨w.heap.size, 0, none⟩ = some (.int .i64 slot) := by rw [hWB]; exact c1
  have b2 : WB.cell? ⟨w.heap.size + 1, 0, none⟩ = some (.int .i64 b) := by rw [hWB]; exact c2
  have b0 : WB.cell? ⟨D, 2, none⟩ = some (.slice Al ts.length cl) := hnB.blk.cell 2
  have bf : WB.frozen? ⟨D, 2, none⟩ = false := hnB.blk.frozen 2
  have hvB := SliceOf.below (S' := Sv) RByte.kept Hv.out hbB (fun k hk => (HS.out k hk).1) (fun _ h => h)
  have HbB := Lib.hid hbB
  have HnB := Lib.hid hnB
  have HvB := Lib.hid hvB
  have HWB := Lib.hid hWB
  have HszB := Lib.hid hszB
  have hzB : w.heap.size + 1 < WB.heap.size := by omega
  have hpl : ∀ u ∈ ts, u.p < w.heap.size := fun u hu => by
    obtain ⟨_, _, _, _, _, _, h4, _⟩ := H.out.tally u hu
    exact (H.out.rng u.p (by omega)).2
  have Hpl := Lib.hid hpl
  clear hWB hbB hnB hvB hszB hpl c1 c2 k0 k1 k2
  obtain ⟨iv, hiv⟩ : ∃ iv, idxV (firstAt slot b ts) = iv := ⟨_, rfl⟩
  rw [hiv]
  have Hiv := Lib.hid hiv
  clear hiv
  go_upto_if 55 with fail
  go_cut [11] from 54 (fun i wx => Found w base tag D n low ts ds dv slot b v i wx)
  case first =>
    cases hfa : firstAt slot b ts with
    | some k =>
      have hivk : iv = (k : Nat) := by rw [← Hiv.out, hfa]; rfl
      obtain ⟨t, ht1, ht2⟩ := first_some hfa
      have hw : withT ts slot b v w.heap.size = ts := by unfold withT; rw [hfa]
      have hf : Found w base tag D n low ts ds dv slot b v (.int .i64 iv) WB := by
        refine ⟨w.heap.size, k, t, tag, _, fun u hu e => by have := Hpl.out u hu; omega, by rw [hw]; exact ht2, by rw [hw]; exact ht1, by rw [hivk], by rw [hw]; exact HnB.out, fun k hk => .inl hk, Touch.of_below HbB.out _, b1, fun k hk e => by have := (H.out.rng k hk).2; omega⟩
      have Hf := Lib.hid hf
      have g1 : ¬ iv < 0 := by omega
      clear ht1 ht2 hw hf hfa hivk
      go_wp2_with fail
      go_meet
      exact Hf.out
    | none =>
      have g1 : iv < 0 := by rw [← Hiv.out, hfa]; show (-1 : Int) < 0; omega
      have hD : D < WB.heap.size := (HnB.out.rng D (by rw [HnB.out.tagD]; omega)).2
      have hown := HnB.out.lrow
      have hbase : base ≤ WB.heap.size := by have := HnB.out.rng D (by rw [HnB.out.tagD]; omega); omega
      have HSB : Hid (∀ k, Sv k → k < WB.heap.size) := Lib.hid (fun k hk => by have := (HS.out k hk).1; omega)
      have hvD : ∀ k, Value.ownBlock (.slice Al ts.length cl) = some k → k ≠ D := fun k e e2 => by have h1 := HnB.out.tagl k e; rw [e2, HnB.out.tagD] at h1; omega
      have HvD := Lib.hid hvD
      have Hown := Lib.hid hown
      have Hfa := Lib.hid hfa
      clear hown hvD hfa d1 d2 d3 d4 d5 d6 hmf hlow hlow2 hdl Hr Hsl HW0 Hsz HbW Hn Hv HvW
      go_wp2_with fail
      go_region_law (first
        | (go_simp; go_at_call 19; refine (clone_any (.slice Av v.length cv) v Sv _ (by exact SliceOf.heap RByte.kept HvB.out rfl) (by exact HSB.out) (by omega)).mono ?_; rintro e w1 ⟨v1, rfl, hc1, hb0⟩; have hb1 : Below WB.heap.size WB w1 := ⟨hb0.os, hb0.tape, hb0.output, hb0.size, hb0.block⟩; clear hb0; obtain ⟨A1, e1, rfl⟩ := own_shape hc1; have hc1' : w1.ownsRow WB.heap.size 5 1 (.slice A1 v.length e1) v.length (v.map byteV) := hc1; have p0 := (hb1.cell (p := ⟨D, 2, none⟩) hD).trans b0; have pf := (hb1.frozen (p := ⟨D, 2, none⟩) hD).trans bf; have p1 := (hb1.cell (p := ⟨w.heap.size, 0, none⟩) (by show w.heap.size < WB.heap.size; omega)).trans b1; have p2 := (hb1.cell (p := ⟨w.heap.size + 1, 0, none⟩) (by show w.heap.size + 1 < WB.heap.size; omega)).trans b2; have hD1 : D < w1.heap.size := Nat.lt_of_lt_of_le hD hb1.size; have pA := fun o => (World.cell?_alloc_lt w1 o ⟨D, 2, none⟩ hD1).trans p0; have pAA := fun o o' => (World.cell?_alloc_lt (w1.alloc o) o' ⟨D, 2, none⟩ (by simp; omega)).trans (pA o); have Hc1 := Lib.hid hc1'; have Hb1 := Lib.hid hb1; clear hc1 hc1' hb1)
        | (refine step_append_src rfl _ _ 48 rfl base 52 (.pointer none) 1 8 Try.underlying48 ptr_info (by rfl) (by omega) (.slice Al ts.length cl) ts.length (ts.map fun t => ptrV t.p) rfl (((own_below Hown.out Hb1.out).alloc _).alloc _) (some ⟨w1.heap.size + 1, 0, none⟩) 1 1 [.pointer (some ⟨w1.heap.size, 0, none⟩)] rfl rfl (fun _ => ⟨w1.heap.size + 1, 0, rfl, fun j u hj => by have := World.news_of_block (w := (w1.alloc (.cells #[.int .i64 slot, .int .i64 b, .slice A1 v.length e1, .slice none 0 0] 54)).alloc _) (heap_alloc_new (w1.alloc (.cells #[.int .i64 slot, .int .i64 b, .slice A1 v.length e1, .slice none 0 0] 54)) (.cells #[.pointer (some ⟨w1.heap.size, 0, none⟩)] 52)) j u hj; rw [World.size_alloc] at this; rwa [WideShapes.add_plain] at this⟩) (by intro u hu; simp at hu; subst hu; rfl) (by omega) (by omega) (by have := Hb1.out.size; simp; omega) ?_; intro v2 w2 hown2 hg2 hat2; obtain ⟨A3, c3, rfl⟩ := own_shape hown2; have q0 := (hg2.cell_far ⟨D, 2, none⟩ (by simp; omega) (fun e => HvD.out D e.symm rfl)).trans (pAA _ _); have qf := (hg2.frozen_far ⟨D, 2, none⟩ (by simp; omega) (fun e => HvD.out D e.symm rfl)).trans ((frozen_alloc _ _ ⟨D, 2, none⟩ (by simp; omega)).trans ((frozen_alloc w1 _ ⟨D, 2, none⟩ hD1).trans pf)); have Hown2 := Lib.hid hown2; have Hg2 := Lib.hid hg2; have Hat2 := Lib.hid hat2; clear hown2 hg2 hat2))
      all_goals
        go_wp2_with fail
        go_meet
        exact found_new H.out HbB.out hzB HnB.out Hfa.out b1 Hb1.out Hc1.out Hown2.out Hg2.out Hat2.out
  case rest =>
    obtain ⟨T, k, t, tag1, lv1, hT, hfnd, hk, rfl, hL, htg, htch, hcs, hnw⟩ := hcut
    obtain ⟨ts1, hts1⟩ : ∃ ts1, withT ts slot b v T = ts1 := ⟨_, rfl⟩
    rw [hts1] at hfnd hk hL
    have hkl : k < ts1.length := (List.getElem?_eq_some_iff.1 hk).1
    have hlen1 : ts1.length ≤ 1000001 := by
      rw [← hts1]; unfold withT; split
      · rw [List.length_append]; simp; omega
      · omega
    have htm := List.mem_of_getElem? hk
    have htsl : t.src.length ≤ 1000000 := by
      have hm : t ∈ ts ∨ t.src = [] := by
        rw [← hts1] at htm; unfold withT at htm; split at htm
        · rcases List.mem_append.1 htm with e | e
          · exact .inl e
          · simp at e; subst e; exact .inr rfl
        · exact .inl htm
      rcases hm with e | e
      · exact Hsl.out t e
      · rw [e]; simp
    obtain ⟨Al1, cl1, rfl⟩ := own_shape hL.lrow
    obtain ⟨Ad, cd, rfl⟩ := own_shape hL.drow
    obtain ⟨bb, off, rfl, hc⟩ := own_src hL.lrow (by omega)
    have m0 : wc.cell? ⟨bb, off + k, none⟩ = some (.pointer (some ⟨t.p, 0, none⟩)) := hc k _ (by rw [List.getElem?_map, hk]; rfl)
    obtain ⟨A2, cc2, fv, hTb, hB, hF, htagp, htf⟩ := hL.tally t htm
    obtain ⟨Af, cf, rfl⟩ := own_shape hF
    have m1 : wc.cell? ⟨D, 2, none⟩ = some (.slice (some ⟨bb, off, none⟩) ts1.length cl1) := hL.blk.cell 2
    have m2 : wc.cell? ⟨t.p, 2, none⟩ = some (.slice A2 t.v.length cc2) := hTb.cell 2
    have m3 : wc.cell? ⟨t.p, 3, none⟩ = some (.slice Af t.src.length cf) := hTb.cell 3
    have mf : wc.frozen? ⟨t.p, 3, none⟩ = false := hTb.frozen 3
    have hvc := SliceOf.touch (S' := Sv) RByte.kept Hv.out htch (fun k hk => ⟨(HS.out k hk).1, by rw [(HS.out k hk).2]; simp⟩) (fun _ h => h)
    have kx : ∀ n, (convert 32 9 (.slice A2 t.v.length cc2)).run Try.prog (wc.drewN n) = .ok (.string ⟨t.v.toArray⟩) (wc.drewN n) := fun n => conv_bytes hB Try.underlying32 Try.underlying5 Try.underlying9 (fun _ _ => rfl)
    have ky : ∀ n, (convert 32 9 (.slice Av v.length cv)).run Try.prog (wc.drewN n) = .ok (.string ⟨v.toArray⟩) (wc.drewN n) := fun n => conv_bytes hvc Try.underlying32 Try.underlying5 Try.underlying9 (fun _ _ => rfl)
    have hLq : ∀ q, LearnAt (wc.drewN q) base tag1 D n low ts1 ds (.slice (some ⟨bb, off, none⟩) ts1.length cl1) (.slice Ad ds.length cd) := fun q => hL.touch (Touch.drewN (fun _ => False) wc q) (fun _ _ g => g)
    have htq : ∀ q, Touch (fun k => tag k ≠ 0) w (wc.drewN q) := fun q => htch.trans (Touch.drewN _ wc q) (fun _ _ h => h)
    have g1 : (0 : Int) ≤ k := by omega
    have g2 : (k : Int) < ts1.length := by omega
    have Hnw := Lib.hid hnw
    have Hfnd := Lib.hid hfnd
    have HLq := Lib.hid hLq
    have Htq := Lib.hid htq
    have Htg := Lib.hid htg
    have HT := Lib.hid hT
    have Hts1 := Lib.hid hts1
    have Htm := Lib.hid htm
    have HTb := Lib.hid hTb
    have HB := Lib.hid hB
    have HF := Lib.hid hF
    have Htagp := Lib.hid htagp
    have Htf := Lib.hid htf
    clear hfnd hLq htq htg hT hts1 htm hTb hB hF htagp htf hL htch hvc hc hk hnw
    by_cases hvv : t.v = v
    · have e9 : (t.v == v) = true := by rw [beq_iff_eq]; exact hvv
      have Hvv := Lib.hid hvv
      clear hvv
      go_wp2_with fail
      go_quiet (fail)
      go_wp2_with fail
      refine (contains_any t.src src (.slice Af t.src.length cf) base _ (own_touch HF.out (Touch.drewN (fun _ => False) wc _) (fun _ _ g => g)) (by omega)).mono ?_
      rintro e w' ⟨rfl, rfl⟩
      by_cases hmem : src ∈ t.src
      · rw [decide_eq_true hmem]
        have htook : Took n ts ds slot b src v T = (true, ts1, ds) := by unfold Took; rw [Hts1.out, Hfnd.out]; simp only; rw [if_pos Hvv.out, if_pos hmem]
        have Htook := Lib.hid htook
        clear hmem htook
        go_wp2_with fail
        go_ret
        exact ⟨T, tag1, _, _, HT.out, by rw [Htook.out]; rfl, by rw [Htook.out]; exact HLq.out _, Htg.out, Htq.out _⟩
      · rw [decide_eq_false hmem]
        obtain ⟨WC, hWC⟩ : ∃ WC, WC = wc.drewN nq := ⟨_, rfl⟩
        rw [← hWC]
        have htook : Took n ts ds slot b src v T = (true, ts1.map (addSrc t.p src), if n / 2 + 1 ≤ (t.src.length : Int) + 1 ∧ findD (ts1.map (addSrc t.p src)) ds slot = none then ds ++ [t.p] else ds) := by unfold Took; rw [Hts1.out, Hfnd.out]; simp only; rw [if_pos Hvv.out, if_neg hmem]
        have hLC : LearnAt WC base tag1 D n low ts1 ds (.slice (some ⟨bb, off, none⟩) ts1.length cl1) (.slice Ad ds.length cd) := by rw [hWC]; exact HLq.out _
        have htC : Touch (fun k => tag k ≠ 0) w WC := by rw [hWC]; exact Htq.out _
        have hTC : Blk WC t.p 54 #[.int .i64 t.slot, .int .i64 t.b, .slice A2 t.v.length cc2, .slice Af t.src.length cf] := by rw [hWC]; exact HTb.out
        have hBC : BytesAt WC (fun k => tag1 k = 5 + 3 * t.p) (.slice A2 t.v.length cc2) t.v := by rw [hWC]; exact SliceOf.heap RByte.kept HB.out rfl
        have hFC : WC.ownsRow base 3 1 (.slice Af t.src.length cf) t.src.length (t.src.map intV) := by rw [hWC]; exact own_touch HF.out (Touch.drewN (fun _ => False) wc _) (fun _ _ g => g)
        have hcC : WC.cell? ⟨w.heap.size, 0, none⟩ = some (.int .i64 slot) := by rw [hWC]; exact hcs
        have u3 : WC.cell? ⟨t.p, 3, none⟩ = some (.slice Af t.src.length cf) := hTC.cell 3
        have uf : WC.frozen? ⟨t.p, 3, none⟩ = false := hTC.frozen 3
        have hbase : base ≤ WC.heap.size := by have := hLC.rng D (by rw [hLC.tagD]; omega); omega
        have htpC : t.p < WC.heap.size := (hLC.rng t.p (by rw [Htagp.out]; omega)).2
        have hwC : w.heap.size < WC.heap.size := by
          have h1 : w.heap.size < WB.heap.size := by omega
          rcases Nat.lt_or_ge w.heap.size WC.heap.size with h2 | h2
          · exact h2
          · have := World.block_lt_of_cell? (w := WC) (a := ⟨w.heap.size, 0, none⟩) hcC; exact this
        have hfp : ∀ k, Value.ownBlock (.slice Af t.src.length cf) = some k → k ≠ t.p := fun k e e2 => by have h1 := Htf.out k e; rw [e2, Htagp.out] at h1; omega
        have Hfp := Lib.hid hfp
        have Htook := Lib.hid htook
        have HLC := Lib.hid hLC
        have HtC := Lib.hid htC
        have HTC := Lib.hid hTC
        have HBC := Lib.hid hBC
        have HFC := Lib.hid hFC
        clear hmem htook hWC hLC htC hTC hBC hFC hfp m0 m1 m2 m3 mf kx ky hcs HLq Htq HTb HB HF e9
        go_wp2_with (at_builtin; refine wpList_append_src rfl _ _ 23 rfl base 3 (.int .i64 0) 1 8 Try.underlying23 int_info (by rfl) (by omega) (.slice Af t.src.length cf) t.src.length (t.src.map intV) rfl (by exact HFC.out.alloc _) (some ⟨WC.heap.size, 0, none⟩) 1 1 [.int .i64 src] rfl rfl (by exact one_new WC _ _) (by intro u hu; simp at hu; subst hu; rfl) (by omega) (by omega) (by simp; omega) ?_; intro v5 w5 hown5 hg5 hat5; obtain ⟨A5, c5, rfl⟩ := own_shape hown5; have x3 := (hg5.cell_far ⟨t.p, 3, none⟩ (by simp; omega) (fun e => Hfp.out t.p e.symm rfl)).trans ((World.cell?_alloc_lt WC _ ⟨t.p, 3, none⟩ htpC).trans u3); have xf := (hg5.frozen_far ⟨t.p, 3, none⟩ (by simp; omega) (fun e => Hfp.out t.p e.symm rfl)).trans ((frozen_alloc WC _ ⟨t.p, 3, none⟩ htpC).trans uf); have Hown5 := Lib.hid hown5; have Hg5 := Lib.hid hg5; have Hat5 := Lib.hid hat5; clear hown5 hg5 hat5)
        obtain ⟨WD, hWD⟩ : ∃ WD, WD = w5.setCell ⟨t.p, 3, none⟩ (.slice A5 (t.src.length + 1) c5) := ⟨_, rfl⟩
        rw [← hWD]
        obtain ⟨tag2, hL2, htg2, htc2⟩ := HLC.out.more Htm.out HTC.out HBC.out HFC.out Htagp.out Htf.out Hown5.out Hg5.out Hat5.out
        rw [← hWD] at hL2 htc2
        have y3 : WD.cell? ⟨t.p, 3, none⟩ = some (.slice A5 (t.src.length + 1) c5) := by rw [hWD]; exact World.cell?_setCell_same w5 _ _ x3
        have y0 : WD.cell? ⟨D, 0, none⟩ = some (.int .i64 n) := hL2.blk.cell 0
        have ys : WD.cell? ⟨w.heap.size, 0, none⟩ = some (.int .i64 slot) := (htc2.cell (p := ⟨w.heap.size, 0, none⟩) hwC (fun e => Hnw.out _ e rfl)).trans hcC
        have htgw : ∀ k, tag2 k ≠ 0 → tag k ≠ 0 ∨ w.heap.size ≤ k := fun k hk => by
          rcases htg2 k hk with e | e
          · exact Htg.out k e
          · exact .inr (by omega)
        have htw : Touch (fun k => tag k ≠ 0) w WD := HtC.out.trans htc2 (fun k hk e => by
          rcases Htg.out k e with e2 | e2
          · exact e2
          · omega)
        have hin2 : ∃ t2, t2 ∈ ts1.map (addSrc t.p src) ∧ t2.p = t.p := ⟨_, List.mem_map.2 ⟨t, Htm.out, rfl⟩, addSrc_p _ _ _⟩
        have yd : WD.cell? ⟨D, 3, none⟩ = some (.slice Ad ds.length cd) := hL2.blk.cell 3
        have ydf : WD.frozen? ⟨D, 3, none⟩ = false := hL2.blk.frozen 3
        have hDD : D < WD.heap.size := (hL2.rng D (by rw [hL2.tagD]; omega)).2
        have hbD : base ≤ WD.heap.size := by have := hL2.rng D (by rw [hL2.tagD]; omega); omega
        have hdD : ∀ k, Value.ownBlock (.slice Ad ds.length cd) = some k → k ≠ D := fun k e e2 => by have h1 := hL2.tagd k e; rw [e2, hL2.tagD] at h1; omega
        have HdD := Lib.hid hdD
        clear hdD
        generalize ts1.map (addSrc t.p src) = ts2 at *
        have hL2q : ∀ q, LearnAt (WD.drewN q) base tag2 D n low ts2 ds (.slice (some ⟨bb, off, none⟩) ts1.length cl1) (.slice Ad ds.length cd) := fun q => hL2.touch (Touch.drewN (fun _ => False) WD q) (fun _ _ g => g)
        have HL2q := Lib.hid hL2q
        have Htgw := Lib.hid htgw
        have Htw := Lib.hid htw
        have Hin2 := Lib.hid hin2
        clear hWD hL2 htg2 htc2 x3 xf u3 uf hcC hL2q htgw htw hin2 Hown5 Hg5 Hat5 HFC HBC HTC HLC HtC
        have hn5 : n = 1 ∨ n = 3 ∨ n = 5 := by have := Hr.out; unfold isRight at this; exact of_decide_eq_true this
        have Hn5 := Lib.hid hn5
        obtain ⟨qv, hqv⟩ : ∃ qv, n / 2 + 1 = qv := ⟨_, rfl⟩
        have hquo : ∀ W, Calls Try.prog 21 #[.int .i64 n] W fun e w' => e = .returned (.int .i64 qv) ∧ w' = W := fun W => (quorum_any n W Hr.out).mono (fun e w' ⟨h1, h2⟩ => ⟨by rw [h1, hqv], h2.symm⟩)
        obtain ⟨fo, hfo⟩ : ∃ fo, findD ts2 ds slot = fo := ⟨_, rfl⟩
        have hfindq : ∀ q, Calls Try.prog 22 #[.pointer (some ⟨D, 0, none⟩), .int .i64 slot] (WD.drewN q) fun e w' => e = .returned (.pointer (fo.map fun p => ⟨p, 0, none⟩)) ∧ w' = WD.drewN q := fun q => (find_any slot (HL2q.out q) (by omega)).mono (fun e w' ⟨h1, h2⟩ => ⟨by rw [h1, hfo], h2.symm⟩)
        have Hfindq := Lib.hid hfindq
        clear hfindq
        have Hquo := Lib.hid hquo
        have htk := Htook.out
        rw [hqv, hfo] at htk
        have Htk := Lib.hid htk
        clear hquo htk hqv hfo Htook
        have w1 : (t.src.length : Int) + 1 ≤ 9223372036854775807 := by omega
        have hwr : IntKind.i64.wrap ((t.src.length : Int) + 1) = (t.src.length : Int) + 1 := by rw [IntKind.wrap_i64]; omega
        by_cases hq : qv ≤ (t.src.length : Int) + 1
        · have f1 : decide (qv ≤ (t.src.length : Int) + 1) = true := decide_eq_true hq
          cases fo with
          | some p =>
            have htk2 : Took n ts ds slot b src v T = (true, ts2, ds) := by rw [Htk.out, if_neg (fun e => by cases e.2)]
            have Htk2 := Lib.hid htk2
            clear hq htk2 hn5
            simp only [Option.map_some] at Hfindq
            go_quiet (first | exact Calls.quiet_of_same (Hquo.out _) | exact Calls.quiet_of_same (Hfindq.out _))
            go_wp2_with fail
            go_ret
            exact ⟨T, tag2, _, _, HT.out, by rw [Htk2.out]; rfl, by rw [Htk2.out]; exact HL2q.out _, Htgw.out, Htw.out.trans (Touch.drewN _ WD _) (fun _ _ h => h)⟩
          | none =>
            have htk2 : Took n ts ds slot b src v T = (true, ts2, ds ++ [t.p]) := by rw [Htk.out, if_pos ⟨hq, rfl⟩]
            have Htk2 := Lib.hid htk2
            clear hq htk2 hn5
            simp only [Option.map_none] at Hfindq
            go_quiet (first | exact Calls.quiet_of_same (Hquo.out _) | exact Calls.quiet_of_same (Hfindq.out _))
            go_wp2_with (at_builtin; refine wpList_append_src rfl _ _ 48 rfl base 52 (.pointer none) 1 8 Try.underlying48 ptr_info (by rfl) (by omega) (.slice Ad ds.length cd) ds.length (ds.map ptrV) rfl (by exact (HL2q.out nq).drow.alloc _) (some ⟨WD.heap.size, 0, none⟩) 1 1 [.pointer (some ⟨t.p, 0, none⟩)] rfl rfl (by exact one_new (WD.drewN nq) _ _) (by intro u hu; simp at hu; subst hu; rfl) (by omega) (by omega) (by simp; omega) ?_; intro v6 w6 hown6 hg6 hat6; obtain ⟨A6, c6, rfl⟩ := own_shape hown6; have z3 : w6.cell? ⟨D, 3, none⟩ = some (.slice Ad ds.length cd) := (hg6.cell_far ⟨D, 3, none⟩ (by simp; omega) (fun e => HdD.out D e.symm rfl)).trans ((World.cell?_alloc_lt WD _ ⟨D, 3, none⟩ hDD).trans yd); have zf : w6.frozen? ⟨D, 3, none⟩ = false := (hg6.frozen_far ⟨D, 3, none⟩ (by simp; omega) (fun e => HdD.out D e.symm rfl)).trans ((frozen_alloc WD _ ⟨D, 3, none⟩ hDD).trans ydf); have Hown6 := Lib.hid hown6; have Hg6 := Lib.hid hg6; have Hat6 := Lib.hid hat6; clear hown6 hg6 hat6)
            obtain ⟨tag3, j1, j2, j3⟩ := (HL2q.out nq).done Hin2.out Hown6.out Hg6.out Hat6.out
            have Hj1 := Lib.hid j1
            have Hj2 := Lib.hid j2
            have Hj3 := Lib.hid j3
            clear j1 j2 j3
            go_wp2_with fail
            go_ret
            exact ⟨T, tag3, _, _, HT.out, by rw [Htk2.out]; rfl, by rw [Htk2.out]; exact Hj1.out, fun k hk => (Hj2.out k hk).elim (fun e => Htgw.out k e) (fun e => .inr (Nat.le_trans (Htw.out.size) e)), (Htw.out.trans (Touch.drewN _ WD nq) (fun _ _ h => h)).trans Hj3.out (fun k hk e => (Htgw.out k e).elim id (fun e2 => by omega))⟩
        · have f1 : decide (qv ≤ (t.src.length : Int) + 1) = false := decide_eq_false hq
          have htk2 : Took n ts ds slot b src v T = (true, ts2, ds) := by rw [Htk.out, if_neg (fun e => hq e.1)]
          have Htk2 := Lib.hid htk2
          clear hq htk2 hn5
          go_quiet (first | exact Calls.quiet_of_same (Hquo.out _) | exact Calls.quiet_of_same (Hfindq.out _))
          go_wp2_with fail
          go_ret
          exact ⟨T, tag2, _, _, HT.out, by rw [Htk2.out]; rfl, by rw [Htk2.out]; exact HL2q.out _, Htgw.out, Htw.out.trans (Touch.drewN _ WD _) (fun _ _ h => h)⟩
    · have e9 : (t.v == v) = false := by rw [beq_eq_false_iff_ne]; exact hvv
      have htook : Took n ts ds slot b src v T = (false, ts1, ds) := by unfold Took; rw [Hts1.out, Hfnd.out]; simp only; rw [if_neg hvv]
      have Htook := Lib.hid htook
      clear hvv htook
      go_wp2_with fail
      go_quiet (fail)
      go_wp2_with fail
      go_ret
      exact ⟨T, tag1, _, _, HT.out, by rw [Htook.out]; rfl, by rw [Htook.out]; exact HLq.out _, Htg.out, Htq.out _⟩
end Go.Proofs.Ytkghogfcfocmpaa
