/- The reference's Forget. -/
import Derived.Test.YtkghogfcfocmpaaLRef
namespace Go.Proofs.Ytkghogfcfocmpaa
open Go.RowKit

def keptL (s : Int) (L : List TakeT) : List TakeT := L.filter fun x => decide (s ≤ x.slot)
def keptDone (s : Int) (Ds : List DoneT) : List DoneT := Ds.filter fun x => decide (s ≤ x.slot)
theorem take_inf : (Try.prog.info? 64).map (fun i => (i.zero, i.size, i.bytes)) = some (some (.agg #[.int .i64 0, .int .i64 0, .int .i64 0, .slice none 0 0]), 4, 48) := by kernel_rfl
theorem done_inf : (Try.prog.info? 66).map (fun i => (i.zero, i.size, i.bytes)) = some (some (.agg #[.int .i64 0, .slice none 0 0]), 2, 32) := by kernel_rfl
/-- A row under way, in memory that is the call's own. -/
def Under {α : Type} (R : Rep α) (size : Nat) (e : TypeId) (B : Nat) (S : Nat → Prop) (w0 : World) (v : Value) (l : List α) (wr : World) : Prop :=
  Owns R size e wr B S v l ∧ Below B w0 wr
theorem Under.push {α : Type} {R : Rep α} (hR : Rep.Kept R) {size : Nat} {e : TypeId} {B : Nat} {S : Nat → Prop} {w0 wr w2 : World} {v v2 : Value} {l : List α} {x : α} {css : List (List Value)} {cs : List Value} {O : Obj} (h1 : RowsOf R size wr S css l) (hown : wr.ownsRow B e size v l.length css.flatten) (hb : Below B w0 wr) (hB0 : B ≤ w0.heap.size) (hS : ∀ k, S k → k < B)
    (hlen : cs.length = size) (hx : R wr S cs x) (h2 : w2.ownsRow B e size v2 (l.length + 1) (css.flatten ++ cs)) (hg : (wr.alloc O).grownBy w2 v.ownBlock) : Under R size e B S w0 v2 (l ++ [x]) w2 := by
  have hB : B ≤ wr.heap.size := by have := hb.size; omega
  have hb2 : Below B wr w2 := ((Below.refl _ _).alloc hB _).grown hg (by simp; omega) (fun k e => (own_lt hown e).1)
  have hk : ∀ k, S k → w2.heap[k]? = wr.heap[k]? := fun k hk => hb2.block k (hS k hk)
  exact ⟨owns_snoc hR h1 hk (fun _ e => e) hlen (hR.keep hx hk (fun _ e => e)) h2, hb.trans hb2⟩
theorem rforget_end {w W1 WA wr : World} {base : Nat} {S : Nat → Prop} {M : Nat} {n low : Int} {L : List TakeT} {Ds : List DoneT} {lv dv tv ev : Value} {cssA cssD : List (List Value)} (s : Int) (h : RefAt w base S M n low L Ds lv dv) (hW1 : W1 = w.setCell ⟨M, 1, none⟩ (.int .i64 s)) (hB1 : Blk W1 M 42 #[.int .i64 n, .int .i64 s, lv, dv])
    (hbA : Below w.heap.size W1 WA) (rA : RowsOf RTake 4 WA S cssA (keptL s L)) (oA : WA.ownsRow w.heap.size 64 4 tv (keptL s L).length cssA.flatten)
    (hbD : Below WA.heap.size WA wr) (rD : RowsOf RDone 2 wr S cssD (keptDone s Ds)) (oD : wr.ownsRow WA.heap.size 66 2 ev (keptDone s Ds).length cssD.flatten) (hbase : base ≤ w.heap.size) :
    RefAt ((wr.setCell ⟨M, 2, none⟩ tv).setCell ⟨M, 3, none⟩ ev) base (fun k => S k ∨ (w.heap.size ≤ k ∧ k < ((wr.setCell ⟨M, 2, none⟩ tv).setCell ⟨M, 3, none⟩ ev).heap.size)) M n s (keptL s L) (keptDone s Ds) tv ev ∧ Touch (fun k => k = M) w ((wr.setCell ⟨M, 2, none⟩ tv).setCell ⟨M, 3, none⟩ ev) := by
  have hM := h.blk.lt
  have hz1 : W1.heap.size = w.heap.size := by rw [hW1]; simp
  have hzA : w.heap.size ≤ WA.heap.size := by have := hbA.size; omega
  have hzD := hbD.size
  have a1 : Touch (fun k => k = M) w W1 := by rw [hW1]; exact Touch.setCell _ _ (fun _ => rfl)
  have aA : Touch (fun k => k = M) W1 WA := Touch.of_below (hbA.mono (by omega)) _
  have aD : Touch (fun k => k = M) WA wr := Touch.of_below hbD _
  have a2 : Touch (fun k => k = M) wr ((wr.setCell ⟨M, 2, none⟩ tv).setCell ⟨M, 3, none⟩ ev) := (Touch.setCell (T := fun k => k = M) wr (p := ⟨M, 2, none⟩) tv (fun _ => rfl)).trans (Touch.setCell (T := fun k => k = M) _ (p := ⟨M, 3, none⟩) ev (fun _ => rfl)) (fun _ _ e => e)
  have hT : Touch (fun k => k = M) w ((wr.setCell ⟨M, 2, none⟩ tv).setCell ⟨M, 3, none⟩ ev) := ((a1.trans aA (fun _ _ e => e)).trans aD (fun _ _ e => e)).trans a2 (fun _ _ e => e)
  have hzF : ((wr.setCell ⟨M, 2, none⟩ tv).setCell ⟨M, 3, none⟩ ev).heap.size = wr.heap.size := by simp
  have tl := oA.lt
  have el := oD.lt
  have hSM : ∀ k, S k → k < w.heap.size ∧ ¬ k = M := fun k hk => ⟨(h.rng k hk).2.1, (h.rng k hk).2.2⟩
  refine ⟨⟨?_, ?_, ?_, ?_, ?_, ?_⟩, hT⟩
  · have := (((hB1.below hbA hM).below hbD (by omega)).set 2 tv).set 3 ev
    simpa using this
  · have h1 : Owns RTake 4 64 WA w.heap.size S tv (keptL s L) := ⟨cssA, rA, oA⟩
    exact ((h1.touch RTake.kept aD (fun k e e2 => by have := tl k e; omega) (fun k hk => ⟨by have := hSM k hk; omega, (hSM k hk).2⟩) (fun _ e => e)).touch RTake.kept a2 (fun k e e2 => by have := tl k e; omega) (fun k hk => ⟨by have := hSM k hk; omega, (hSM k hk).2⟩) (fun _ e => .inl e)).rebase hbase
  · have h1 : Owns RDone 2 66 wr WA.heap.size S ev (keptDone s Ds) := ⟨cssD, rD, oD⟩
    exact (h1.touch RDone.kept a2 (fun k e e2 => by have := el k e; omega) (fun k hk => ⟨by have := hSM k hk; omega, (hSM k hk).2⟩) (fun _ e => .inl e)).rebase (by omega)
  · exact fun k e => .inr (by have := tl k e; omega)
  · exact fun k e => .inr (by have := el k e; omega)
  · rintro k (hk | hk)
    · have := h.rng k hk; omega
    · omega
set_option maxRecDepth 100000 in
set_option maxHeartbeats 8000000 in
theorem rforget_in {w : World} {base : Nat} {S : Nat → Prop} {M : Nat} {n low : Int} {L : List TakeT} {Ds : List DoneT} {lv dv : Value} (s : Int) (h : RefAt w base S M n low L Ds lv dv) (hbase : base ≤ w.heap.size) (hs : low < s) (hs2 : s ≤ 1073741824) (hl : L.length ≤ 1000000) (hdl : Ds.length ≤ 1000000) :
    Calls Try.prog 23 #[.pointer (some ⟨M, 0, none⟩), .int .i64 s] w fun e w' => e = .returned (.tuple #[]) ∧ ∃ lv' dv', RefAt w' base (fun k => S k ∨ (w.heap.size ≤ k ∧ k < w'.heap.size)) M n s (keptL s L) (keptDone s Ds) lv' dv' ∧ Touch (fun k => k = M) w w' := by
  obtain ⟨A, c, rfl⟩ := h.lrow.shape
  obtain ⟨Ad, cd, rfl⟩ := h.drow.shape
  have hMlt := h.blk.lt
  have k1 : w.cell? ⟨M, 1, none⟩ = some (.int .i64 low) := h.blk.cell 1
  have f1 := h.blk.frozen 1
  have d1 : decide (s ≤ low) = false := decide_eq_false (by omega)
  have d2 : decide (1073741824 < s) = false := decide_eq_false (by omega)
  have a1 : Touch (fun k => k = M) w (w.setCell ⟨M, 1, none⟩ (.int .i64 s)) := Touch.setCell _ _ (fun _ => rfl)
  obtain ⟨W1, hW1⟩ : ∃ W1, W1 = w.setCell ⟨M, 1, none⟩ (.int .i64 s) := ⟨_, rfl⟩
  have hz1 : W1.heap.size = w.heap.size := by rw [hW1]; simp
  rw [← hW1] at a1
  have hB1 : Blk W1 M 42 #[.int .i64 n, .int .i64 s, .slice A L.length c, .slice Ad Ds.length cd] := by
    have := h.blk.set 1 (.int .i64 s)
    rw [hW1]
    simpa using this
  have hL1 : Owns RTake 4 64 W1 base S (.slice A L.length c) L := h.lrow.touch RTake.kept a1 (fun k e => (h.rng k (h.inl k e)).2.2) (fun k hk => ⟨(h.rng k hk).2.1, (h.rng k hk).2.2⟩) (fun _ e => e)
  have hD1 : Owns RDone 2 66 W1 base S (.slice Ad Ds.length cd) Ds := h.drow.touch RDone.kept a1 (fun k e => (h.rng k (h.ind k e)).2.2) (fun k hk => ⟨(h.rng k hk).2.1, (h.rng k hk).2.2⟩) (fun _ e => e)
  have hSl : ∀ k, S k → k < w.heap.size := fun k hk => (h.rng k hk).2.1
  have hlb : ∀ k, Value.ownBlock (.slice A L.length c) = some k → k < w.heap.size := fun k e => hSl k (h.inl k e)
  have hdb : ∀ k, Value.ownBlock (.slice Ad Ds.length cd) = some k → k < w.heap.size := fun k e => hSl k (h.ind k e)
  have H := Lib.hid h
  have HW1 := Lib.hid hW1
  have HB1 := Lib.hid hB1
  have HL1 := Lib.hid hL1
  have HD1 := Lib.hid hD1
  have HSl := Lib.hid hSl
  have Hlb := Lib.hid hlb
  have Hdb := Lib.hid hdb
  have A1 := Lib.hid a1
  clear h hW1 hB1 hL1 hD1 hSl hlb hdb a1
  go_enter Try.func23, Try.ntmps23
  go_wp2_with fail
  rw [← HW1.out]
  go_loopw [4, 5] (fun tv i wr => ∃ k : Nat, k ≤ L.length ∧ i = .int .i64 k ∧ Under RTake 4 64 w.heap.size S W1 tv (keptL s (L.take k)) wr) (fun _ i _ => L.length - (intOf i).toNat)
  case atStart => exact ⟨0, Nat.zero_le _, rfl, Owns.nil _ _ _ _ _ _, Below.refl _ _⟩
  case round =>
    obtain ⟨k, hk, rfl, ⟨css, hrow, hown⟩, hb⟩ := hrel
    have hwz : w.heap.size ≤ wr.heap.size := by have := hb.size; omega
    have hkl : (keptL s (L.take k)).length ≤ k := by
      have := List.length_filter_le (fun x : TakeT => decide (s ≤ x.slot)) (L.take k)
      rw [List.length_take] at this
      unfold keptL; omega
    obtain ⟨As, cs0, rfl⟩ := own_shape hown
    have hBr := HB1.out.below hb (by omega)
    have m2 := hBr.cell 2
    have m3 := hBr.cell 3
    simp only [List.getElem?_toArray, List.getElem?_cons_succ, List.getElem?_cons_zero] at m2 m3
    by_cases hlt : k < L.length
    · obtain ⟨x, hx⟩ : ∃ x, L[k]? = some x := ⟨L[k], List.getElem?_eq_getElem hlt⟩
      have hLr := HL1.out.touch RTake.kept (T := fun k => w.heap.size ≤ k) (Below.touch hb (fun k _ e => e)) (fun k e e2 => by have := Hlb.out k e; omega) (fun k hk => ⟨by have := HSl.out k hk; omega, by have := HSl.out k hk; omega⟩) (fun _ e => e)
      obtain ⟨g, cs, rfl, hxr, hcl, hc⟩ := Owns.at hLr hx
      have hxr' := hxr
      obtain ⟨v, rfl, hv⟩ := hxr
      obtain ⟨Av, cv, rfl⟩ := slice_shape hv
      have hc0 : wr.cell? ⟨g, k * 4, none⟩ = some (.int .i64 x.slot) := hc 0 _ rfl
      have hc1 : wr.cell? ⟨g, k * 4 + 1, none⟩ = some (.int .i64 x.b) := hc 1 _ rfl
      have hc2 : wr.cell? ⟨g, k * 4 + 2, none⟩ = some (.int .i64 x.frm) := hc 2 _ rfl
      have hc3 : wr.cell? ⟨g, k * 4 + 3, none⟩ = some (.slice Av x.v.length cv) := hc 3 _ rfl
      have hmore : keptL s (L.take (k + 1)) = keptL s (L.take k) ++ if s ≤ x.slot then [x] else [] := by
        unfold keptL
        rw [List.take_add_one, hx, Option.toList_some, List.filter_append]
        congr 1
        by_cases hsx : s ≤ x.slot <;> simp [hsx]
      have g1 : (k : Int) < L.length := by omega
      have g2 : (0 : Int) ≤ k := by omega
      by_cases hsx : s ≤ x.slot
      · rw [if_pos hsx] at hmore
        have Hpush := Lib.hid (fun v2 w2 => @Under.push TakeT RTake RTake.kept 4 64 w.heap.size S W1 wr w2 (.slice As (keptL s (L.take k)).length cs0) v2 (keptL s (L.take k)) x css [.int .i64 x.slot, .int .i64 x.b, .int .i64 x.frm, .slice Av x.v.length cv] (.cells #[.int .i64 x.slot, .int .i64 x.b, .int .i64 x.frm, .slice Av x.v.length cv] 64) hrow hown hb (by omega) HSl.out rfl hxr')
        have Hown := Lib.hid hown
        have Hmore := Lib.hid hmore
        obtain ⟨K0, hK0⟩ : ∃ K0, (keptL s (L.take k)).length = K0 := ⟨_, rfl⟩
        rw [hK0] at Hown hkl Hpush
        rw [hK0]
        obtain ⟨fl, hfl⟩ : ∃ fl, css.flatten = fl := ⟨_, rfl⟩
        rw [hfl] at Hown Hpush
        clear hc hx hmore hxr' hv hrow hown hb hLr hBr hcl hK0 hfl
        go_wp2_with (at_builtin; refine wpList_append_src rfl _ _ 39 rfl w.heap.size 64 (.agg #[.int .i64 0, .int .i64 0, .int .i64 0, .slice none 0 0]) 4 48 Try.underlying39 take_inf (by rfl) (by omega) (.slice As K0 cs0) K0 fl rfl (by exact Hown.out.alloc _) (some ⟨wr.heap.size, 0, none⟩) 1 1 [.int .i64 x.slot, .int .i64 x.b, .int .i64 x.frm, .slice Av x.v.length cv] rfl rfl (fun _ => ⟨wr.heap.size, 0, rfl, fun j u hj => by have := World.news_of_block (w := wr.alloc _) (heap_alloc_new wr (.cells #[.int .i64 x.slot, .int .i64 x.b, .int .i64 x.frm, .slice Av x.v.length cv] 64)) j u hj; rwa [WideShapes.add_plain] at this⟩) (by intro u hu; simp at hu; rcases hu with rfl | rfl | rfl | rfl <;> rfl) (by omega) (by omega) (by simp; omega) ?_; intro v5 w5 hown5 hg5 _; have Hp := Lib.hid (Hpush.out v5 w5 hown5 hg5); clear hown5 hg5)
        go_roundw
        case rel => exact ⟨k + 1, by omega, by go_num, by rw [Hmore.out]; exact Hp.out⟩
        case measure => simp [intOf]; omega
      · rw [if_neg hsx, List.append_nil] at hmore
        have Hu : Hid (Under RTake 4 64 w.heap.size S W1 (.slice As (keptL s (L.take k)).length cs0) (keptL s (L.take (k + 1))) wr) := Lib.hid (by rw [hmore]; exact ⟨⟨css, hrow, hown⟩, hb⟩)
        clear hc hx hmore hxr' hv hrow hown hb hLr hBr hcl
        go_wp2_with fail
        go_roundw
        case rel => exact ⟨k + 1, by omega, by go_num, Hu.out⟩
        case measure => simp [intOf]; omega
    · have hfull : L.take k = L := List.take_of_length_le (by omega)
      rw [hfull] at hrow hown hkl
      rw [hfull]
      have q1 : ¬ (k : Int) < L.length := by omega
      have HUA : Hid (Under RTake 4 64 w.heap.size S W1 (.slice As (keptL s L).length cs0) (keptL s L) wr) := Lib.hid ⟨⟨css, hrow, hown⟩, hb⟩
      obtain ⟨KA, hKA⟩ : ∃ KA, (keptL s L).length = KA := ⟨_, rfl⟩
      rw [hKA] at HUA
      have HKA := Lib.hid hKA
      rw [hKA]
      clear hfull hrow hown hb hBr hKA hlt hk
      rename World => WA
      have hbA := HUA.out.2
      have hBA := HB1.out.below hbA (by omega)
      have hDA := HD1.out.touch RDone.kept (T := fun k => w.heap.size ≤ k) (Below.touch hbA (fun k _ e => e)) (fun k e e2 => by have := Hdb.out k e; omega) (fun k hk => ⟨by have := HSl.out k hk; omega, by have := HSl.out k hk; omega⟩) (fun _ e => e)
      have hSA : ∀ k, S k → k < WA.heap.size := fun k hk => by have := HSl.out k hk; omega
      have hdA : ∀ k, Value.ownBlock (.slice Ad Ds.length cd) = some k → k < WA.heap.size := fun k e => by have := Hdb.out k e; omega
      have HBA := Lib.hid hBA
      have HDA := Lib.hid hDA
      have HSA := Lib.hid hSA
      have HdA := Lib.hid hdA
      have hMA : M < WA.heap.size := by omega
      clear hbA hBA hDA hSA hdA
      go_wp2_with fail
      clear m2 m3
      go_loopw [6, 7] (fun tv i wr => ∃ k : Nat, k ≤ Ds.length ∧ i = .int .i64 k ∧ Under RDone 2 66 WA.heap.size S WA tv (keptDone s (Ds.take k)) wr) (fun _ i _ => Ds.length - (intOf i).toNat)
      case atStart => exact ⟨0, Nat.zero_le _, rfl, Owns.nil _ _ _ _ _ _, Below.refl _ _⟩
      case round =>
        obtain ⟨k, hk, rfl, ⟨css, hrow, hown⟩, hb⟩ := hrel
        have hwz2 : WA.heap.size ≤ wr.heap.size := hb.size
        have hkl2 : (keptDone s (Ds.take k)).length ≤ k := by
          have := List.length_filter_le (fun x : DoneT => decide (s ≤ x.slot)) (Ds.take k)
          rw [List.length_take] at this
          unfold keptDone; omega
        obtain ⟨Ae, ce, rfl⟩ := own_shape hown
        have hBr := HBA.out.below hb hMA
        have m2 := hBr.cell 2
        have m3 := hBr.cell 3
        have mf2 := hBr.frozen 2
        have mf3 := hBr.frozen 3
        simp only [List.getElem?_toArray, List.getElem?_cons_succ, List.getElem?_cons_zero] at m2 m3
        by_cases hlt : k < Ds.length
        · obtain ⟨x, hx⟩ : ∃ x, Ds[k]? = some x := ⟨Ds[k], List.getElem?_eq_getElem hlt⟩
          have hLr := HDA.out.touch RDone.kept (T := fun k => WA.heap.size ≤ k) (Below.touch hb (fun k _ e => e)) (fun k e e2 => by have := HdA.out k e; omega) (fun k hk => ⟨by have := HSA.out k hk; omega, by have := HSA.out k hk; omega⟩) (fun _ e => e)
          obtain ⟨g, cs, rfl, hxr, hcl, hc⟩ := Owns.at hLr hx
          have hxr' := hxr
          obtain ⟨v, rfl, hv⟩ := hxr
          obtain ⟨Av, cv, rfl⟩ := slice_shape hv
          have hc0 : wr.cell? ⟨g, k * 2, none⟩ = some (.int .i64 x.slot) := hc 0 _ rfl
          have hc1 : wr.cell? ⟨g, k * 2 + 1, none⟩ = some (.slice Av x.v.length cv) := hc 1 _ rfl
          have hmore : keptDone s (Ds.take (k + 1)) = keptDone s (Ds.take k) ++ if s ≤ x.slot then [x] else [] := by
            unfold keptDone
            rw [List.take_add_one, hx, Option.toList_some, List.filter_append]
            congr 1
            by_cases hsx : s ≤ x.slot <;> simp [hsx]
          have g1 : (k : Int) < Ds.length := by omega
          have g2 : (0 : Int) ≤ k := by omega
          by_cases hsx : s ≤ x.slot
          · rw [if_pos hsx] at hmore
            have Hpush := Lib.hid (fun v2 w2 => @Under.push DoneT RDone RDone.kept 2 66 WA.heap.size S WA wr w2 (.slice Ae (keptDone s (Ds.take k)).length ce) v2 (keptDone s (Ds.take k)) x css [.int .i64 x.slot, .slice Av x.v.length cv] (.cells #[.int .i64 x.slot, .slice Av x.v.length cv] 66) hrow hown hb (Nat.le_refl _) HSA.out rfl hxr')
            have Hown := Lib.hid hown
            have Hmore := Lib.hid hmore
            obtain ⟨K0, hK0⟩ : ∃ K0, (keptDone s (Ds.take k)).length = K0 := ⟨_, rfl⟩
            rw [hK0] at Hown hkl2 Hpush
            rw [hK0]
            obtain ⟨fl, hfl⟩ : ∃ fl, css.flatten = fl := ⟨_, rfl⟩
            rw [hfl] at Hown Hpush
            clear hc hx hmore hxr' hv hrow hown hb hLr hBr hcl hK0 hfl m2 mf2 mf3
            go_wp2_with (at_builtin; refine wpList_append_src rfl _ _ 40 rfl WA.heap.size 66 (.agg #[.int .i64 0, .slice none 0 0]) 2 32 Try.underlying40 done_inf (by rfl) (by omega) (.slice Ae K0 ce) K0 fl rfl (by exact Hown.out.alloc _) (some ⟨wr.heap.size, 0, none⟩) 1 1 [.int .i64 x.slot, .slice Av x.v.length cv] rfl rfl (fun _ => ⟨wr.heap.size, 0, rfl, fun j u hj => by have := World.news_of_block (w := wr.alloc _) (heap_alloc_new wr (.cells #[.int .i64 x.slot, .slice Av x.v.length cv] 66)) j u hj; rwa [WideShapes.add_plain] at this⟩) (by intro u hu; simp at hu; rcases hu with rfl | rfl <;> rfl) (by omega) (by omega) (by simp; omega) ?_; intro v5 w5 hown5 hg5 _; have Hp := Lib.hid (Hpush.out v5 w5 hown5 hg5); clear hown5 hg5)
            go_roundw
            case rel => exact ⟨k + 1, by omega, by go_num, by rw [Hmore.out]; exact Hp.out⟩
            case measure => simp [intOf]; omega
          · rw [if_neg hsx, List.append_nil] at hmore
            have Hu : Hid (Under RDone 2 66 WA.heap.size S WA (.slice Ae (keptDone s (Ds.take k)).length ce) (keptDone s (Ds.take (k + 1))) wr) := Lib.hid (by rw [hmore]; exact ⟨⟨css, hrow, hown⟩, hb⟩)
            clear hc hx hmore hxr' hv hrow hown hb hLr hBr hcl m2 mf2 mf3
            go_wp2_with fail
            go_roundw
            case rel => exact ⟨k + 1, by omega, by go_num, Hu.out⟩
            case measure => simp [intOf]; omega
        · have hfull : Ds.take k = Ds := List.take_of_length_le (by omega)
          rw [hfull] at hrow hown hkl2
          rw [hfull]
          have q2 : ¬ (k : Int) < Ds.length := by omega
          obtain ⟨⟨cssA, hrowA, hownA⟩, hbA⟩ := HUA.out
          have Hfin := Lib.hid (rforget_end s H.out HW1.out HB1.out hbA hrowA (by rw [← HKA.out] at hownA; exact hownA) hb hrow hown hbase)
          rw [HKA.out] at Hfin
          obtain ⟨KD, hKD⟩ : ∃ KD, (keptDone s Ds).length = KD := ⟨_, rfl⟩
          rw [hKD] at Hfin
          rw [hKD]
          clear hfull hrow hown hb hBr hKD hlt hk hrowA hownA hbA
          go_wp2_with fail
          go_end0
          exact ⟨rfl, ⟨_, _, Hfin.out.1⟩, Hfin.out.2⟩
set_option maxHeartbeats 1000000 in
theorem rforget_out {w : World} {base : Nat} {S : Nat → Prop} {M : Nat} {n low : Int} {L : List TakeT} {Ds : List DoneT} {lv dv : Value} (s : Int) (h : RefAt w base S M n low L Ds lv dv) (hs : ¬ (low < s ∧ s ≤ 1073741824)) :
    Calls Try.prog 23 #[.pointer (some ⟨M, 0, none⟩), .int .i64 s] w fun e w' => e = .returned (.tuple #[]) ∧ w' = w := by
  have k1 : w.cell? ⟨M, 1, none⟩ = some (.int .i64 low) := h.blk.cell 1
  clear h
  by_cases q1 : s ≤ low
  · have d1 : decide (s ≤ low) = true := decide_eq_true q1
    clear hs
    go_enter Try.func23, Try.ntmps23
    go_wp2_with fail
    (try simp only [Exit.inBlock, Exit.then]); refine bodyPost_ret (results_none rfl _ _ _) rfl ?_
    exact ⟨rfl, rfl⟩
  · have d1 : decide (s ≤ low) = false := decide_eq_false q1
    have d2 : decide (1073741824 < s) = true := decide_eq_true (by omega)
    have d3 : 1073741824 < s := by omega
    clear hs
    go_enter Try.func23, Try.ntmps23
    go_wp2_with fail
    (try simp only [Exit.inBlock, Exit.then]); refine bodyPost_ret (results_none rfl _ _ _) rfl ?_
    exact ⟨rfl, rfl⟩
end Go.Proofs.Ytkghogfcfocmpaa
