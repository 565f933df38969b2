/- The walk of the statement DiskCopies: it returns true. -/
import Derived.Test.YtnjipfnkbfhliaaDiskLaws1
import Derived.Test.YtnjipfnkbfhliaaOpen
namespace Go.Proofs.Ytnjipfnkbfhliaa
open Go.RowKit

/-- What is known behind k rounds: the disk has the first k texts, cut; so has m. -/
def CopRel (w : World) (l : List (List UInt8)) (k : Nat) (mv : Value) (wr : World) : Prop :=
  ∃ F, DiskAt wr w.heap.size F w.heap.size ((l.take k).map (·.take 20)) ∧ Owns RText 1 30 wr w.heap.size (fun g => g < w.heap.size) mv ((l.take k).map (·.take 20)) ∧ (∀ g, mv.ownBlock = some g → ¬ F g) ∧ Below w.heap.size w wr
theorem cut_length (l : List (List UInt8)) : ∀ r ∈ l.map (·.take 20), r.length ≤ 1000000000 := by
  intro r hr
  obtain ⟨x, _, rfl⟩ := List.mem_map.1 hr
  rw [List.length_take]; omega
theorem cut_succ {l : List (List UInt8)} {k : Nat} {r : List UInt8} (h : l[k]? = some r) : (l.take (k + 1)).map (·.take 20) = (l.take k).map (·.take 20) ++ [r.take 20] := by
  obtain ⟨hk, rfl⟩ := List.getElem?_eq_some_iff.1 h
  rw [List.take_succ_eq_append_getElem hk, List.map_append]; rfl
theorem cut_le {r lc : List UInt8} (h : lc = r.take (Int.toNat 20)) : lc.length ≤ 20 := by
  rw [h, List.length_take]; exact Nat.min_le_left _ _

theorem cop_start (w : World) (l : List (List UInt8)) : CopRel w l 0 (.slice none 0 0) (w.alloc (.cells #[.slice none 0 0] 38)) :=
  ⟨_, DiskAt.new w w.heap.size (Nat.le_refl _), Owns.nil RText 1 _ _ _ _, fun g e => by simp [Value.ownBlock] at e, (Below.refl _ _).alloc (Nat.le_refl _) _⟩
/-- One element put behind a row of the call's own, the disk kept. -/
theorem row_more {B : Nat} {w1 w2 : World} {F : Nat → Prop} {D : Nat} {recs ms : List (List UInt8)} {css : List (List Value)} {mv v v2 : Value} {r : List UInt8} {S : Nat → Prop}
    (hd : DiskAt w1 B F D recs) (hrow : RowsOf RText 1 w1 S css ms) (hS : ∀ g, S g → g < B) (hB : B ≤ w1.heap.size) (hlt : ∀ g, mv.ownBlock = some g → B ≤ g ∧ g < w1.heap.size) (hn : ∀ g, mv.ownBlock = some g → ¬ F g) (hx : BytesAt w1 S v r)
    (h2 : w2.ownsRow B 30 1 v2 (ms.length + 1) (css.flatten ++ [v])) (hg : (w1.alloc (.cells #[v] 30)).grownBy w2 mv.ownBlock) (hat : v2.ownBlock = mv.ownBlock ∨ v2.ownBlock = some (w1.alloc (.cells #[v] 30)).heap.size) :
    DiskAt w2 B F D recs ∧ Owns RText 1 30 w2 B S v2 (ms ++ [r]) ∧ (∀ g, v2.ownBlock = some g → ¬ F g) ∧ Below B w1 w2 := by
  have ht : Touch (fun g => mv.ownBlock = some g) w1 w2 := (Touch.alloc _ w1 _).trans (Touch.grown hg (fun g _ e => e)) (fun _ _ h => h)
  have hk : ∀ g, S g → w2.heap[g]? = w1.heap[g]? := fun g hg' => ht.block g (by have := hS g hg'; omega) (fun e => by have := hlt g e; have := hS g hg'; omega)
  refine ⟨hd.touch ht (fun g hF e => hn g e hF), owns_snoc RText.kept hrow hk (fun _ g => g) rfl ⟨v, rfl, SliceOf.keep RByte.kept hx hk (fun _ g => g)⟩ h2, fun g e hF => ?_, ht.below (fun g e => (hlt g e).1) hB⟩
  rcases hat with e2 | e2
  · exact hn g (e2 ▸ e) hF
  · rw [e2] at e; simp at e; have := hd.lt g hF; omega
theorem cop_step {w wr w1 w2 : World} {l : List (List UInt8)} {k : Nat} {mv v v2 : Value} {r : List UInt8} {F : Nat → Prop} {css : List (List Value)} (hr : l[k]? = some r)
    (hd : DiskAt wr w.heap.size F w.heap.size ((l.take k).map (·.take 20))) (hrow : RowsOf RText 1 wr (fun g => g < w.heap.size) css ((l.take k).map (·.take 20))) (hlt : ∀ g, mv.ownBlock = some g → w.heap.size ≤ g ∧ g < wr.heap.size) (hn : ∀ g, mv.ownBlock = some g → ¬ F g) (hb : Below w.heap.size w wr)
    (hx : BytesAt wr (fun g => g < w.heap.size) v (r.take 20)) (hd1 : DiskTurned wr w.heap.size F w.heap.size ((l.take k).map (·.take 20) ++ [r.take 20]) w1)
    (h2 : w2.ownsRow w.heap.size 30 1 v2 (((l.take k).map (·.take 20)).length + 1) (css.flatten ++ [v])) (hg : (w1.alloc (.cells #[v] 30)).grownBy w2 mv.ownBlock) (hat : v2.ownBlock = mv.ownBlock ∨ v2.ownBlock = some (w1.alloc (.cells #[v] 30)).heap.size) :
    CopRel w l (k + 1) v2 w2 := by
  obtain ⟨F1, d1, f1, t1⟩ := hd1
  have hz := hb.size
  have hFB : ∀ g, F g → w.heap.size ≤ g := fun g hg => (hd.lt g hg).1
  have hk : ∀ g, g < w.heap.size → w1.heap[g]? = wr.heap[g]? := fun g hg => t1.block g (by omega) (fun e => by have := hFB g e; omega)
  have b1 : Below w.heap.size wr w1 := t1.below hFB hz
  obtain ⟨a1, a2, a3, a4⟩ := row_more (mv := mv) d1 (RowsOf.keep RText.kept hrow hk (fun _ g => g)) (fun g h => h) (by have := t1.size; omega) (fun g e => ⟨(hlt g e).1, by have := hlt g e; have := t1.size; omega⟩) (fun g e hF => by
    rcases f1 g hF with h | h
    · exact hn g e h
    · have := hlt g e; omega) (SliceOf.keep RByte.kept hx hk (fun _ g => g)) h2 hg hat
  refine ⟨F1, ?_, ?_, a3, (hb.trans b1).trans a4⟩
  · rw [cut_succ hr]; exact a1
  · rw [cut_succ hr]; exact a2

set_option maxHeartbeats 1000000 in
theorem copies_walk (v0 v1 : Value) (l : List (List UInt8)) (b : List UInt8) (w : World) (h0 : SliceOf RText 1 w (fun g => g < w.heap.size) v0 l) (h1 : BytesAt w (fun g => g < w.heap.size) v1 b) :
    Calls Try.prog 5 #[v0, v1] w (SameEnd w) := by
  have H0 := Lib.hid h0
  have H1 := Lib.hid h1
  obtain ⟨A, ca, rfl, _, hca, _⟩ := h0
  have hmax : l.length ≤ 9223372036854775807 := by unfold maxLen at hca; omega
  clear h1 hca
  go_enter Try.func5, Try.ntmps5
  go_wp2_with (go_at_call 6; refine (new_any _).mono ?_; rintro e w' ⟨rfl, rfl⟩)
  go_loopw [6, 7, 8] (fun m i x wr => ∃ k : Nat, k ≤ l.length ∧ k ≤ 15 ∧ i = .int .i64 k ∧ CopRel w l k m wr) (fun _ i _ _ => 15 - (intOf i).toNat)
  case atStart => exact ⟨0, Nat.zero_le _, by omega, rfl, cop_start w l⟩
  case round =>
    obtain ⟨k, hk, hk2, rfl, hrel⟩ := hrel
    by_cases hlt : k < l.length ∧ k < 15
    · obtain ⟨hlt, hlt2⟩ := hlt
      obtain ⟨r, hr⟩ : ∃ r, l[k]? = some r := ⟨l[k], List.getElem?_eq_getElem hlt⟩
      obtain ⟨F, hd, ⟨css, hrow, hown⟩, hn, hb⟩ := hrel
      obtain ⟨bb, off, rfl, hbS, cs, ⟨x, rfl, hx⟩, _, hc⟩ := (SliceOf.below RText.kept H0.out hb (fun _ g => g) (fun _ g => g)).at hr
      have hcell : wr.cell? ⟨bb, off + k, none⟩ = some x := by simpa using hc 0 x rfl
      have hlen : ((l.take k).map (·.take 20)).length = k := by rw [List.length_map, List.length_take]; omega
      have hov := hown.lt
      have hfin := fun v w1 v2 w2 a c d e f => cop_step (v := v) (w1 := w1) (v2 := v2) (w2 := w2) hr hd hrow hov hn hb a c d e f
      rw [hlen] at hfin hown
      have hl0 : ((l.take k).map (·.take 20)).length ≤ 1000000000 := by omega
      have Hd := Lib.hid hd
      have Hown := Lib.hid hown
      have Hov := Lib.hid hov
      have Hn := Lib.hid hn
      have Hb := Lib.hid hb
      have Hx := Lib.hid hx
      have Hfin := Lib.hid hfin
      have Hl0 := Lib.hid hl0
      clear hd hown hov hn hb hx hfin hc hr hrow hlen hl0
      go_wp2_with (first
        | (go_at_call 11; refine (cut_any x r 20 _ wr Hx.out (by omega) (by omega)).mono ?_; rintro e w' ⟨cv, lc, rfl, hlc, hcv, rfl⟩; obtain ⟨A1, c1, rfl⟩ := slice_shape hcv; have hlc2 : lc.length ≤ 20 := cut_le hlc; have Hlc := Lib.hid hlc; have Hcv := Lib.hid hcv; clear hcv hlc)
        | (go_at_call 8; refine (append_any Hd.out Hb.out.size Hcv.out (fun g e => Nat.lt_of_lt_of_le e Hb.out.size) Hl0.out (by omega)).mono ?_; rintro e w1 ⟨rfl, hd1⟩; have Hd1 := Lib.hid hd1; clear hd1)
        | (at_builtin; refine wpList_append_src rfl _ _ 26 rfl w.heap.size 30 (.slice none 0 0) 1 24 Try.underlying26 row_info rfl (by omega) u6 k css.flatten rfl ((own_turned Hown.out Hd1.out Hn.out).alloc _) (some ⟨w1.heap.size, 0, none⟩) 1 1 [.slice A1 lc.length c1] rfl rfl (one_new w1 _ _) (by intro u hu; simp at hu; subst hu; rfl) (by omega) (by omega) (by have := Hb.out.size; have := turned_size Hd1.out; simp; omega) ?_; intro v2 w2 hown2 hg2 hat2))
      have hfin' := Hfin.out _ _ _ _ (Hlc.out ▸ Hcv.out) (Hlc.out ▸ Hd1.out) hown2 hg2 hat2
      clear hown2 hg2 hat2 Hfin
      go_wp2_with fail
      go_roundw
      case rel => exact ⟨k + 1, by omega, by omega, by go_num, hfin'⟩
      case measure => simp [intOf]; omega
    · have hor : ¬ k < l.length ∨ (k < l.length ∧ ¬ k < 15) := by omega
      obtain ⟨F, hd, ⟨css, hrow, hown⟩, hn, hb⟩ := hrel
      have hlen : ((l.take k).map (·.take 20)).length = k := by rw [List.length_map, List.length_take]; omega
      have hcl := cut_length (l.take k)
      generalize hrecs : (l.take k).map (·.take 20) = recs at *
      rw [hlen] at hown
      obtain ⟨Am, cm, rfl⟩ := own_shape hown
      subst hlen
      have hl0 : recs.length ≤ 1000000000 := by omega
      have hl1 : (recs ++ [[]]).length ≤ 1000000000 := by simp; omega
      have m0 : SliceOf RText 1 wr (fun g => g < wr.heap.size) (.slice Am recs.length cm) recs := Owns.slice RText.kept (⟨css, hrow, hown⟩ : Owns RText 1 30 wr w.heap.size _ _ _) (fun g h => Nat.lt_of_lt_of_le h hb.size) (fun g e => (hown.lt g e).2)
      have hfl := hd.lt
      have hov := hown.lt
      have Hd := Lib.hid hd
      have Hrow := Lib.hid hrow
      have Hown := Lib.hid hown
      have Hn := Lib.hid hn
      have Hb := Lib.hid hb
      have Hcl := Lib.hid hcl
      have M0 := Lib.hid m0
      have Hfl := Lib.hid hfl
      have Hov := Lib.hid hov
      have hz0 := hb.size
      clear hd hrow hown hn hb hcl hrecs H0 hlt m0 hfl hov
      rcases hor with h | ⟨h, h'⟩
      all_goals
        go_wp2_with fail
        refine (copy_any Hd.out hl0 Hcl.out).mono ?_
        rintro e w1 ⟨D2, F2, rfl, d2, b1⟩
        have hz1 := b1.size
        have D2a := Lib.hid d2
        have B1 := Lib.hid b1
        clear d2 b1
        go_wp2_with fail
        refine (same_any (S := fun g => g < w1.heap.size) D2a.out (SliceOf.below RText.kept M0.out B1.out (fun _ g => g) (fun _ g => by omega)) (fun _ g => g) hl0 Hcl.out).mono ?_
        rintro e w2 ⟨rfl, b2⟩
        have hz2 := b2.size
        have b12 : Below wr.heap.size wr w2 := B1.out.trans (b2.mono hz1)
        have Hd2 := Lib.hid (Hd.out.below b12)
        have D2b := Lib.hid (D2a.out.below b2)
        have B12 := Lib.hid b12
        have Bw2 := Lib.hid (Hb.out.trans (b12.mono hz0))
        have Hb2 := Lib.hid (SliceOf.below RByte.kept H1.out (Hb.out.trans (b12.mono hz0)) (fun _ g => g) (fun _ g => g))
        clear b2 b12 D2a B1 Hd
        go_wp2_with fail
        refine (cut_any v1 b 20 _ w2 Hb2.out (by omega) (by omega)).mono ?_
        rintro e w' ⟨cv, lc, rfl, hlc, hcv, rfl⟩
        obtain ⟨A1, c1, rfl⟩ := slice_shape hcv
        have hlc2 : lc.length ≤ 20 := cut_le hlc
        have Hcv := Lib.hid hcv
        clear hcv hlc Hb2
        go_wp2_with fail
        refine (append_any Hd2.out (by omega) Hcv.out (fun g e => by omega) hl0 (by omega)).mono ?_
        rintro e w3 ⟨rfl, F3, d3, f3, t3⟩
        have hz3 := t3.size
        have hF : ∀ g, F g → w.heap.size ≤ g ∧ g < wr.heap.size := Hfl.out
        have hF2 : ∀ g, F2 g → wr.heap.size ≤ g ∧ g < w2.heap.size := D2b.out.lt
        have c3 : DiskAt w3 wr.heap.size F2 D2 recs := D2b.out.touch t3 (fun g h h' => by have := hF g h'; have := hF2 g h; omega)
        have x3 : BytesAt w3 (fun g => g < w.heap.size) (.slice A1 lc.length c1) lc := SliceOf.touch RByte.kept Hcv.out t3 (fun g h => ⟨by omega, fun h' => by have := hF g h'; omega⟩) (fun _ g => g)
        have o3 : w3.ownsRow w.heap.size 30 1 (.slice Am recs.length cm) recs.length css.flatten := own_touch (own_below Hown.out B12.out) t3 Hn.out
        have r3 : RowsOf RText 1 w3 (fun g => g < w.heap.size) css recs := RowsOf.keep RText.kept Hrow.out (fun g h => (t3.block g (by omega) (fun h' => by have := hF g h'; omega)).trans (B12.out.block g (by omega))) (fun _ g => g)
        have b3 : Below w.heap.size w w3 := Bw2.out.trans (t3.below (fun g h => (hF g h).1) (by omega))
        have l3 : SliceOf RText 1 (w3.alloc (.cells #[.slice A1 lc.length c1] 30)) (fun g => g < w3.heap.size + 1) (.slice (some ⟨w3.heap.size, 0, none⟩) 1 1) [lc] :=
          texts_lit (S := fun g => g < w.heap.size) (l := [lc]) (heap_alloc_new w3 _) (by simp) rfl (fun i v x h1 h2 => by
            match i with
            | 0 => simp at h1 h2; subst h1 h2; exact SliceOf.below RByte.kept x3 (Touch.below (Touch.alloc (fun _ => False) w3 _) (fun _ g => g.elim) (Nat.le_refl _)) (fun g h => by omega) (fun _ g => g)
            | k + 1 => simp at h2) (fun g h => by omega) (by omega)
        have D3 := Lib.hid d3
        have F3a := Lib.hid f3
        have T3 := Lib.hid t3
        have C3 := Lib.hid (c3.alloc (.cells #[.slice A1 lc.length c1] 30))
        have X3 := Lib.hid x3
        have O3 := Lib.hid o3
        have R3 := Lib.hid r3
        have B3 := Lib.hid b3
        have L3 := Lib.hid l3
        have HF := Lib.hid hF
        have HF2 := Lib.hid hF2
        clear d3 f3 t3 c3 x3 o3 r3 b3 l3 hF hF2 Hd2 D2b Hcv Bw2
        go_wp2_with fail
        refine (replace_any C3.out (by simp; omega) L3.out (fun g h => by simpa using h) (by simp) (by intro r hr; simp at hr; subst hr; omega)).mono ?_
        rintro e w5 ⟨rfl, F5, d5, f5, t5⟩
        have hz5 : w3.heap.size + 1 ≤ w5.heap.size := by have := t5.size; simpa using this
        have t35 : Touch F2 w3 w5 := (Touch.alloc F2 w3 _).trans t5 (fun _ _ g => g)
        have e5 : DiskAt w5 w.heap.size F3 w.heap.size (recs ++ [lc]) := D3.out.touch t35 (fun g h h' => by
          have := HF2.out g h'
          rcases F3a.out g h with h2 | h2
          · have := HF.out g h2; omega
          · omega)
        have x5 : BytesAt w5 (fun g => g < w.heap.size) (.slice A1 lc.length c1) lc := SliceOf.touch RByte.kept X3.out t35 (fun g h => ⟨by omega, fun h' => by have := HF2.out g h'; omega⟩) (fun _ g => g)
        have o5 : w5.ownsRow w.heap.size 30 1 (.slice Am recs.length cm) recs.length css.flatten := own_touch O3.out t35 (fun g h h' => by have := HF2.out g h'; have := Hov.out g h; omega)
        have r5 : RowsOf RText 1 w5 (fun g => g < w.heap.size) css recs := RowsOf.keep RText.kept R3.out (fun g h => t35.block g (by omega) (fun h' => by have := HF2.out g h'; omega)) (fun _ g => g)
        have b5 : Below w.heap.size w w5 := B3.out.trans (t35.below (fun g h => by have := HF2.out g h; omega) (by omega))
        have hF5 := d5.lt
        have D5 := Lib.hid d5
        have E5 := Lib.hid e5
        have X5 := Lib.hid x5
        have O5 := Lib.hid o5
        have R5 := Lib.hid r5
        have B5 := Lib.hid b5
        clear d5 f5 t5 t35 e5 x5 o5 r5 b5 hF5 D3 F3a T3 C3 X3 O3 R3 B3 L3
        go_wp2_with (first
          | (at_builtin; refine wpList_append_src rfl (.tmp 55) (.tmp 56) 26 rfl w5.heap.size 30 (.slice none 0 0) 1 24 Try.underlying26 row_info rfl (by omega) (.slice (some ⟨w5.heap.size, 0, none⟩) 0 0) 0 [] rfl (World.ownsRow_lit w5 #[] 0 (Nat.le_refl _) (by unfold maxLen; omega) rfl) Am recs.length cm css.flatten rfl (texts_len R5.out) (own_src (O5.out.alloc _)) (texts_one R5.out) (by omega) (by omega) (by simp) ?_; intro v6 w6 hown6 hg6 hat6; simp only [Nat.zero_add, List.nil_append] at hown6; obtain ⟨A6, c6, rfl⟩ := own_shape hown6; have hz6 : w5.heap.size + 1 ≤ w6.heap.size := (by have := hg6.size; simpa using this); have Hown6 := Lib.hid hown6; have Hg6 := Lib.hid hg6; have Hat6 := Lib.hid hat6; clear hown6 hg6 hat6)
          | (at_builtin; refine wpList_append_src rfl (.tmp 57) (.tmp 59) 26 rfl w5.heap.size 30 (.slice none 0 0) 1 24 Try.underlying26 row_info rfl (by omega) (.slice A6 recs.length c6) recs.length css.flatten rfl (Hown6.out.alloc _) (some ⟨w6.heap.size, 0, none⟩) 1 1 [.slice A1 lc.length c1] rfl rfl (one_new w6 _ _) (by intro u hu; simp at hu; subst hu; rfl) (by omega) (by omega) (by simp; omega) ?_; intro v7 w7 hown7 hg7 hat7; obtain ⟨A7, c7, rfl⟩ := own_shape hown7; have Hown7 := Lib.hid hown7; have Hg7 := Lib.hid hg7; have Hat7 := Lib.hid hat7; clear hown7 hg7 hat7))
        have hz7 : w6.heap.size + 1 ≤ w7.heap.size := by have := Hg7.out.size; simpa using this
        have g6 : Below w5.heap.size w5 w6 := (((Below.refl w5.heap.size w5).alloc (Nat.le_refl _) _).grown Hg6.out (by simp) (fun k e => by simp [Value.ownBlock] at e; omega))
        have g7 : Below w5.heap.size w5 w7 := ((g6.alloc (by omega) _).grown Hg7.out (by simp; omega) (fun k e => (Hown6.out.lt k e).1))
        have e7 : DiskAt w7 w.heap.size F3 w.heap.size (recs ++ [lc]) := E5.out.below g7
        have d7 : DiskAt w7 wr.heap.size F5 D2 [lc] := D5.out.below g7
        have x7 : BytesAt w7 (fun g => g < w.heap.size) (.slice A1 lc.length c1) lc := SliceOf.below RByte.kept X5.out g7 (fun g h => by omega) (fun _ g => g)
        have m7 : SliceOf RText 1 w7 (fun g => g < w7.heap.size) (.slice A7 (recs.length + 1) c7) (recs ++ [lc]) :=
          Owns.slice RText.kept (owns_snoc (S' := fun g => g < w7.heap.size) RText.kept R5.out (fun g h => g7.block g (by omega)) (fun g h => by omega) rfl ⟨_, rfl, SliceOf.keep RByte.kept x7 (fun _ _ => rfl) (fun g h => by omega)⟩ Hown7.out) (fun _ g => g) (fun g e => (Hown7.out.lt g e).2)
        have b7 : Below w.heap.size w w7 := B5.out.trans (g7.mono (by omega))
        have hl7 : (recs ++ [lc]).length ≤ 1000000000 := by rw [List.length_append]; simp; omega
        have hc7 : ∀ r ∈ recs ++ [lc], r.length ≤ 1000000000 := by
          intro r hr
          rcases List.mem_append.1 hr with h | h
          · exact Hcl.out r h
          · simp at h; subst h; omega
        have E7 := Lib.hid e7
        have D7 := Lib.hid d7
        have X7 := Lib.hid x7
        have M7 := Lib.hid m7
        have B7 := Lib.hid b7
        have Hc7 := Lib.hid hc7
        clear g6 g7 e7 d7 x7 m7 b7 hc7 E5 D5 X5 O5 R5 B5 Hown6 Hg6 Hat6 Hown7 Hg7 Hat7
        refine (same_any E7.out M7.out (fun _ g => g) hl7 Hc7.out).mono ?_
        rintro e w8 ⟨rfl, b8⟩
        have hz8 := b8.size
        have d8 := (D7.out.below b8).alloc (.cells #[.slice A1 lc.length c1] 30)
        have l8 : SliceOf RText 1 (w8.alloc (.cells #[.slice A1 lc.length c1] 30)) (fun g => g < w8.heap.size + 1) (.slice (some ⟨w8.heap.size, 0, none⟩) 1 1) [lc] :=
          texts_lit (S := fun g => g < w.heap.size) (l := [lc]) (heap_alloc_new w8 _) (by simp) rfl (fun i v x h1 h2 => by
            match i with
            | 0 => simp at h1 h2; subst h1 h2; exact SliceOf.below RByte.kept (SliceOf.below RByte.kept X7.out b8 (fun g h => by omega) (fun _ g => g)) (Touch.below (Touch.alloc (fun _ => False) w8 _) (fun _ g => g.elim) (Nat.le_refl _)) (fun g h => by omega) (fun _ g => g)
            | k + 1 => simp at h2) (fun g h => by omega) (by omega)
        have b8' : Below w.heap.size w (w8.alloc (.cells #[.slice A1 lc.length c1] 30)) := (B7.out.trans (b8.mono (by omega))).alloc (by omega) _
        have D8 := Lib.hid d8
        have L8 := Lib.hid l8
        have B8 := Lib.hid b8'
        clear b8 d8 l8 b8' E7 D7 X7 M7 B7 Hc7
        go_wp2_with fail
        refine (same_any D8.out L8.out (fun g h => by simpa using h) (by simp) (by intro r hr; simp at hr; subst hr; omega)).mono ?_
        rintro e w9 ⟨rfl, b9⟩
        have B9 := Lib.hid (B8.out.trans (b9.mono (by simp; omega)))
        have hz9 : w.heap.size ≤ w9.heap.size := by have := b9.size; simp at this; omega
        clear b9 D8 L8 B8
        go_wp2_with fail
        refine (known_any w9).mono ?_
        rintro e w10 ⟨rfl, b10⟩
        have B10 := Lib.hid (B9.out.trans (b10.mono hz9))
        clear b10
        go_wp2_with fail
        go_ret
        exact ⟨rfl, B10.out⟩
end Go.Proofs.Ytnjipfnkbfhliaa
