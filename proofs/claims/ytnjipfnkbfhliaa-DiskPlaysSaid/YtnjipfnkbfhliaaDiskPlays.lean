/- The walk of the statement DiskPlays: it returns true. -/
import Derived.Test.YtnjipfnkbfhliaaScrap
namespace Go.Proofs.Ytnjipfnkbfhliaa
open Go.RowKit

/-- What is known ahead of a round. -/
def PlayRel (w : World) (k : Nat) (d mv : Value) (wr : World) : Prop :=
  ∃ D F recs, d = .pointer (some ⟨D, 0, none⟩) ∧ DiskAt wr w.heap.size F D recs ∧ Owns RText 1 30 wr w.heap.size (fun g => g < w.heap.size) mv recs ∧ (∀ g, mv.ownBlock = some g → ¬ F g) ∧ Below w.heap.size w wr ∧ recs.length ≤ k + 5 ∧ ∀ r ∈ recs, r.length ≤ 20
theorem play_start (w : World) : PlayRel w 0 (.pointer (some ⟨w.heap.size, 0, none⟩)) (.slice none 0 0) (w.alloc (.cells #[.slice none 0 0] 38)) :=
  ⟨_, _, [], rfl, DiskAt.new w w.heap.size (Nat.le_refl _), Owns.nil RText 1 _ _ _ _, fun g e => by simp [Value.ownBlock] at e, (Below.refl _ _).alloc (Nat.le_refl _) _, by simp, by simp⟩
theorem play_end {w wa wb wr : World} {k D : Nat} {F : Nat → Prop} {recs : List (List UInt8)} {mv : Value} (hd : DiskAt wb w.heap.size F D recs) (ho : Owns RText 1 30 wb w.heap.size (fun g => g < w.heap.size) mv recs) (hn : (∀ g, mv.ownBlock = some g → ¬ F g) ∧ (∀ g, F g → g < wa.heap.size) ∧ (∀ g, mv.ownBlock = some g → g < wa.heap.size) ∧ w.heap.size ≤ wa.heap.size) (hb : Below w.heap.size w wb) (hj : Below wa.heap.size wb wr) (hl : recs.length ≤ k + 1 + 5) (hc : ∀ r ∈ recs, r.length ≤ 20) :
    PlayRel w (k + 1) (.pointer (some ⟨D, 0, none⟩)) mv wr := by
  have ht : Touch (fun g => wa.heap.size ≤ g) wb wr := Below.touch hj (fun _ _ g => g)
  have hz := hb.size
  exact ⟨D, F, recs, rfl, hd.touch ht (fun g h h' => by have := hn.2.1 g h; omega), Owns.touch RText.kept ho ht (fun g e h' => by have := hn.2.2.1 g e; omega) (fun g h => ⟨by omega, fun h' => by have := hn.2.2.2; omega⟩) (fun _ g => g), hn.1, hb.trans (hj.mono hn.2.2.2), hl, hc⟩
theorem row_slice {w wt : World} {mv : Value} {recs : List (List UInt8)} (ho : Owns RText 1 30 wt w.heap.size (fun g => g < w.heap.size) mv recs) (hb : w.heap.size ≤ wt.heap.size) : SliceOf RText 1 wt (fun g => g < wt.heap.size) mv recs :=
  Owns.slice RText.kept ho (fun _ h => Nat.lt_of_lt_of_le h hb) (fun g e => (ho.lt g e).2)
theorem DiskAt.rebase {w : World} {base base' : Nat} {F : Nat → Prop} {D : Nat} {recs : List (List UInt8)} (h : DiskAt w base F D recs) (hb : base' ≤ base) : DiskAt w base' F D recs := by
  obtain ⟨v, S, h1, h2, h3, h4, h5, h6, h7, h8⟩ := h
  exact ⟨v, S, h1, Owns.rebase h2 hb, h3, h4, h5, h6, h7, fun k hk => ⟨Nat.le_trans hb (h8 k hk).1, (h8 k hk).2⟩⟩
theorem bytes_src {w : World} {S : Nat → Prop} {A : Option Addr} {n c : Nat} {l : List UInt8} (h : BytesAt w S (.slice A n c) l) : 0 < n → ∃ b off, A = some ⟨b, off, none⟩ ∧ ∀ j u, (l.map byteV)[j]? = some u → w.cell? ⟨b, off + j, none⟩ = some u := fun hn => by
  obtain ⟨A', c', hv, _, _, h3⟩ := h.open
  injection hv with e1 e2 e3
  subst e1 e2 e3
  obtain ⟨b, off, hA, _, hx⟩ := h3 hn
  refine ⟨b, off, hA, fun j u hj => ?_⟩
  rw [List.getElem?_map] at hj
  obtain ⟨c, hc, rfl⟩ := Option.map_eq_some_iff.1 hj
  obtain ⟨hlt, rfl⟩ := List.getElem?_eq_some_iff.1 hc
  exact hx j hlt
theorem play_nF {w wt : World} {D : Nat} {F : Nat → Prop} {recs : List (List UInt8)} {mv : Value} (hd : DiskAt wt w.heap.size F D recs) (ho : Owns RText 1 30 wt w.heap.size (fun g => g < w.heap.size) mv recs) (hn : ∀ g, mv.ownBlock = some g → ¬ F g) (hz : w.heap.size ≤ wt.heap.size) : ∀ wa : World, wt.heap.size ≤ wa.heap.size → (∀ g, mv.ownBlock = some g → ¬ F g) ∧ (∀ g, F g → g < wa.heap.size) ∧ (∀ g, mv.ownBlock = some g → g < wa.heap.size) ∧ w.heap.size ≤ wa.heap.size :=
  fun wa h => ⟨hn, fun g e => by have := (hd.lt g e).2; omega, fun g e => by have := (ho.lt g e).2; omega, by omega⟩
theorem c20 {recs : List (List UInt8)} (h : ∀ r ∈ recs, r.length ≤ 20) : ∀ r ∈ recs, r.length ≤ 1000000000 := fun r hr => Nat.le_trans (h r hr) (by omega)
theorem cut_20 (l : List (List UInt8)) : ∀ r ∈ l.map (·.take 20), r.length ≤ 20 := by
  intro r hr
  obtain ⟨x, _, rfl⟩ := List.mem_map.1 hr
  rw [List.length_take]; omega
theorem c20_snoc {recs : List (List UInt8)} {r : List UInt8} (h : ∀ r ∈ recs, r.length ≤ 20) (hr : r.length ≤ 20) : ∀ x ∈ recs ++ [r], x.length ≤ 20 := by
  intro x hx
  rcases List.mem_append.1 hx with h1 | h1
  · exact h x h1
  · simp at h1; subst h1; exact hr

set_option maxRecDepth 100000 in
set_option maxHeartbeats 4000000 in
theorem plays_walk (v0 : Value) (l : List AskT) (w : World) (h0 : SliceOf RAsk 3 w (fun g => g < w.heap.size) v0 l) :
    Calls Try.prog 4 #[v0] w (SameEnd w) := by
  have H0 := Lib.hid h0
  obtain ⟨A, ca, rfl, _, hca, _⟩ := h0
  have hmax : l.length ≤ 9223372036854775807 := by unfold maxLen at hca; omega
  clear hca
  have kc := const_rule
  go_enter Try.func4, Try.ntmps4
  go_wp2_with (go_at_call 6; refine (new_any _).mono ?_; rintro e w' ⟨rfl, rfl⟩)
  go_loopw [3, 4, 5] (fun d m i wr => ∃ k : Nat, k ≤ l.length ∧ k ≤ 40 ∧ i = .int .i64 k ∧ PlayRel w k d m wr) (fun _ _ i _ => 40 - (intOf i).toNat)
  case atStart => exact ⟨0, Nat.zero_le _, by omega, rfl, play_start w⟩
  case round =>
    obtain ⟨k, hk, hk2, rfl, D, F, recs, rfl, hd, ho, hnF', hb, hlen', hc20'⟩ := hrel
    by_cases hlt : k < l.length ∧ k < 40
    · obtain ⟨hlt, hlt2⟩ := hlt
      obtain ⟨x, hx⟩ : ∃ x, l[k]? = some x := ⟨l[k], List.getElem?_eq_getElem hlt⟩
      obtain ⟨bl, ol, rfl, hblS, cs, ⟨vb, vl, rfl, hvb, hvl⟩, _, hcc⟩ := (SliceOf.below RAsk.kept H0.out hb (fun _ g => g) (fun _ g => g)).at hx
      have hcell0 : wr.cell? ⟨bl, ol + k * 3, none⟩ = some (.int .i64 x.kind) := by simpa using hcc 0 _ rfl
      have hcell1 : wr.cell? ⟨bl, ol + k * 3 + 1, none⟩ = some vb := by have := hcc 1 _ rfl; rwa [← Nat.add_assoc] at this
      have hcell2 : wr.cell? ⟨bl, ol + k * 3 + 2, none⟩ = some vl := by have := hcc 2 _ rfl; rwa [← Nat.add_assoc] at this
      have hz0 := hb.size
      obtain ⟨kd, bx, lx⟩ := x
      simp only at hcell0 hvb hvl
      obtain ⟨Am, cm, rfl⟩ : ∃ Am cm, u4 = .slice Am recs.length cm := by obtain ⟨_, _, h⟩ := ho; exact own_shape h
      have hbl0 : bl < w.heap.size := hblS
      clear hcc hx hblS
      by_cases h1 : kd = 1
      · subst h1
        clear hvl hcell2
        obtain ⟨css, hrow, hown0⟩ := ho
        have hov := hown0.lt
        have hfl := hd.lt
        have hl00 : recs.length ≤ 1000000000 := by omega
        have Hvb := Lib.hid hvb
        have Hd0 := Lib.hid hd
        have Hrow := Lib.hid hrow
        have Hown0 := Lib.hid hown0
        have Hb0 := Lib.hid hb
        have Hn0 := Lib.hid hnF'
        have Hov := Lib.hid hov
        have Hfl := Lib.hid hfl
        have Hc20' := Lib.hid hc20'
        have hbl : bl < wr.heap.size := by omega
        clear hvb hd hrow hown0 hb hnF' hov hfl hc20'
        go_wp2_with (first
          | (go_at_call 11; refine (cut_any vb bx 20 _ _ (SliceOf.below RByte.kept Hvb.out ((Below.refl _ _).alloc (Nat.le_refl _) _) (fun g h => Nat.lt_of_lt_of_le h hz0) (fun _ g => g)) (by omega) (by omega)).mono ?_; rintro e w' ⟨cv, lc, rfl, hlc, hcv, rfl⟩; obtain ⟨A1, c1, rfl⟩ := slice_shape hcv; have hlc2 : lc.length ≤ 20 := cut_le hlc; have Hlc := Lib.hid hlc; have Hcv := Lib.hid hcv; clear hcv hlc)
          | (at_builtin; refine wpList_append_src rfl (.tmp 34) (.tmp 40) 30 rfl wr.heap.size 5 (.int .u8 0) 1 1 Try.underlying30 byte_info rfl (by omega) (.slice (some ⟨wr.heap.size, 0, none⟩) 0 0) 0 [] rfl (World.ownsRow_lit wr #[] 0 (Nat.le_refl _) (by unfold maxLen; omega) rfl) A1 lc.length c1 (lc.map byteV) rfl (by simp) (bytes_src Hcv.out) (bytes_one lc) (by omega) (by omega) (by simp) ?_; intro v6 w2 hown6 hg6 hat6; simp only [Nat.zero_add, List.nil_append] at hown6; obtain ⟨A6, c6, rfl⟩ := own_shape hown6; have hz2 : wr.heap.size + 1 ≤ w2.heap.size := (by have := hg6.size; simpa using this); have hb2 : Below wr.heap.size wr w2 := (((Below.refl wr.heap.size wr).alloc (Nat.le_refl _) _).grown hg6 (by simp) (fun k e => by simp [Value.ownBlock] at e; omega)); have hcell1' := (hb2.cell (p := ⟨bl, ol + k * 3 + 1, none⟩) hbl).trans hcell1; have Hown6 := Lib.hid hown6; have Hb2 := Lib.hid hb2; clear hown6 hg6 hat6 hb2))
        have hv6 := Hown6.out.lt
        have hx6 : BytesAt w2 (fun g => wr.heap.size ≤ g ∧ g < w2.heap.size) (.slice A6 lc.length c6) lc := Owns.slice RByte.kept (owns_bytes (S := fun _ => False) Hown6.out) (fun _ g => g.elim) hv6
        refine (append_any (Hd0.out.below Hb2.out) (by omega) hx6 (fun g h => h.2) hl00 (by omega)).mono ?_
        rintro e w3 ⟨rfl, F3, d3, f3, t3⟩
        have hz3 := t3.size
        have o3 : w3.ownsRow w.heap.size 30 1 (.slice Am recs.length cm) recs.length css.flatten := own_touch (own_below Hown0.out Hb2.out) t3 Hn0.out
        have b3 : Below w.heap.size wr w3 := (Hb2.out.mono hz0).trans (t3.below (fun g h => (Hfl.out g h).1) (by omega))
        have r3 : RowsOf RText 1 w3 (fun g => g < w.heap.size) css recs := RowsOf.keep RText.kept Hrow.out (fun g h => b3.block g h) (fun _ g => g)
        have x3 : BytesAt w3 (fun g => g < w.heap.size) vb bx := SliceOf.below RByte.kept Hvb.out b3 (fun _ g => g) (fun _ g => g)
        have hcell1'' : w3.cell? ⟨bl, ol + k * 3 + 1, none⟩ = some vb := (b3.cell (p := ⟨bl, ol + k * 3 + 1, none⟩) hbl0).trans hcell1
        have n3 : ∀ g, Value.ownBlock (.slice Am recs.length cm) = some g → ¬ F3 g := fun g e h => by
          have := Hov.out g e
          rcases f3 g h with h2 | h2
          · exact Hn0.out g e h2
          · omega
        have own63 : w3.ownsRow wr.heap.size 5 1 (.slice A6 lc.length c6) lc.length (lc.map byteV) := own_touch Hown6.out t3 (fun g e h => by have := hv6 g e; have := Hfl.out g h; omega)
        have nv6 : ∀ g, Value.ownBlock (.slice A6 lc.length c6) = some g → ¬ F3 g := fun g e h => by
          have := hv6 g e
          rcases f3 g h with h2 | h2
          · have := Hfl.out g h2; omega
          · omega
        have D3 := Lib.hid d3
        have O3 := Lib.hid o3
        have B3 := Lib.hid b3
        have R3 := Lib.hid r3
        have X3 := Lib.hid x3
        have N3 := Lib.hid n3
        have Own63 := Lib.hid own63
        have Nv6 := Lib.hid nv6
        have Hv6 := Lib.hid hv6
        clear d3 f3 t3 o3 b3 r3 x3 n3 own63 nv6 hx6 hv6 hcell1 hcell1' Hcv
        go_wp2_with (first
          | (go_at_call 11; refine (cut_any vb bx 20 _ w3 X3.out (by omega) (by omega)).mono ?_; rintro e w' ⟨cv, lc', rfl, hlc, hcv, rfl⟩; obtain rfl : lc = lc' := Hlc.out.trans hlc.symm; obtain ⟨A1', c1', rfl⟩ := slice_shape hcv; have Hcv := Lib.hid hcv; clear hcv hlc)
          | (at_builtin; refine wpList_append_src rfl (.tmp 45) (.tmp 52) 26 rfl w.heap.size 30 (.slice none 0 0) 1 24 Try.underlying26 row_info rfl (by omega) (.slice Am recs.length cm) recs.length css.flatten rfl (O3.out.alloc _) (some ⟨w3.heap.size, 0, none⟩) 1 1 [.slice A1' lc.length c1'] rfl rfl (one_new w3 _ _) (by intro u hu; simp at hu; subst hu; rfl) (by omega) (by omega) (by simp; omega) ?_; intro v7 w4 hown7 hg7 hat7; obtain ⟨A7, c7, rfl⟩ := own_shape hown7))
        have hz4 : w3.heap.size + 1 ≤ w4.heap.size := by have := hg7.size; simpa using this
        obtain ⟨a1, a2, a3, a4⟩ := row_more (mv := .slice Am recs.length cm) D3.out R3.out (fun g h => h) (by omega) (fun g e => ⟨(Hov.out g e).1, by have := Hov.out g e; omega⟩) N3.out Hcv.out hown7 hg7 hat7
        have hne : ∀ g, Value.ownBlock (.slice A7 (recs.length + 1) c7) = some g → ¬ Value.ownBlock (.slice A6 lc.length c6) = some g := fun g e h => by
          have := Hv6.out g h
          rcases hat7 with e2 | e2
          · have := Hov.out g (e2 ▸ e); omega
          · rw [e2] at e; simp at e; omega
        have own64 : w4.ownsRow wr.heap.size 5 1 (.slice A6 lc.length c6) lc.length (lc.map byteV) := by
          have ht : Touch (fun g => Value.ownBlock (.slice Am recs.length cm) = some g) w3 w4 := (Touch.alloc _ w3 _).trans (Touch.grown hg7 (fun g _ e => e)) (fun _ _ h => h)
          exact own_touch Own63.out ht (fun g e h => by have := Hv6.out g e; have := Hov.out g h; omega)
        have b4 : Below w.heap.size wr w4 := B3.out.trans a4
        have sc4 := ScrapOne.of_own own64 (S := fun g => Value.ownBlock (.slice A6 lc.length c6) = some g) (fun _ g => g)
        have A1 := Lib.hid a1
        have A2 := Lib.hid a2
        have A3 := Lib.hid a3
        have B4 := Lib.hid b4
        have Sc4 := Lib.hid sc4
        have Hne := Lib.hid hne
        clear a1 a2 a3 a4 b4 sc4 hne hown7 hg7 hat7 own64 D3 O3 B3 R3 X3 N3 Own63 Hcv Hd0 Hrow Hown0 Hvb Hb2 Hown6
        obtain ⟨wo, rfl⟩ : ∃ wo : World, wo = wr := ⟨_, rfl⟩
        go_wp2_with fail
        go_loopw [7] (fun i wr => ∃ q : Nat, q ≤ lc.length ∧ i = .int .i64 q ∧ Touch (fun g => Value.ownBlock (.slice A6 lc.length c6) = some g) w4 wr ∧ ScrapOne wr (fun g => Value.ownBlock (.slice A6 lc.length c6) = some g) (.slice A6 lc.length c6) lc.length) (fun i _ => lc.length - (intOf i).toNat)
        case atStart => exact ⟨0, Nat.zero_le _, rfl, Touch.refl _ _, Sc4.out⟩
        case round =>
          obtain ⟨q, hq, rfl, tq, sq⟩ := hrel
          by_cases hql : q < lc.length
          · have Tq := Lib.hid tq
            have Sq := Lib.hid sq
            obtain ⟨A', c', hv, hcells⟩ := sq
            injection hv with ea eb ec
            subst ea ec
            obtain ⟨b1, o1, rfl, hS1, hcl1⟩ := hcells (by omega)
            obtain ⟨y, y0, y1, hy, hfy⟩ := hcl1 q hql
            obtain ⟨z0, z1⟩ := wrap_u8 y
            have hst := Lib.hid (ScrapOne.store Sq.out ⟨b1, o1 + q, none⟩ z0 z1)
            have htq := Lib.hid (Tq.out.trans (Touch.setCell (T := fun g => Value.ownBlock (.slice (some ⟨b1, o1, none⟩) lc.length c6) = some g) wr (p := ⟨b1, o1 + q, none⟩) (.int .u8 (IntKind.u8.wrap (y + 1))) (fun _ => rfl)) (fun _ _ g => g))
            clear hcells hcl1 z0 z1 hS1 eb tq
            go_wp2_with fail
            go_roundw
            case rel => exact ⟨q + 1, by omega, by go_num, htq.out, hst.out⟩
            case measure => simp [intOf]; omega
          · obtain ⟨wt, rfl⟩ : ∃ wt : World, wt = wr := ⟨_, rfl⟩
            have hzt : w.heap.size ≤ wt.heap.size := by have := tq.size; omega
            have hd := A1.out.touch tq (fun g h h' => Nv6.out g h' h)
            have hown := Owns.touch RText.kept A2.out tq Hne.out (fun g h => ⟨by omega, fun h' => by have := Hv6.out g h'; omega⟩) (fun _ g => g)
            have hbt := Hb0.out.trans (B4.out.trans (tq.below (fun g h => by have := Hv6.out g h; omega) (by omega)))
            have hnf := A3.out
            have hc20 := c20_snoc Hc20'.out hlc2
            have hlen : (recs ++ [lc]).length ≤ k + 1 + 5 := by rw [List.length_append]; simp; omega
            have hl0 : (recs ++ [lc]).length ≤ 1000000000 := by omega
            have hlr : (recs ++ [lc]).length = recs.length + 1 := by simp
            generalize recs ++ [lc] = recs' at *
            clear A1 A2 A3 B4 Sc4 Hne tq sq Hc20' Hb0 hlen' hlr
            have Hc20 := Lib.hid hc20
            have Hcl := Lib.hid (c20 hc20)
            have Hm := Lib.hid (row_slice hown (by omega))
            have hnF := Lib.hid (play_nF hd hown hnf hzt)
            have Hd := Lib.hid hd
            have Hown := Lib.hid hown
            have Hb := Lib.hid hbt
            clear hd hown hbt hnf hc20

            go_wp2_with fail
            refine (same_any (S := fun g => g < wt.heap.size) Hd.out Hm.out (fun _ g => g) hl0 Hcl.out).mono ?_
            rintro e wa ⟨rfl, ba⟩
            have hza := ba.size
            have Hd1 := Lib.hid (Hd.out.below ba)
            have Ho1 := Lib.hid (Owns.touch RText.kept Hown.out (Touch.of_below ba fun _ => False) (fun _ _ g => g) (fun k h => ⟨by omega, fun g => g⟩) (fun _ g => g))
            have Hb1 := Lib.hid (Hb.out.trans (ba.mono (by omega)))
            clear ba Hd Hown Hb Hm
            go_wp2_with fail
            refine (all_any Hd1.out hl0 Hcl.out).mono ?_
            rintro e wb ⟨v2, rfl, hc2⟩
            have bb := copies_below hc2
            have hzb := bb.size
            obtain ⟨S2, hs2⟩ := Scraps.of_copies hc2
            have Hd2 := Lib.hid (Hd1.out.below bb)
            have Ho2 := Lib.hid (Owns.touch RText.kept Ho1.out (Touch.of_below bb fun _ => False) (fun _ _ g => g) (fun k h => ⟨by omega, fun g => g⟩) (fun _ g => g))
            have Hb2 := Lib.hid (Hb1.out.trans (bb.mono (by omega)))
            obtain ⟨A2, c2, rfl⟩ := copies_shape hc2
            have Hs2 := Lib.hid hs2
            have hns : (recs'.map List.length).length = recs'.length := List.length_map _
            clear bb hc2 hs2 Hd1 Ho1 Hb1
            generalize hnsl : recs'.map List.length = ns at *
            have Hnsl := Lib.hid hnsl
            have Hns := Lib.hid hns
            clear hnsl hns
            go_wp2_with fail
            go_loopw [12, 13] (fun i _ wr2 => ∃ j : Nat, j ≤ recs'.length ∧ i = .int .i64 j ∧ Below wa.heap.size wb wr2 ∧ Scraps wr2 wa.heap.size S2 (.slice A2 recs'.length c2) ns) (fun i _ _ => recs'.length - (intOf i).toNat)
            case atStart => exact ⟨0, Nat.zero_le _, rfl, Below.refl _ _, Hs2.out⟩
            case round =>
              obtain ⟨j, hj, rfl, bj, sj⟩ := hrel
              by_cases hjl : j < recs'.length
              · obtain ⟨n, hn⟩ : ∃ n, ns[j]? = some n := ⟨ns[j]'(by rw [Hns.out]; exact hjl), List.getElem?_eq_getElem _⟩
                have hnl : n ≤ 20 := by
                  have := Hnsl.out
                  rw [← this, List.getElem?_map] at hn
                  obtain ⟨r, hr, rfl⟩ := Option.map_eq_some_iff.1 hn
                  exact Hc20.out r (List.mem_of_getElem? hr)
                have Bj := Lib.hid bj
                have Sj := Lib.hid sj
                have Hn' := Lib.hid hn
                clear bj sj hn
                go_wp2_with fail
                go_loopw [13] (fun i wr3 => ∃ q : Nat, q ≤ n ∧ i = .int .i64 q ∧ Below wa.heap.size wb wr3 ∧ Scraps wr3 wa.heap.size S2 (.slice A2 recs'.length c2) ns) (fun i _ => n - (intOf i).toNat)
                case atStart => exact ⟨0, Nat.zero_le _, rfl, Bj.out, Sj.out⟩
                case round =>
                  obtain ⟨q, hq, rfl, bq, sq⟩ := hrel
                  have Bq := Lib.hid bq
                  have Sq := Lib.hid sq
                  obtain ⟨hlo, A', c', hv, hcc⟩ := sq
                  injection hv with ea eb ec
                  subst ea ec
                  obtain ⟨b0, o0, rfl, hbS, hrow⟩ := hcc (by rw [Hns.out]; omega)
                  obtain ⟨x, hx, A3, c3, rfl, hsc⟩ := hrow j n Hn'.out
                  clear hrow hcc eb bq
                  by_cases hql : q < n
                  · obtain ⟨b1, o1, rfl, hS1, hcells⟩ := hsc (by omega)
                    obtain ⟨y, y0, y1, hy, hfy⟩ := hcells q hql
                    obtain ⟨z0, z1⟩ := wrap_u8 y
                    have hst := Lib.hid (Scraps.store Sq.out (p := ⟨b1, o1 + q, none⟩) hS1 z0 z1)
                    have hbst := Lib.hid (Bq.out.setCell (p := ⟨b1, o1 + q, none⟩) (hlo b1 hS1) (.int .u8 (IntKind.u8.wrap (y + 1))))
                    clear hcells hsc z0 z1 hlo hbS
                    go_wp2_with fail
                    go_roundw
                    case rel => exact ⟨q + 1, by omega, by go_num, hbst.out, hst.out⟩
                    case measure => simp [intOf]; omega
                  · clear hsc hlo hbS
                    go_wp2_with fail
                    go_roundw
                    case rel => exact ⟨j + 1, by omega, by go_num, Bq.out, Sq.out⟩
                    case measure => simp [intOf]; omega
              · have hend := Lib.hid (play_end (k := k) Hd2.out Ho2.out (hnF.out wa (by omega)) Hb2.out bj hlen Hc20.out)
                clear bj sj
                go_wp2_with fail
                go_roundw
                case rel => exact ⟨k + 1, by omega, by omega, by go_num, hend.out⟩
                case measure => simp [intOf]; omega
      · by_cases h2 : kd = 2
        · subst h2
          obtain ⟨wo, rfl⟩ : ∃ wo : World, wo = wr := ⟨_, rfl⟩
          clear hvb hcell1
          have Hvl := Lib.hid hvl
          have Ho0 := Lib.hid ho
          have Hd0 := Lib.hid hd
          have Hb0 := Lib.hid hb
          have Hn0 := Lib.hid hnF'
          have hbl : bl < wo.heap.size := by omega
          obtain ⟨Al, cl, rfl⟩ := slice_shape hvl
          have hlm : lx.length ≤ 9223372036854775807 := by obtain ⟨_, _, hv, h1, h2, _⟩ := hvl; unfold maxLen at h2; omega
          clear hvl hd ho hb hnF' hc20' hlen'
          go_wp2_with fail
          go_loopw [8, 9] (fun xv i wr => ∃ q : Nat, q ≤ lx.length ∧ q ≤ 5 ∧ i = .int .i64 q ∧ Owns RText 1 30 wr wo.heap.size (fun g => g < w.heap.size) xv ((lx.take q).map (·.take 20)) ∧ Below wo.heap.size wo wr) (fun _ i _ => 5 - (intOf i).toNat)
          case atStart => exact ⟨0, Nat.zero_le _, by omega, rfl, Owns.nil RText 1 _ _ _ _, Below.refl _ _⟩
          case round =>
            obtain ⟨q, hq, hq5, rfl, ox, bx'⟩ := hrel
            have hzx := bx'.size
            have hcell2' : wr.cell? ⟨bl, ol + k * 3 + 2, none⟩ = some (.slice Al lx.length cl) := (bx'.cell (p := ⟨bl, ol + k * 3 + 2, none⟩) hbl).trans hcell2
            have hlq : ((lx.take q).map (·.take 20)).length = q := by rw [List.length_map, List.length_take]; omega
            by_cases hql : q < lx.length ∧ q < 5
            · obtain ⟨hql, hql5⟩ := hql
              obtain ⟨r, hr⟩ : ∃ r, lx[q]? = some r := ⟨lx[q], List.getElem?_eq_getElem hql⟩
              obtain ⟨b2, o2, rfl, hb2S, cs2, ⟨x2, rfl, hx2⟩, _, hcc2⟩ := (SliceOf.below RText.kept Hvl.out bx' (fun g h => Nat.lt_of_lt_of_le h hz0) (fun _ g => g)).at hr
              have hcx : wr.cell? ⟨b2, o2 + q, none⟩ = some x2 := by simpa using hcc2 0 _ rfl
              obtain ⟨css, hrow, hown⟩ := ox
              rw [hlq] at hown
              have hov := hown.lt
              obtain ⟨Ax, cx, rfl⟩ := own_shape hown
              have Hx2 := Lib.hid hx2
              have Hrow := Lib.hid hrow
              have Hown := Lib.hid hown
              have Hbx := Lib.hid bx'
              have Hlq := Lib.hid hlq
              have Hr := Lib.hid hr
              have Hov := Lib.hid hov
              clear hx2 hrow hown bx' hlq hr hov hcc2 hb2S
              go_wp2_with (first
                | (go_at_call 11; refine (cut_any x2 r 20 _ wr Hx2.out (by omega) (by omega)).mono ?_; rintro e w' ⟨cv, lc, rfl, hlc, hcv, rfl⟩; obtain ⟨A1, c1, rfl⟩ := slice_shape hcv; have Hlc := Lib.hid hlc; have Hcv := Lib.hid hcv; clear hcv hlc)
                | (at_builtin; refine wpList_append_src rfl (.tmp 82) (.tmp 92) 26 rfl wo.heap.size 30 (.slice none 0 0) 1 24 Try.underlying26 row_info rfl (by omega) (.slice Ax q cx) q css.flatten rfl (Hown.out.alloc _) (some ⟨wr.heap.size, 0, none⟩) 1 1 [.slice A1 lc.length c1] rfl rfl (one_new wr _ _) (by intro u hu; simp at hu; subst hu; rfl) (by omega) (by omega) (by simp; omega) ?_; intro v7 w4 hown7 hg7 hat7))
              have hfin : Hid (Owns RText 1 30 w4 wo.heap.size (fun g => g < w.heap.size) v7 ((lx.take (q + 1)).map (·.take 20)) ∧ Below wo.heap.size wo w4) := by
                have ht : Touch (fun g => Value.ownBlock (.slice Ax q cx) = some g) wr w4 := (Touch.alloc _ wr _).trans (Touch.grown hg7 (fun g _ e => e)) (fun _ _ h => h)
                have hk : ∀ g, g < w.heap.size → w4.heap[g]? = wr.heap[g]? := fun g h => ht.block g (by omega) (fun e => by have := Hov.out g e; omega)
                refine ⟨?_, Hbx.out.trans (ht.below (fun g e => (Hov.out g e).1) hzx)⟩
                rw [cut_succ Hr.out, show r.take 20 = lc from Hlc.out.symm]
                exact owns_snoc RText.kept Hrow.out hk (fun _ g => g) rfl ⟨_, rfl, SliceOf.keep RByte.kept Hcv.out hk (fun _ g => g)⟩ (by rw [Hlq.out]; exact hown7)
              clear hown7 hg7 hat7
              go_wp2_with fail
              go_roundw
              case rel => exact ⟨q + 1, by omega, by omega, by go_num, hfin.out.1, hfin.out.2⟩
              case measure => simp [intOf]; omega
            · have hor : ¬ q < lx.length ∨ (q < lx.length ∧ ¬ q < 5) := by omega
              have hcl := cut_length (lx.take q)
              have hc20 : ∀ r ∈ (lx.take q).map (·.take 20), r.length ≤ 20 := cut_20 (lx.take q)
              generalize hrs : (lx.take q).map (·.take 20) = recs' at *
              obtain ⟨css, hrow, hown0⟩ := ox
              obtain ⟨Ax, cx, rfl⟩ := own_shape hown0
              have hov := hown0.lt
              have sx : SliceOf RText 1 wr (fun g => g < wr.heap.size) (.slice Ax recs'.length cx) recs' := Owns.slice RText.kept (⟨css, hrow, hown0⟩ : Owns RText 1 30 wr wo.heap.size _ _ _) (fun g h => by omega) (fun g e => (hov g e).2)
              have hl0' : recs'.length ≤ 5 := by omega
              have Sx := Lib.hid sx
              have Dx := Lib.hid (Hd0.out.below bx')
              have Bx := Lib.hid bx'
              have Hrow := Lib.hid hrow
              have Hown0 := Lib.hid hown0
              have Hov := Lib.hid hov
              have Hcl := Lib.hid hcl
              have Hc20'' := Lib.hid hc20
              clear sx bx' hrow hown0 hov hcl hc20 hrs hlq hql
              rcases hor with h | ⟨h, h'⟩
              all_goals
                go_wp2_with fail
                refine (replace_any Dx.out (by omega) Sx.out (fun _ g => g) (by omega) Hcl.out).mono ?_
                rintro e w3 ⟨rfl, F3, d3, f3, t3⟩
                have hz3 := t3.size
                have hfl := Hd0.out.lt
                have o3 : w3.ownsRow wo.heap.size 30 1 (.slice Ax recs'.length cx) recs'.length css.flatten := own_touch Hown0.out t3 (fun g e h => by have := Hov.out g e; have := hfl g h; omega)
                have r3 : RowsOf RText 1 w3 (fun g => g < w.heap.size) css recs' := RowsOf.keep RText.kept Hrow.out (fun g h => t3.block g (by omega) (fun h' => by have := hfl g h'; omega)) (fun _ g => g)
                have b3 : Below w.heap.size w w3 := Hb0.out.trans ((Bx.out.mono hz0).trans (t3.below (fun g h => (hfl g h).1) (by omega)))
                have D3 := Lib.hid d3
                have O3 := Lib.hid o3
                have R3 := Lib.hid r3
                have B3 := Lib.hid b3
                clear d3 f3 t3 hfl o3 r3 b3 Sx Dx Bx Hrow Hown0 Hov
                go_wp2_with (at_builtin; refine wpList_append_src rfl (.tmp 97) (.tmp 98) 26 rfl w3.heap.size 30 (.slice none 0 0) 1 24 Try.underlying26 row_info rfl (by omega) (.slice (some ⟨w3.heap.size, 0, none⟩) 0 0) 0 [] rfl (World.ownsRow_lit w3 #[] 0 (Nat.le_refl _) (by unfold maxLen; omega) rfl) Ax recs'.length cx css.flatten rfl (texts_len R3.out) (own_src (O3.out.alloc _)) (texts_one R3.out) (by omega) (by omega) (by simp) ?_; intro v6 wt hown6 hg6 hat6; simp only [Nat.zero_add, List.nil_append] at hown6; obtain ⟨A6, c6, rfl⟩ := own_shape hown6; have hz6 : w3.heap.size + 1 ≤ wt.heap.size := (by have := hg6.size; simpa using this); have Hown6 := Lib.hid hown6; have Hg6 := Lib.hid hg6; clear hown6 hg6 hat6)
                have g6 : Below w3.heap.size w3 wt := (((Below.refl w3.heap.size w3).alloc (Nat.le_refl _) _).grown Hg6.out (by simp) (fun k e => by simp [Value.ownBlock] at e; omega))
                have hzt : w.heap.size ≤ wt.heap.size := by omega
                have hd := D3.out.below g6
                have hF3 := D3.out.lt
                have hown : Owns RText 1 30 wt w.heap.size (fun g => g < w.heap.size) (.slice A6 recs'.length c6) recs' := ⟨css, RowsOf.keep RText.kept R3.out (fun g h => g6.block g (by omega)) (fun _ g => g), own_rebase Hown6.out (by omega)⟩
                have hnf : ∀ g, Value.ownBlock (.slice A6 recs'.length c6) = some g → ¬ F3 g := fun g e h => by have := Hown6.out.lt g e; have := hF3 g h; omega
                have hbt : Below w.heap.size w wt := B3.out.trans (g6.mono (by omega))
                have hc20 := Hc20''.out
                have hlen : recs'.length ≤ k + 1 + 5 := by omega
                have hl0 : recs'.length ≤ 1000000000 := by omega
                clear g6 hF3 D3 O3 R3 B3 Hown6 Hg6 Hc20'' Ho0 Hd0 Hb0 Hn0
                have Hc20 := Lib.hid hc20
                have Hcl := Lib.hid (c20 hc20)
                have Hm := Lib.hid (row_slice hown (by omega))
                have hnF := Lib.hid (play_nF hd hown hnf hzt)
                have Hd := Lib.hid hd
                have Hown := Lib.hid hown
                have Hb := Lib.hid hbt
                clear hd hown hbt hnf hc20

                go_wp2_with fail
                refine (same_any (S := fun g => g < wt.heap.size) Hd.out Hm.out (fun _ g => g) hl0 Hcl.out).mono ?_
                rintro e wa ⟨rfl, ba⟩
                have hza := ba.size
                have Hd1 := Lib.hid (Hd.out.below ba)
                have Ho1 := Lib.hid (Owns.touch RText.kept Hown.out (Touch.of_below ba fun _ => False) (fun _ _ g => g) (fun k h => ⟨by omega, fun g => g⟩) (fun _ g => g))
                have Hb1 := Lib.hid (Hb.out.trans (ba.mono (by omega)))
                clear ba Hd Hown Hb Hm
                go_wp2_with fail
                refine (all_any Hd1.out hl0 Hcl.out).mono ?_
                rintro e wb ⟨v2, rfl, hc2⟩
                have bb := copies_below hc2
                have hzb := bb.size
                obtain ⟨S2, hs2⟩ := Scraps.of_copies hc2
                have Hd2 := Lib.hid (Hd1.out.below bb)
                have Ho2 := Lib.hid (Owns.touch RText.kept Ho1.out (Touch.of_below bb fun _ => False) (fun _ _ g => g) (fun k h => ⟨by omega, fun g => g⟩) (fun _ g => g))
                have Hb2 := Lib.hid (Hb1.out.trans (bb.mono (by omega)))
                obtain ⟨A2, c2, rfl⟩ := copies_shape hc2
                have Hs2 := Lib.hid hs2
                have hns : (recs'.map List.length).length = recs'.length := List.length_map _
                clear bb hc2 hs2 Hd1 Ho1 Hb1
                generalize hnsl : recs'.map List.length = ns at *
                have Hnsl := Lib.hid hnsl
                have Hns := Lib.hid hns
                clear hnsl hns
                go_wp2_with fail
                go_loopw [12, 13] (fun i _ wr2 => ∃ j : Nat, j ≤ recs'.length ∧ i = .int .i64 j ∧ Below wa.heap.size wb wr2 ∧ Scraps wr2 wa.heap.size S2 (.slice A2 recs'.length c2) ns) (fun i _ _ => recs'.length - (intOf i).toNat)
                case atStart => exact ⟨0, Nat.zero_le _, rfl, Below.refl _ _, Hs2.out⟩
                case round =>
                  obtain ⟨j, hj, rfl, bj, sj⟩ := hrel
                  by_cases hjl : j < recs'.length
                  · obtain ⟨n, hn⟩ : ∃ n, ns[j]? = some n := ⟨ns[j]'(by rw [Hns.out]; exact hjl), List.getElem?_eq_getElem _⟩
                    have hnl : n ≤ 20 := by
                      have := Hnsl.out
                      rw [← this, List.getElem?_map] at hn
                      obtain ⟨r, hr, rfl⟩ := Option.map_eq_some_iff.1 hn
                      exact Hc20.out r (List.mem_of_getElem? hr)
                    have Bj := Lib.hid bj
                    have Sj := Lib.hid sj
                    have Hn' := Lib.hid hn
                    clear bj sj hn
                    go_wp2_with fail
                    go_loopw [13] (fun i wr3 => ∃ q : Nat, q ≤ n ∧ i = .int .i64 q ∧ Below wa.heap.size wb wr3 ∧ Scraps wr3 wa.heap.size S2 (.slice A2 recs'.length c2) ns) (fun i _ => n - (intOf i).toNat)
                    case atStart => exact ⟨0, Nat.zero_le _, rfl, Bj.out, Sj.out⟩
                    case round =>
                      obtain ⟨q, hq, rfl, bq, sq⟩ := hrel
                      have Bq := Lib.hid bq
                      have Sq := Lib.hid sq
                      obtain ⟨hlo, A', c', hv, hcc⟩ := sq
                      injection hv with ea eb ec
                      subst ea ec
                      obtain ⟨b0, o0, rfl, hbS, hrow⟩ := hcc (by rw [Hns.out]; omega)
                      obtain ⟨x, hx, A3, c3, rfl, hsc⟩ := hrow j n Hn'.out
                      clear hrow hcc eb bq
                      by_cases hql : q < n
                      · obtain ⟨b1, o1, rfl, hS1, hcells⟩ := hsc (by omega)
                        obtain ⟨y, y0, y1, hy, hfy⟩ := hcells q hql
                        obtain ⟨z0, z1⟩ := wrap_u8 y
                        have hst := Lib.hid (Scraps.store Sq.out (p := ⟨b1, o1 + q, none⟩) hS1 z0 z1)
                        have hbst := Lib.hid (Bq.out.setCell (p := ⟨b1, o1 + q, none⟩) (hlo b1 hS1) (.int .u8 (IntKind.u8.wrap (y + 1))))
                        clear hcells hsc z0 z1 hlo hbS
                        go_wp2_with fail
                        go_roundw
                        case rel => exact ⟨q + 1, by omega, by go_num, hbst.out, hst.out⟩
                        case measure => simp [intOf]; omega
                      · clear hsc hlo hbS
                        go_wp2_with fail
                        go_roundw
                        case rel => exact ⟨j + 1, by omega, by go_num, Bq.out, Sq.out⟩
                        case measure => simp [intOf]; omega
                  · have hend := Lib.hid (play_end (k := k) Hd2.out Ho2.out (hnF.out wa (by omega)) Hb2.out bj hlen Hc20.out)
                    clear bj sj
                    go_wp2_with fail
                    go_roundw
                    case rel => exact ⟨k + 1, by omega, by omega, by go_num, hend.out⟩
                    case measure => simp [intOf]; omega
        · by_cases h3 : kd = 3
          · subst h3
            clear hvb hvl hcell1 hcell2
            have Ho0 := Lib.hid ho
            have Hd0 := Lib.hid hd
            have Hb0 := Lib.hid hb
            have Hn0 := Lib.hid hnF'
            have Hc20' := Lib.hid hc20'
            have hl00 : recs.length ≤ 1000000000 := by omega
            clear hd ho hb hnF' hc20'
            go_wp2_with fail
            refine (copy_any Hd0.out hl00 (c20 Hc20'.out)).mono ?_
            rintro e w1 ⟨D2, F2, rfl, d2, b1⟩
            have hz1 := b1.size
            have B1 := Lib.hid b1
            have D2a := Lib.hid d2
            have D1 := Lib.hid ((Hd0.out.below b1).alloc (.cells #[.int .u8 103, .int .u8 111, .int .u8 110, .int .u8 101] 5 (4, 5)))
            have L1 := Lib.hid (bytes_lit w1 #[.int .u8 103, .int .u8 111, .int .u8 110, .int .u8 101] [103, 111, 110, 101] (4, 5) rfl (by simp))
            clear b1 d2
            go_wp2_with fail
            refine (append_any D1.out (by simp; omega) L1.out (by rintro g rfl; simp) hl00 (by simp)).mono ?_
            rintro e wt ⟨rfl, hdt⟩
            obtain ⟨F3, d3, f3, t3⟩ := hdt
            have hF := Hd0.out.lt
            have hF2 := D2a.out.lt
            have t13 : Touch F w1 wt := (Touch.alloc F w1 _).trans t3 (fun _ _ g => g)
            have hzt : w.heap.size ≤ wt.heap.size := by have := t13.size; omega
            have hd := (D2a.out.touch t13 (fun g h h' => by have := hF g h'; have := hF2 g h; omega)).rebase (base' := w.heap.size) (by omega)
            have hown : Owns RText 1 30 wt w.heap.size (fun g => g < w.heap.size) (.slice Am recs.length cm) recs := Owns.touch RText.kept (Owns.touch RText.kept Ho0.out (Touch.of_below B1.out fun _ => False) (fun _ _ g => g) (fun g h => ⟨by omega, fun g => g⟩) (fun _ g => g)) t13 Hn0.out (fun g h => ⟨by omega, fun h' => by have := hF g h'; omega⟩) (fun _ g => g)
            have hbt : Below w.heap.size w wt := Hb0.out.trans ((B1.out.mono hz0).trans (t13.below (fun g h => (hF g h).1) (by omega)))
            have hnf : ∀ g, Value.ownBlock (.slice Am recs.length cm) = some g → ¬ F2 g := fun g e h => by have := Ho0.out.lt g e; have := hF2 g h; omega
            have hc20 := Hc20'.out
            have hlen : recs.length ≤ k + 1 + 5 := by omega
            have hl0 : recs.length ≤ 1000000000 := by omega
            clear d3 f3 t3 t13 hF hF2 B1 D2a D1 L1 Ho0 Hd0 Hb0 Hn0 Hc20'

            have Hc20 := Lib.hid hc20
            have Hcl := Lib.hid (c20 hc20)
            have Hm := Lib.hid (row_slice hown (by omega))
            have hnF := Lib.hid (play_nF hd hown hnf hzt)
            have Hd := Lib.hid hd
            have Hown := Lib.hid hown
            have Hb := Lib.hid hbt
            clear hd hown hbt hnf hc20

            go_wp2_with fail
            refine (same_any (S := fun g => g < wt.heap.size) Hd.out Hm.out (fun _ g => g) hl0 Hcl.out).mono ?_
            rintro e wa ⟨rfl, ba⟩
            have hza := ba.size
            have Hd1 := Lib.hid (Hd.out.below ba)
            have Ho1 := Lib.hid (Owns.touch RText.kept Hown.out (Touch.of_below ba fun _ => False) (fun _ _ g => g) (fun k h => ⟨by omega, fun g => g⟩) (fun _ g => g))
            have Hb1 := Lib.hid (Hb.out.trans (ba.mono (by omega)))
            clear ba Hd Hown Hb Hm
            go_wp2_with fail
            refine (all_any Hd1.out hl0 Hcl.out).mono ?_
            rintro e wb ⟨v2, rfl, hc2⟩
            have bb := copies_below hc2
            have hzb := bb.size
            obtain ⟨S2, hs2⟩ := Scraps.of_copies hc2
            have Hd2 := Lib.hid (Hd1.out.below bb)
            have Ho2 := Lib.hid (Owns.touch RText.kept Ho1.out (Touch.of_below bb fun _ => False) (fun _ _ g => g) (fun k h => ⟨by omega, fun g => g⟩) (fun _ g => g))
            have Hb2 := Lib.hid (Hb1.out.trans (bb.mono (by omega)))
            obtain ⟨A2, c2, rfl⟩ := copies_shape hc2
            have Hs2 := Lib.hid hs2
            have hns : (recs.map List.length).length = recs.length := List.length_map _
            clear bb hc2 hs2 Hd1 Ho1 Hb1
            generalize hnsl : recs.map List.length = ns at *
            have Hnsl := Lib.hid hnsl
            have Hns := Lib.hid hns
            clear hnsl hns
            go_wp2_with fail
            go_loopw [12, 13] (fun i _ wr2 => ∃ j : Nat, j ≤ recs.length ∧ i = .int .i64 j ∧ Below wa.heap.size wb wr2 ∧ Scraps wr2 wa.heap.size S2 (.slice A2 recs.length c2) ns) (fun i _ _ => recs.length - (intOf i).toNat)
            case atStart => exact ⟨0, Nat.zero_le _, rfl, Below.refl _ _, Hs2.out⟩
            case round =>
              obtain ⟨j, hj, rfl, bj, sj⟩ := hrel
              by_cases hjl : j < recs.length
              · obtain ⟨n, hn⟩ : ∃ n, ns[j]? = some n := ⟨ns[j]'(by rw [Hns.out]; exact hjl), List.getElem?_eq_getElem _⟩
                have hnl : n ≤ 20 := by
                  have := Hnsl.out
                  rw [← this, List.getElem?_map] at hn
                  obtain ⟨r, hr, rfl⟩ := Option.map_eq_some_iff.1 hn
                  exact Hc20.out r (List.mem_of_getElem? hr)
                have Bj := Lib.hid bj
                have Sj := Lib.hid sj
                have Hn' := Lib.hid hn
                clear bj sj hn
                go_wp2_with fail
                go_loopw [13] (fun i wr3 => ∃ q : Nat, q ≤ n ∧ i = .int .i64 q ∧ Below wa.heap.size wb wr3 ∧ Scraps wr3 wa.heap.size S2 (.slice A2 recs.length c2) ns) (fun i _ => n - (intOf i).toNat)
                case atStart => exact ⟨0, Nat.zero_le _, rfl, Bj.out, Sj.out⟩
                case round =>
                  obtain ⟨q, hq, rfl, bq, sq⟩ := hrel
                  have Bq := Lib.hid bq
                  have Sq := Lib.hid sq
                  obtain ⟨hlo, A', c', hv, hcc⟩ := sq
                  injection hv with ea eb ec
                  subst ea ec
                  obtain ⟨b0, o0, rfl, hbS, hrow⟩ := hcc (by rw [Hns.out]; omega)
                  obtain ⟨x, hx, A3, c3, rfl, hsc⟩ := hrow j n Hn'.out
                  clear hrow hcc eb bq
                  by_cases hql : q < n
                  · obtain ⟨b1, o1, rfl, hS1, hcells⟩ := hsc (by omega)
                    obtain ⟨y, y0, y1, hy, hfy⟩ := hcells q hql
                    obtain ⟨z0, z1⟩ := wrap_u8 y
                    have hst := Lib.hid (Scraps.store Sq.out (p := ⟨b1, o1 + q, none⟩) hS1 z0 z1)
                    have hbst := Lib.hid (Bq.out.setCell (p := ⟨b1, o1 + q, none⟩) (hlo b1 hS1) (.int .u8 (IntKind.u8.wrap (y + 1))))
                    clear hcells hsc z0 z1 hlo hbS
                    go_wp2_with fail
                    go_roundw
                    case rel => exact ⟨q + 1, by omega, by go_num, hbst.out, hst.out⟩
                    case measure => simp [intOf]; omega
                  · clear hsc hlo hbS
                    go_wp2_with fail
                    go_roundw
                    case rel => exact ⟨j + 1, by omega, by go_num, Bq.out, Sq.out⟩
                    case measure => simp [intOf]; omega
              · have hend := Lib.hid (play_end (k := k) Hd2.out Ho2.out (hnF.out wa (by omega)) Hb2.out bj hlen Hc20.out)
                clear bj sj
                go_wp2_with fail
                go_roundw
                case rel => exact ⟨k + 1, by omega, by omega, by go_num, hend.out⟩
                case measure => simp [intOf]; omega
          · have e1 : (kd == 1) = false := by rw [beq_eq_false_iff_ne]; exact h1
            have e2 : (kd == 2) = false := by rw [beq_eq_false_iff_ne]; exact h2
            have e3 : (kd == 3) = false := by rw [beq_eq_false_iff_ne]; exact h3
            clear h1 h2 h3 hvb hvl
            have hlen : recs.length ≤ k + 1 + 5 := by omega
            have hl0 : recs.length ≤ 1000000000 := by omega
            obtain ⟨wt, rfl⟩ : ∃ wt : World, wt = wr := ⟨_, rfl⟩
            have hzt := hz0
            have hd := hd; have hown := ho; have hbt := hb; have hnf := hnF'; have hc20 := hc20'
            have Hc20 := Lib.hid hc20
            have Hcl := Lib.hid (c20 hc20)
            have Hm := Lib.hid (row_slice hown (by omega))
            have hnF := Lib.hid (play_nF hd hown hnf hzt)
            have Hd := Lib.hid hd
            have Hown := Lib.hid hown
            have Hb := Lib.hid hbt
            clear hd hown hbt hnf hc20
            go_wp2_with fail
            refine (same_any (S := fun g => g < wt.heap.size) Hd.out Hm.out (fun _ g => g) hl0 Hcl.out).mono ?_
            rintro e wa ⟨rfl, ba⟩
            have hza := ba.size
            have Hd1 := Lib.hid (Hd.out.below ba)
            have Ho1 := Lib.hid (Owns.touch RText.kept Hown.out (Touch.of_below ba fun _ => False) (fun _ _ g => g) (fun k h => ⟨by omega, fun g => g⟩) (fun _ g => g))
            have Hb1 := Lib.hid (Hb.out.trans (ba.mono (by omega)))
            clear ba Hd Hown Hb Hm
            go_wp2_with fail
            refine (all_any Hd1.out hl0 Hcl.out).mono ?_
            rintro e wb ⟨v2, rfl, hc2⟩
            have bb := copies_below hc2
            have hzb := bb.size
            obtain ⟨S2, hs2⟩ := Scraps.of_copies hc2
            have Hd2 := Lib.hid (Hd1.out.below bb)
            have Ho2 := Lib.hid (Owns.touch RText.kept Ho1.out (Touch.of_below bb fun _ => False) (fun _ _ g => g) (fun k h => ⟨by omega, fun g => g⟩) (fun _ g => g))
            have Hb2 := Lib.hid (Hb1.out.trans (bb.mono (by omega)))
            obtain ⟨A2, c2, rfl⟩ := copies_shape hc2
            have Hs2 := Lib.hid hs2
            have hns : (recs.map List.length).length = recs.length := List.length_map _
            clear bb hc2 hs2 Hd1 Ho1 Hb1
            generalize hnsl : recs.map List.length = ns at *
            have Hnsl := Lib.hid hnsl
            have Hns := Lib.hid hns
            clear hnsl hns
            go_wp2_with fail
            go_loopw [12, 13] (fun i _ wr2 => ∃ j : Nat, j ≤ recs.length ∧ i = .int .i64 j ∧ Below wa.heap.size wb wr2 ∧ Scraps wr2 wa.heap.size S2 (.slice A2 recs.length c2) ns) (fun i _ _ => recs.length - (intOf i).toNat)
            case atStart => exact ⟨0, Nat.zero_le _, rfl, Below.refl _ _, Hs2.out⟩
            case round =>
              obtain ⟨j, hj, rfl, bj, sj⟩ := hrel
              by_cases hjl : j < recs.length
              · obtain ⟨n, hn⟩ : ∃ n, ns[j]? = some n := ⟨ns[j]'(by rw [Hns.out]; exact hjl), List.getElem?_eq_getElem _⟩
                have hnl : n ≤ 20 := by
                  have := Hnsl.out
                  rw [← this, List.getElem?_map] at hn
                  obtain ⟨r, hr, rfl⟩ := Option.map_eq_some_iff.1 hn
                  exact Hc20.out r (List.mem_of_getElem? hr)
                have Bj := Lib.hid bj
                have Sj := Lib.hid sj
                have Hn' := Lib.hid hn
                clear bj sj hn
                go_wp2_with fail
                go_loopw [13] (fun i wr3 => ∃ q : Nat, q ≤ n ∧ i = .int .i64 q ∧ Below wa.heap.size wb wr3 ∧ Scraps wr3 wa.heap.size S2 (.slice A2 recs.length c2) ns) (fun i _ => n - (intOf i).toNat)
                case atStart => exact ⟨0, Nat.zero_le _, rfl, Bj.out, Sj.out⟩
                case round =>
                  obtain ⟨q, hq, rfl, bq, sq⟩ := hrel
                  have Bq := Lib.hid bq
                  have Sq := Lib.hid sq
                  obtain ⟨hlo, A', c', hv, hcc⟩ := sq
                  injection hv with ea eb ec
                  subst ea ec
                  obtain ⟨b0, o0, rfl, hbS, hrow⟩ := hcc (by rw [Hns.out]; omega)
                  obtain ⟨x, hx, A3, c3, rfl, hsc⟩ := hrow j n Hn'.out
                  clear hrow hcc eb bq
                  by_cases hql : q < n
                  · obtain ⟨b1, o1, rfl, hS1, hcells⟩ := hsc (by omega)
                    obtain ⟨y, y0, y1, hy, hfy⟩ := hcells q hql
                    obtain ⟨z0, z1⟩ := wrap_u8 y
                    have hst := Lib.hid (Scraps.store Sq.out (p := ⟨b1, o1 + q, none⟩) hS1 z0 z1)
                    have hbst := Lib.hid (Bq.out.setCell (p := ⟨b1, o1 + q, none⟩) (hlo b1 hS1) (.int .u8 (IntKind.u8.wrap (y + 1))))
                    clear hcells hsc z0 z1 hlo hbS
                    go_wp2_with fail
                    go_roundw
                    case rel => exact ⟨q + 1, by omega, by go_num, hbst.out, hst.out⟩
                    case measure => simp [intOf]; omega
                  · clear hsc hlo hbS
                    go_wp2_with fail
                    go_roundw
                    case rel => exact ⟨j + 1, by omega, by go_num, Bq.out, Sq.out⟩
                    case measure => simp [intOf]; omega
              · have hend := Lib.hid (play_end (k := k) Hd2.out Ho2.out (hnF.out wa (by omega)) Hb2.out bj hlen Hc20.out)
                clear bj sj
                go_wp2_with fail
                go_roundw
                case rel => exact ⟨k + 1, by omega, by omega, by go_num, hend.out⟩
                case measure => simp [intOf]; omega
    · have hor : ¬ k < l.length ∨ (k < l.length ∧ ¬ k < 40) := by omega
      have Hb0 := Lib.hid hb
      have hz0 := hb.size
      clear hd ho hnF' hb hc20' hlt
      rcases hor with h | ⟨h, h'⟩
      all_goals
        go_wp2_with fail
        refine (known_any wr).mono ?_
        rintro e w9 ⟨rfl, b9⟩
        have B9 := Lib.hid (Hb0.out.trans (b9.mono hz0))
        clear b9
        go_wp2_with fail
        go_ret
        exact ⟨rfl, B9.out⟩
end Go.Proofs.Ytnjipfnkbfhliaa
