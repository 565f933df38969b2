/- The contract of the statements' helper 'lists': the walk. -/
import Derived.Test.YtpnecbhbdfdijaaPickLists
namespace Go.Proofs.Ytpnecbhbdfdijaa
open Go.RowKit

theorem row_more {f : Int} {r : List VoteT} {k : Nat} {x : VoteT} (h : r[k]? = some x) : (r.take (k + 1)).mapIdx (voteAt f) = (r.take k).mapIdx (voteAt f) ++ [voteAt f k x] := by
  have hk := (List.getElem?_eq_some_iff.1 h).1
  rw [List.take_add_one, h, Option.toList_some, List.mapIdx_append]
  simp [List.length_take, Nat.min_eq_left (Nat.le_of_lt hk)]
theorem votes_more {f : Int} {d : List (List VoteT)} {i : Nat} {r : List VoteT} (h : d[i]? = some r) : (d.take (i + 1)).map (votesRow f) = (d.take i).map (votesRow f) ++ [votesRow f r] := by
  rw [List.take_add_one, h]; simp

theorem votes_info : (Try.prog.info? 25).map (fun i => (i.zero, i.size, i.bytes)) = some (some (.slice none 0 0), 1, 24) := by kernel_rfl
theorem lists_b (wr : World) (V L : Obj) : Below wr.heap.size wr ((wr.alloc V).alloc L).drew := (((Below.refl wr.heap.size wr).alloc (Nat.le_refl _) V).alloc (by simp) L).drew
theorem lists_src (wr : World) (V : Obj) (cs : List Value) (j : Nat) (u : Value) (h : cs[j]? = some u) : ((wr.alloc V).alloc (.cells cs.toArray 24)).drew.cell? ⟨wr.heap.size + 1, 0 + j, none⟩ = some u := by
  change ((wr.alloc V).alloc (.cells cs.toArray 24)).cell? ⟨wr.heap.size + 1, 0 + j, none⟩ = some u
  have := (Blk.new (wr.alloc V) 24 cs.toArray).cell (0 + j)
  rw [World.size_alloc] at this
  rw [this, Nat.zero_add]
  simpa using h
/-- A vote is put behind the row. -/
theorem lists_push {w wA wr w2 : World} {iv v2 : Value} {row : List VoteT} {css : List (List Value)} {V L : Obj} {x : VoteT} {A : Option Addr} {m c n : Nat} {z : Int} {b : Int} {l : List UInt8} (hz : w.heap.size ≤ wA.heap.size) (hrw : RowsOf RVote 3 wr (fun g => g < w.heap.size) css row) (hn : row.length = n)
    (hown : wr.ownsRow wA.heap.size 24 3 iv n css.flatten) (hbb : Below wA.heap.size wA wr) (hx : x = ⟨z, b, l⟩) (hv : BytesAt wr (fun g => g < w.heap.size) (.slice A m c) l)
    (hown2 : w2.ownsRow wA.heap.size 24 3 v2 (n + 1) (css.flatten ++ [.int .i64 z, .int .i64 b, .slice A m c])) (hg : ((wr.alloc V).alloc L).drew.grownBy w2 iv.ownBlock) :
    Owns RVote 3 24 w2 wA.heap.size (fun g => g < w.heap.size) v2 (row ++ [x]) ∧ Below wA.heap.size wA w2 := by
  subst hx
  have ht : Touch (fun k => iv.ownBlock = some k) wr w2 := (((Touch.alloc _ wr V).trans (Touch.alloc _ _ L) (fun _ _ h => h)).trans (Touch.drewN _ _ 1) (fun _ _ h => h)).trans (Touch.grown (a := ((wr.alloc V).alloc L).drew) hg (fun g _ e => e)) (fun _ _ h => h)
  have hlt := hown.lt
  have hbz := hbb.size
  have hk : ∀ g, g < w.heap.size → w2.heap[g]? = wr.heap[g]? := fun g hg => ht.block g (by omega) (fun e => by have := hlt g e; omega)
  refine ⟨owns_snoc RVote.kept hrw hk (fun _ h => h) rfl ⟨_, rfl, SliceOf.keep RByte.kept hv hk (fun _ h => h)⟩ (by rw [hn]; exact hown2), hbb.trans (ht.below (fun k e => (hlt k e).1) hbz)⟩

set_option maxRecDepth 100000 in
set_option maxHeartbeats 1000000 in
theorem lists_any (f : Int) (v : Value) (d : List (List VoteT)) (w : World) (hf : 0 ≤ f) (hf2 : f ≤ 1000000000) (h : SliceOf RDraws 1 w (fun k => k < w.heap.size) v d) : Calls Try.prog 12 #[.int .i64 f, v] w (ListsEnd w (votesOf f d)) := by
  have H := Lib.hid h
  obtain ⟨A, cap, rfl, hcap0, hc, hrd⟩ := h
  have hmax : d.length ≤ 9223372036854775807 := by unfold maxLen at hc; omega
  clear hc hcap0 hrd
  go_enter Try.func12, Try.ntmps12
  go_wp2_with fail
  go_loopw [5, 6] (fun ov i wr => ∃ i' : Nat, i' ≤ d.length ∧ i' ≤ 5 ∧ i = .int .i64 i' ∧ ∃ vs, Rowed w.heap.size wr ov vs ((d.take i').map (votesRow f)) ∧ Below w.heap.size w wr) (fun _ i _ => d.length - (intOf i).toNat)
  case atStart => exact ⟨0, Nat.zero_le _, by omega, rfl, [], Rowed.nil _ _, Below.refl _ _⟩
  case round =>
    obtain ⟨i, hi, hi5, rfl, vs, hrow, hb⟩ := hrel
    by_cases hlt : i < d.length ∧ i < 5
    · obtain ⟨hlt, hlt5⟩ := hlt
      have hlt5' : (i : Int) < 5 := by omega
      obtain ⟨r, hr⟩ : ∃ r, d[i]? = some r := ⟨d[i], List.getElem?_eq_getElem hlt⟩
      obtain ⟨bl, ol, rfl, hblS, cs, ⟨lv, rfl, hlv⟩, hl1, hcc⟩ := H.out.at hr
      have hcellA : w.cell? ⟨bl, ol + i, none⟩ = some lv := by have := hcc 0 _ rfl; simpa using this
      obtain ⟨Al, cl, rfl⟩ := slice_shape hlv
      have hrmax : r.length ≤ 9223372036854775807 := by obtain ⟨_, _, _, h1, h2, _⟩ := hlv; unfold maxLen at h2; omega
      obtain ⟨wA, rfl⟩ : ∃ wA : World, wA = wr := ⟨_, rfl⟩
      have hzA := hb.size
      have Hr := Lib.hid hr
      have HcellA := Lib.hid hcellA
      have Hlv := Lib.hid hlv
      have Hrow := Lib.hid hrow
      have Hb := Lib.hid hb
      clear hr hcellA hlv hrow hb hcc hl1
      go_wp2_with fail
      go_loopw [7, 8] (fun iv k wr => ∃ k' : Nat, k' ≤ r.length ∧ k' ≤ 10 ∧ k = .int .i64 k' ∧ Owns RVote 3 24 wr wA.heap.size (fun g => g < w.heap.size) iv ((r.take k').mapIdx (voteAt f)) ∧ Below wA.heap.size wA wr) (fun _ k _ => r.length - (intOf k).toNat)
      case atStart => exact ⟨0, Nat.zero_le _, by omega, rfl, by simpa using Owns.nil RVote 3 _ _ _ _, Below.refl _ _⟩
      case round =>
        obtain ⟨k, hk, hk10, rfl, hown, hbb⟩ := hrel
        have hcell : wr.cell? ⟨bl, ol + i, none⟩ = some (.slice Al r.length cl) := ((hbb.cell (p := ⟨bl, ol + i, none⟩) (Nat.lt_of_lt_of_le hblS hzA)).trans (Hb.out.cell (p := ⟨bl, ol + i, none⟩) hblS)).trans HcellA.out
        by_cases hkl : k < r.length ∧ k < 10
        · obtain ⟨hkl, hkl10⟩ := hkl
          have hkl10' : (k : Int) < 10 := by omega
          obtain ⟨x, hx⟩ : ∃ x, r[k]? = some x := ⟨r[k], List.getElem?_eq_getElem hkl⟩
          have hbw : Below w.heap.size w wr := Hb.out.trans (hbb.mono hzA)
          obtain ⟨b1, o1, rfl, hb1S, cs1, ⟨⟨bv, rfl, hbv⟩, ok1, ok2, ok3, ok4⟩, hl3, hcc1⟩ := (SliceOf.below RDraw.kept Hlv.out hbw (fun _ g => g) (fun _ g => g)).at hx
          have hc0 : wr.cell? ⟨b1, o1 + k * 3, none⟩ = some (.int .i64 x.slot) := by simpa using hcc1 0 _ rfl
          have hc1 : wr.cell? ⟨b1, o1 + k * 3 + 1, none⟩ = some (.int .i64 x.ballot) := by have := hcc1 1 _ rfl; rwa [← Nat.add_assoc] at this
          have hc2 : wr.cell? ⟨b1, o1 + k * 3 + 2, none⟩ = some bv := by have := hcc1 2 _ rfl; rwa [← Nat.add_assoc] at this
          have hmore := row_more (f := f) hx
          obtain ⟨xs, xb, xv⟩ := x
          simp only at hc0 hc1 hbv ok1 ok2 ok3 ok4
          obtain ⟨Av, cv, rfl⟩ := slice_shape hbv
          have hn : ((r.take k).mapIdx (voteAt f)).length = k := by rw [List.length_mapIdx, List.length_take]; omega
          generalize (r.take k).mapIdx (voteAt f) = row at *
          obtain ⟨css, hrw, hown⟩ := hown
          rw [hn] at hown
          obtain ⟨Ao, co, rfl⟩ := own_shape hown
          have hzB := hbb.size
          have hb1r : b1 < wr.heap.size := Nat.lt_of_lt_of_le hb1S hbw.size
          have Hmore := Lib.hid hmore
          have Hn := Lib.hid hn
          have Hrw := Lib.hid hrw
          have Hown := Lib.hid hown
          have Hbb := Lib.hid hbb
          have Hbw := Lib.hid hbw
          have Hbv := Lib.hid hbv
          have HbvA := Lib.hid (SliceOf.below (S' := fun g => g < w.heap.size) RByte.kept hbv ((Below.refl wr.heap.size wr).alloc (Nat.le_refl _) (.cells #[.int .i64 0, .int .i64 0, .slice none 0 0] 24)) (fun g e => Nat.lt_of_lt_of_le e Hbw.out.size) (fun _ e => e))
          have hblr : bl < wr.heap.size := Nat.lt_of_lt_of_le hblS Hbw.out.size
          clear hmore hn hrw hown hbb hbw hbv hx hcc1 hl3
          go_wp2_with fail
          have hbA : Below wr.heap.size wr (wr.alloc (.cells #[.int .i64 0, .int .i64 0, .slice none 0 0] 24)) := (Below.refl wr.heap.size wr).alloc (Nat.le_refl _) _
          have aV := (hbA.cell (p := ⟨bl, ol + i, none⟩) hblr).trans hcell
          have a0 := (hbA.cell (p := ⟨b1, o1 + k * 3, none⟩) hb1r).trans hc0
          have a1 := (hbA.cell (p := ⟨b1, o1 + k * 3 + 1, none⟩) hb1r).trans hc1
          have a2 := (hbA.cell (p := ⟨b1, o1 + k * 3 + 2, none⟩) hb1r).trans hc2
          clear hbA
          have nV : wr.heap.size ≠ bl := by omega
          have n1 : wr.heap.size ≠ b1 := by omega
          go_region_held3 (fun W => W.cell? ⟨bl, ol + i, none⟩ = some (.slice (some ⟨b1, o1, none⟩) r.length cl) ∧ W.cell? ⟨b1, o1 + k * 3, none⟩ = some (.int .i64 xs) ∧ W.cell? ⟨b1, o1 + k * 3 + 1, none⟩ = some (.int .i64 xb) ∧ W.cell? ⟨b1, o1 + k * 3 + 2, none⟩ = some (.slice Av xv.length cv)) (first | exact ⟨hcell, hc0, hc1, hc2⟩ | exact ⟨aV, a0, a1, a2⟩ | go_keep) ((first
            | (go_at_call 11; refine (within_any xb (-1) 9 _ ok3 ok4 (by omega) (by omega) (by omega)).mono ?_; rintro e w' ⟨rfl, rfl⟩)
            | (go_at_call 13; refine (cut_any _ xv 9 (fun g => g < w.heap.size) _ (by first | exact SliceOf.heap RByte.kept Hbv.out rfl | exact SliceOf.heap RByte.kept HbvA.out rfl) (by omega) (by omega)).mono ?_; rintro e w' ⟨v', lc, rfl, hlc, hv', rfl⟩; obtain ⟨Ac, cc, rfl⟩ := slice_shape hv'; have Hv' := Lib.hid hv'; have Hlc := Lib.hid hlc; clear hv' hlc)))
          all_goals
            rename_i hHeld
            obtain ⟨j0, j1, j2, j3⟩ := hHeld
            clear aV a0 a1 a2
            have hbv2 : BytesAt wr (fun g => g < w.heap.size) (.slice Ac lc.length cc) (xv.take 9) := by
              have hlc : lc = xv.take 9 := Hlc.out
              rw [← hlc]
              first
                | exact SliceOf.keep RByte.kept Hv'.out (fun g hg => (Below.heap_alloc wr _ g (Nat.lt_of_lt_of_le hg Hbw.out.size)).symm) (fun _ e => e)
                | exact SliceOf.heap RByte.kept Hv'.out rfl
            have Hbv2 := Lib.hid hbv2
            have Hlen := Lib.hid (congrArg List.length Hlc.out)
            clear hbv2 Hv'
            by_cases hk3 : k % 4 = 3
            · have e3 : ((k : Int) % 4 != 3) = false := by simp; omega
              have Hk3 := Lib.hid hk3
              clear hk3
              go_wp2_with (at_builtin; refine wpList_append_src rfl _ _ 25 rfl wA.heap.size 24 (.agg #[.int .i64 0, .int .i64 0, .slice none 0 0]) 3 40 Try.underlying25 vote_info rfl (by omega) (.slice Ao k co) k css.flatten rfl (by exact own_below Hown.out (lists_b wr _ _)) (some ⟨wr.heap.size + 1, 0, none⟩) 1 1 [.int .i64 xs, .int .i64 (within xb (-1) 9), .slice Ac lc.length cc] rfl rfl (fun _ => ⟨wr.heap.size + 1, 0, rfl, fun j u hj => lists_src wr _ _ j u hj⟩) (by intro u hu; simp at hu; rcases hu with rfl | rfl | rfl <;> rfl) (by omega) (by omega) (by simp; omega) ?_; intro v2 w2 hown2 hg2 hat2)
              have hp2 := lists_push (x := voteAt f k ⟨xs, xb, xv⟩) (z := xs) (A := Ac) (m := lc.length) (c := cc) hzA Hrw.out Hn.out Hown.out Hbb.out (by unfold voteAt; rw [if_pos Hk3.out]) Hbv2.out hown2 hg2
              rw [← Hmore.out] at hp2
              have Hp2 := Lib.hid hp2
              clear hp2 hown2 hg2 hat2
              go_wp2_with fail
              go_roundw
              case rel => exact ⟨k + 1, by omega, by omega, by go_num, Hp2.out.1, Hp2.out.2⟩
              case measure => simp [intOf]; omega
            · have e3 : ((k : Int) % 4 != 3) = true := by simp; omega
              have Hk3 := Lib.hid hk3
              clear hk3
              go_wp2_with (first | (go_at_call 11; refine (within_any xs (-2) 18 _ ok1 ok2 (by omega) (by omega) (by omega)).mono ?_; rintro e w' ⟨rfl, rfl⟩; obtain ⟨g1, g2⟩ := within_bd xs (-2) 18 (by omega); obtain ⟨y, hy⟩ : ∃ y, within xs (-2) 18 = y := ⟨_, rfl⟩; rw [hy] at g1 g2 ⊢; have Hy := Lib.hid hy; clear hy) | (at_builtin; refine wpList_append_src rfl _ _ 25 rfl wA.heap.size 24 (.agg #[.int .i64 0, .int .i64 0, .slice none 0 0]) 3 40 Try.underlying25 vote_info rfl (by omega) (.slice Ao k co) k css.flatten rfl (by exact own_below Hown.out (lists_b wr _ _)) (some ⟨wr.heap.size + 1, 0, none⟩) 1 1 [.int .i64 (f + y), .int .i64 (within xb (-1) 9), .slice Ac lc.length cc] rfl rfl (fun _ => ⟨wr.heap.size + 1, 0, rfl, fun j u hj => lists_src wr _ _ j u hj⟩) (by intro u hu; simp at hu; rcases hu with rfl | rfl | rfl <;> rfl) (by omega) (by omega) (by simp; omega) ?_; intro v2 w2 hown2 hg2 hat2))
              have hp2 := lists_push (x := voteAt f k ⟨xs, xb, xv⟩) (z := f + y) (A := Ac) (m := lc.length) (c := cc) hzA Hrw.out Hn.out Hown.out Hbb.out (by unfold voteAt; rw [if_neg Hk3.out, Hy.out]) Hbv2.out hown2 hg2
              rw [← Hmore.out] at hp2
              have Hp2 := Lib.hid hp2
              clear hp2 hown2 hg2 hat2
              go_wp2_with fail
              go_roundw
              case rel => exact ⟨k + 1, by omega, by omega, by go_num, Hp2.out.1, Hp2.out.2⟩
              case measure => simp [intOf]; omega
        · have hrk : r.take k = r.take 10 := by
            by_cases h10 : k = 10
            · rw [h10]
            · rw [List.take_of_length_le (by omega), List.take_of_length_le (by omega)]
          rw [hrk] at hown
          change Owns RVote 3 _ wr wA.heap.size _ _ (votesRow f r) at hown
          have hmore := votes_more (f := f) Hr.out
          have hnew := hown
          obtain ⟨css, _, hown⟩ := hown
          generalize votesRow f r = row at *
          obtain ⟨n, hn⟩ : ∃ n, row.length = n := ⟨_, rfl⟩
          rw [hn] at hown
          obtain ⟨Ao, co, rfl⟩ := own_shape hown
          have hli : ((d.take i).map (votesRow f)).length = i := by rw [List.length_map, List.length_take]; omega
          have hov := Hrow.out.outer
          rw [hli] at hov
          obtain ⟨A5, c5, rfl⟩ := own_shape hov
          have hzB := hbb.size
          have Hov := Lib.hid (own_below hov hbb)
          have Hsnoc := Lib.hid (fun v2 w2 => @Rowed.snoc w.heap.size wA wr w2 _ _ v2 vs _ row (.cells #[.slice Ao n co] 25) Hrow.out hzA hbb hnew)
          have Hli := Lib.hid hli
          have Hmore := Lib.hid hmore
          have hb2 : ∀ w2, (wr.alloc (.cells #[.slice Ao n co] 25)).grownBy w2 (Value.ownBlock (.slice A5 i c5)) → Below w.heap.size w w2 := fun w2 hg => (Hb.out.trans (hbb.mono hzA)).trans (((Touch.alloc (fun k => Value.ownBlock (.slice A5 i c5) = some k) wr _).trans (Touch.grown hg (fun g _ e => e)) (fun _ _ h => h)).below (fun k e => (hov.lt k e).1) (by omega))
          have Hb2 := Lib.hid hb2
          have Hhk := Lib.hid hkl
          clear hrk hnew hown hn hli hov hmore hb2 hkl hbb
          rcases Nat.lt_or_ge k r.length with hk1 | hk1
          all_goals
            have hk3 := Hhk.out
            try have hk4 : ¬ (k : Int) < 10 := by omega
            try have hk4 : ¬ (k : Int) < r.length := by omega
            clear hk3
            go_wp2_with (at_builtin; refine wpList_append_src rfl _ _ 26 rfl w.heap.size 25 (.slice none 0 0) 1 24 Try.underlying26 votes_info rfl (by omega) (.slice A5 i c5) i vs rfl (by exact Hov.out.alloc _) (some ⟨wr.heap.size, 0, none⟩) 1 1 [.slice Ao n co] rfl rfl (by exact one_new wr _ _) (by intro u hu; simp at hu; rcases hu with rfl; rfl) (by omega) (by omega) (by simp; omega) ?_; intro v2 w2 hown2 hg2 hat2)
            have hp2 := Hsnoc.out v2 w2 (by rw [Hli.out]; exact hown2) hg2 hat2
            rw [← Hmore.out] at hp2
            have Hp2 := Lib.hid hp2
            have hbz := Hb2.out w2 hg2
            have Hbz := Lib.hid hbz
            clear hp2 hown2 hg2 hat2 hbz
            go_wp2_with fail
            go_roundw
            case rel => exact ⟨i + 1, by omega, by omega, by go_num, _, Hp2.out, Hbz.out⟩
            case measure => simp [intOf]; omega
    · have hdk : d.take i = d.take 5 := by
        by_cases h5 : i = 5
        · rw [h5]
        · rw [List.take_of_length_le (by omega), List.take_of_length_le (by omega)]
      rw [hdk] at hrow
      have Hend : Hid (ListsEnd w (votesOf f d) (.returned _) wr) := Lib.hid ⟨_, vs, rfl, hrow, hb⟩
      have Hhk := Lib.hid hlt
      clear hdk hrow hb hlt
      rcases Nat.lt_or_ge i d.length with hk1 | hk1
      all_goals
        have hk3 := Hhk.out
        try have hk4 : ¬ (i : Int) < 5 := by omega
        try have hk4 : ¬ (i : Int) < d.length := by omega
        clear hk3
        go_wp2_with fail
        go_ret
        exact Hend.out
end Go.Proofs.Ytpnecbhbdfdijaa
