/- The walk of the statement PickTells: it returns true. -/
import Derived.Test.YtpnecbhbdfdijaaPickLists2
namespace Go.Proofs.Ytpnecbhbdfdijaa
open Go.RowKit

def DrawOk (x : VoteT) : Prop := -9223372036854775808 ≤ x.slot ∧ x.slot ≤ 9223372036854775807 ∧ -9223372036854775808 ≤ x.ballot ∧ x.ballot ≤ 9223372036854775807
theorem draws_ok {w : World} {S : Nat → Prop} {v : Value} {d : List (List VoteT)} (h : SliceOf RDraws 1 w S v d) : ∀ r ∈ d, ∀ x ∈ r, DrawOk x := by
  intro r hr x hx
  obtain ⟨A, c, rfl⟩ := slice_shape h
  obtain ⟨i, hi⟩ := List.mem_iff_getElem?.1 hr
  obtain ⟨_, _, _, _, cs, ⟨lv, rfl, hlv⟩, _⟩ := h.at hi
  obtain ⟨A2, c2, rfl⟩ := slice_shape hlv
  obtain ⟨j, hj⟩ := List.mem_iff_getElem?.1 hx
  obtain ⟨_, _, _, _, cs', ⟨_, h2⟩, _⟩ := hlv.at hj
  exact h2
theorem voteAt_ok (f : Int) (k : Nat) (x : VoteT) (hf : 0 ≤ f) (hf2 : f ≤ 1000000000) (hx : DrawOk x) : VoteOk (voteAt f k x) := by
  have h1 := within_bd x.slot (-2) 18 (by omega)
  have h2 := within_bd x.ballot (-1) 9 (by omega)
  obtain ⟨g1, g2, g3, g4⟩ := hx
  unfold voteAt
  refine ⟨?_, ?_, ?_, ?_, ?_⟩ <;> simp only
  · split <;> omega
  · split <;> omega
  · omega
  · omega
  · rw [List.length_take]; omega
theorem row_mem {f : Int} {r : List VoteT} {y : VoteT} (h : y ∈ votesRow f r) : ∃ k x, x ∈ r ∧ y = voteAt f k x := by
  unfold votesRow at h
  obtain ⟨k, hk, e⟩ := List.mem_mapIdx.1 h
  exact ⟨k, _, List.mem_of_mem_take (List.getElem_mem hk), e.symm⟩
theorem votes_ok (f : Int) (d : List (List VoteT)) (hf : 0 ≤ f) (hf2 : f ≤ 1000000000) (h : ∀ r ∈ d, ∀ x ∈ r, DrawOk x) : (∀ l ∈ votesOf f d, ∀ x ∈ l, VoteOk x) ∧ ∀ l ∈ votesOf f d, l.length ≤ 1000000000 := by
  constructor
  · intro l hl x hx
    obtain ⟨r, hr, rfl⟩ := List.mem_map.1 hl
    obtain ⟨k, y, hy, rfl⟩ := row_mem hx
    exact voteAt_ok f k y hf hf2 (h r (List.mem_of_mem_take hr) y hy)
  · intro l hl
    obtain ⟨r, hr, rfl⟩ := List.mem_map.1 hl
    unfold votesRow
    rw [List.length_mapIdx, List.length_take]
    omega

set_option maxRecDepth 100000 in
set_option maxHeartbeats 1000000 in
theorem tells_any (a : Int) (v : Value) (d : List (List VoteT)) (w : World) (ha1 : -9223372036854775808 ≤ a) (ha2 : a ≤ 9223372036854775807) (h : SliceOf RDraws 1 w (fun k => k < w.heap.size) v d) : Calls Try.prog 4 #[.int .i64 a, v] w (SameEnd w) := by
  have H := Lib.hid h
  have Hd := Lib.hid (draws_ok h)
  obtain ⟨A, cap, rfl⟩ := slice_shape h
  obtain ⟨t1, t2⟩ := tmod_bd a 40 (by omega)
  clear h
  go_enter Try.func4, Try.ntmps4
  go_wp2_with fail
  refine (within_any a 0 1048576 _ ha1 ha2 (by omega) (by omega) (by omega)).mono ?_
  rintro e w' ⟨rfl, rfl⟩
  have hbd := within_bd a 0 1048576 (by omega)
  generalize within a 0 1048576 = f at *
  obtain ⟨hf, hf2⟩ := hbd
  obtain ⟨ok1, ok2⟩ := votes_ok f d hf (by omega) Hd.out
  have O1 := Lib.hid ok1
  have O2 := Lib.hid ok2
  clear ok1 ok2
  go_wp2_with fail
  refine (lists_any f _ d _ hf (by omega) H.out).mono ?_
  rintro e w0 ⟨ov, vs, rfl, hrow, b0⟩
  have l0 := hrow.slice b0.size
  generalize votesOf f d = ls at *
  obtain ⟨Ao, co, rfl⟩ := slice_shape l0
  have L0 := Lib.hid l0
  have B0 := Lib.hid b0
  clear l0 b0 hrow H
  go_wp2_with fail
  refine (choose_all f _ ls _ _ (by omega) L0.out (fun _ h => h) O1.out O2.out).mono ?_
  rintro e w1 ⟨v1, rfl, h1, b1⟩
  have l1 := SliceOf.below (S' := fun k => k < w1.heap.size) RVotes.kept L0.out b1 (fun k h => h) (fun k h => Nat.lt_of_lt_of_le h b1.size)
  have bw1 := B0.out.trans (b1.mono B0.out.size)
  have H1 := Lib.hid h1
  have L1 := Lib.hid l1
  have BW1 := Lib.hid bw1
  clear h1 b1 l1 bw1 L0 B0
  go_wp2_with fail
  refine (rchoose_all f _ ls _ _ (by omega) L1.out (fun _ h => h) O1.out O2.out).mono ?_
  rintro e w2 ⟨v2, rfl, h2, b2⟩
  have l2 := SliceOf.below RVote.kept H1.out b2 (fun k h => h.2) (fun _ h => h)
  have m2 := SliceOf.below (S' := fun k => k < w2.heap.size) RVotes.kept L1.out b2 (fun k h => h) (fun k h => Nat.lt_of_lt_of_le h b2.size)
  have bw2 := BW1.out.trans (b2.mono BW1.out.size)
  have H2 := Lib.hid h2
  have L2 := Lib.hid l2
  have M2 := Lib.hid m2
  have BW2 := Lib.hid bw2
  clear h2 b2 l2 m2 bw2 L1 BW1 H1
  go_wp2_with fail
  refine (same_any _ _ _ _ _ w2 L2.out H2.out).mono ?_
  rintro e w3 ⟨rfl, n, rfl⟩
  have bw3 := below_drewN BW2.out n
  have m3 : SliceOf RVotes 1 (w2.drewN n) (fun k => k < (w2.drewN n).heap.size) (.slice Ao ls.length co) ls := SliceOf.below RVotes.kept M2.out (below_drewN (Below.refl w2.heap.size w2) n) (fun k h => h) (fun k h => Nat.lt_of_lt_of_le h (below_drewN (Below.refl w2.heap.size w2) n).size)
  generalize w2.drewN n = w3 at *
  have M3 := Lib.hid m3
  have BW3 := Lib.hid bw3
  clear m3 bw3 L2 H2 M2 BW2
  go_wp2_with fail
  refine (choose_all (a.tmod 40) _ ls _ _ (by omega) M3.out (fun _ h => h) O1.out O2.out).mono ?_
  rintro e w4 ⟨v4, rfl, h4, b4⟩
  have l4 := SliceOf.below (S' := fun k => k < w4.heap.size) RVotes.kept M3.out b4 (fun k h => h) (fun k h => Nat.lt_of_lt_of_le h b4.size)
  have bw4 := BW3.out.trans (b4.mono BW3.out.size)
  have H4 := Lib.hid h4
  have L4 := Lib.hid l4
  have BW4 := Lib.hid bw4
  clear h4 b4 l4 bw4 M3 BW3
  go_wp2_with fail
  refine (rchoose_all (a.tmod 40) _ ls _ _ (by omega) L4.out (fun _ h => h) O1.out O2.out).mono ?_
  rintro e w5 ⟨v5, rfl, h5, b5⟩
  have l5 := SliceOf.below RVote.kept H4.out b5 (fun k h => h.2) (fun _ h => h)
  have bw5 := BW4.out.trans (b5.mono BW4.out.size)
  have H5 := Lib.hid h5
  have L5 := Lib.hid l5
  have BW5 := Lib.hid bw5
  clear h5 b5 l5 bw5 L4 BW4 H4
  go_wp2_with fail
  refine (same_any _ _ _ _ _ w5 L5.out H5.out).mono ?_
  rintro e w6 ⟨rfl, n6, rfl⟩
  have bw6 := below_drewN BW5.out n6
  generalize w5.drewN n6 = w6 at *
  have BW6 := Lib.hid bw6
  clear bw6 L5 H5 BW5
  go_wp2_with fail
  refine (known_any w6).mono ?_
  rintro e w7 ⟨rfl, b7⟩
  have hend := Lib.hid (BW6.out.trans (b7.mono BW6.out.size))
  clear b7
  go_wp2_with fail
  go_ret
  exact ⟨rfl, hend.out⟩
end Go.Proofs.Ytpnecbhbdfdijaa
