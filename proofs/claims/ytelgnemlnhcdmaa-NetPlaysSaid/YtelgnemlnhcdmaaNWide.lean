/- The draws of NetPlays, opened: the form's own reach bounds what lies down in the datum. -/
import Derived.Test.YtelgnemlnhcdmaaNPlay
import Derived.Test.YtelgnemlnhcdmaaNOpen
import Derived.SizedLaws
namespace Go.Proofs.Ytelgnemlnhcdmaa
open Go.RowKit Go.ChangeShapes Go.WideShapes Go.Deep

theorem weightsAll_mem {H : Type} {P : Program} {e : TypeId} : ∀ {l : List (DataW H)} {d : DataW H}, d ∈ l → ∀ n ∈ d.weights P e, n ∈ DataW.weightsAll P e l
  | [], _, hd, _, _ => by cases hd
  | a :: r, d, hd, n, hn => by
    simp only [DataW.weightsAll, List.mem_append]
    rcases List.mem_cons.1 hd with rfl | h
    · exact Or.inl hn
    · exact Or.inr (weightsAll_mem h n hn)

theorem open_sliceOf_w {H : Type} {enc : TypeId × Value → H} {P : Program} {w : World} {base : Nat} {spare : Nat → Bool} {held : Bool} {t e : TypeId} {size bytes fuel K : Nat} {v : Value} {y : DataW H × List MemPlace} {α : Type} [Inhabited α] {R : Rep α} {Q : α → Prop}
    (ht : P.underlying t = some (.slice e)) (hc : P.cellsOf e = size) (hs : 0 < size) (hby : P.bytesOf e = bytes)
    (hR : ∀ (n : Nat) (cs : List Value) (y : DataW H × List MemPlace), DataW.trod enc P w base spare held n e cs = some y → cs.length = size → (∀ m ∈ y.1.weights P e, m ≤ K) → ∃ x, R w (fun k => k < w.heap.size) cs x ∧ Q x)
    (h : DataW.trod enc P w base spare held fuel t [v] = some y) (hK : ∀ m ∈ y.1.weights P t, m ≤ K) : ∃ l, SliceOf R size w (fun k => k < w.heap.size) v l ∧ l.length * bytes ≤ K ∧ ∀ x ∈ l, Q x := by
  rcases open_slice ht h with ⟨hcs, _⟩ | ⟨a, len, cap, m, n, D, Pl, hcs, _, hl, hm, hmm, hy, hV⟩
  · simp only [List.cons.injEq, and_true] at hcs
    subst hcs
    exact ⟨[], SliceOf.nil R size w _, by simp, fun x hx => by cases hx⟩
  · simp only [List.cons.injEq, and_true] at hcs
    subst hcs
    have hle : len ≤ m := by rw [hmm]; split <;> omega
    rw [hc] at hV
    rw [hy] at hK
    simp only [DataW.weights, ht, List.mem_cons, List.mem_append] at hK
    have hlen : len * bytes ≤ K := by
      have := hK _ (.inl rfl)
      rw [hby] at this
      simp only [List.length_map, List.length_range] at this
      exact Nat.le_trans (Nat.mul_le_mul_right _ (by omega)) this
    have hX : ∀ i, i < len → ∃ x, (∃ cs, R w (fun k => k < w.heap.size) cs x ∧ cs.length = size ∧ ∀ j, j < size → w.cell? ((a.add (i * size)).add j) = cs[j]?) ∧ Q x := fun i hi => by
      obtain ⟨cs, h1, h2⟩ := hV i (by omega)
      obtain ⟨_, h3, h4⟩ := World.cells?_some h1
      obtain ⟨x, hx, hq⟩ := hR n cs _ h2 h3 (fun m hm => hK m (.inr (.inl (weightsAll_mem (List.mem_map.2 ⟨i, List.mem_range.2 hi, rfl⟩) m hm))))
      exact ⟨x, ⟨cs, hx, h3, fun j hj => h4 j hj⟩, hq⟩
    obtain ⟨X, hX⟩ := choose_lt hX
    refine ⟨(List.range len).map X, ⟨some a, cap, by simp, by simpa using hl, hm, fun h0 => ?_⟩, by simpa using hlen, fun x hx => ?_⟩
    · have hl0 : 0 < len := by simpa using h0
      obtain ⟨⟨cs0, _, k0, k1⟩, _⟩ := hX 0 hl0
      have hc0 := k1 0 hs
      obtain ⟨b, off, sp⟩ := a
      have hcell : w.cell? ⟨b, off, sp⟩ = some (cs0[0]'(by omega)) := by
        rw [List.getElem?_eq_getElem (by omega)] at hc0
        simpa [Addr.add] using hc0
      have hsp : sp = none := World.cell?_spot hcell
      subst hsp
      refine ⟨b, off, rfl, World.block_lt_of_cell? (w := w) (a := ⟨b, off, none⟩) hcell, fun i x hi => ?_⟩
      rw [List.getElem?_map] at hi
      obtain ⟨i', hi', rfl⟩ := Option.map_eq_some_iff.1 hi
      obtain ⟨hlt, rfl⟩ := List.getElem?_eq_some_iff.1 hi'
      simp only [List.length_range] at hlt
      simp only [List.getElem_range]
      obtain ⟨⟨cs, hr, hlen, hcell'⟩, _⟩ := hX i hlt
      refine ⟨cs, hr, hlen, fun j u hu => ?_⟩
      have hj : j < size := by rw [← hlen]; exact (List.getElem?_eq_some_iff.1 hu).1
      have := hcell' j hj
      rw [add_add, WideShapes.add_plain, hu] at this
      exact this
    · obtain ⟨i, hi, rfl⟩ := List.mem_map.1 hx
      exact (hX i (List.mem_range.1 hi)).2

theorem trod_struct10 {H : Type} {enc : TypeId × Value → H} {P : Program} {w : World} {base : Nat} {spare : Nat → Bool} {held : Bool} {t : TypeId} {f0 f1 f2 f3 f4 f5 f6 f7 f8 f9 : Field} {fuel : Nat} {cs : List Value} {x : DataW H × List MemPlace} (ht : P.underlying t = some (.struct #[f0, f1, f2, f3, f4, f5, f6, f7, f8, f9])) (h : DataW.trod enc P w base spare held fuel t cs = some x) :
    ∃ y0 y1 y2 y3 y4 y5 y6 y7 y8 y9 n, x.1 = .agg [y0.1, y1.1, y2.1, y3.1, y4.1, y5.1, y6.1, y7.1, y8.1, y9.1] ∧ DataW.trod enc P w base spare held n f0.type ((cs.drop f0.offset).take (P.cellsOf f0.type)) = some y0 ∧ DataW.trod enc P w base spare held n f1.type ((cs.drop f1.offset).take (P.cellsOf f1.type)) = some y1 ∧ DataW.trod enc P w base spare held n f2.type ((cs.drop f2.offset).take (P.cellsOf f2.type)) = some y2 ∧ DataW.trod enc P w base spare held n f3.type ((cs.drop f3.offset).take (P.cellsOf f3.type)) = some y3 ∧ DataW.trod enc P w base spare held n f4.type ((cs.drop f4.offset).take (P.cellsOf f4.type)) = some y4 ∧ DataW.trod enc P w base spare held n f5.type ((cs.drop f5.offset).take (P.cellsOf f5.type)) = some y5 ∧ DataW.trod enc P w base spare held n f6.type ((cs.drop f6.offset).take (P.cellsOf f6.type)) = some y6 ∧ DataW.trod enc P w base spare held n f7.type ((cs.drop f7.offset).take (P.cellsOf f7.type)) = some y7 ∧ DataW.trod enc P w base spare held n f8.type ((cs.drop f8.offset).take (P.cellsOf f8.type)) = some y8 ∧ DataW.trod enc P w base spare held n f9.type ((cs.drop f9.offset).take (P.cellsOf f9.type)) = some y9 := by
  obtain ⟨xs, n, _, rfl, hl, hlen, hf⟩ := DataW.trod_struct ht h
  match xs, hlen with
  | [y0, y1, y2, y3, y4, y5, y6, y7, y8, y9], _ => exact ⟨y0, y1, y2, y3, y4, y5, y6, y7, y8, y9, n, by simp, by simpa using hf 0 f0 rfl, by simpa using hf 1 f1 rfl, by simpa using hf 2 f2 rfl, by simpa using hf 3 f3 rfl, by simpa using hf 4 f4 rfl, by simpa using hf 5 f5 rfl, by simpa using hf 6 f6 rfl, by simpa using hf 7 f7 rfl, by simpa using hf 8 f8 rfl, by simpa using hf 9 f9 rfl⟩
theorem msg_struct : ∃ f0 f1 f2 f3 f4 f5 f6 f7 f8 f9, Try.prog.underlying 31 = some (.struct #[f0, f1, f2, f3, f4, f5, f6, f7, f8, f9]) ∧ f0.type = 3 ∧ f0.offset = 0 ∧ f1.type = 3 ∧ f1.offset = 1 ∧ f2.type = 3 ∧ f2.offset = 2 ∧ f3.type = 3 ∧ f3.offset = 3 ∧ f4.type = 3 ∧ f4.offset = 4 ∧ f5.type = 3 ∧ f5.offset = 5 ∧ f6.type = 3 ∧ f6.offset = 6 ∧ f7.type = 3 ∧ f7.offset = 7 ∧ f8.type = 28 ∧ f8.offset = 8 ∧ f9.type = 29 ∧ f9.offset = 9 := ⟨_, _, _, _, _, _, _, _, _, _, Try.underlying31, rfl, rfl, rfl, rfl, rfl, rfl, rfl, rfl, rfl, rfl, rfl, rfl, rfl, rfl, rfl, rfl, rfl, rfl, rfl, rfl⟩
theorem vote_struct : ∃ f0 f1 f2, Try.prog.underlying 52 = some (.struct #[f0, f1, f2]) ∧ f0.type = 3 ∧ f1.type = 3 ∧ f2.type = 28 ∧ f0.offset = 0 ∧ f1.offset = 1 ∧ f2.offset = 2 := ⟨_, _, _, Try.underlying52, rfl, rfl, rfl, rfl, rfl, rfl⟩
theorem ask_struct : ∃ f0 f1 f2, Try.prog.underlying 41 = some (.struct #[f0, f1, f2]) ∧ f0.type = 3 ∧ f1.type = 3 ∧ f2.type = 31 ∧ f0.offset = 0 ∧ f1.offset = 1 ∧ f2.offset = 2 := ⟨_, _, _, Try.underlying41, rfl, rfl, rfl, rfl, rfl, rfl⟩
section
variable {H : Type} {enc : TypeId × Value → H} {w : World} {base : Nat} {spare : Nat → Bool} {held : Bool}
theorem open_bytes_w {K fuel : Nat} {v : Value} {y : DataW H × List MemPlace} (h : DataW.trod enc Try.prog w base spare held fuel 28 [v] = some y) (hK : ∀ m ∈ y.1.weights Try.prog 28, m ≤ K) : ∃ l, BytesAt w (fun k => k < w.heap.size) v l ∧ l.length ≤ K := by
  obtain ⟨l, h1, h2, _⟩ := open_sliceOf_w (R := RByte) (size := 1) (bytes := 1) (Q := fun _ => True) Try.underlying28 (by kernel_rfl) (by omega) (by kernel_rfl) (fun n cs y h1 h2 _ => by obtain ⟨x, hx⟩ := open_byte n cs y h1 h2; exact ⟨x, hx, trivial⟩) h hK
  exact ⟨l, h1, by omega⟩
theorem open_vote_w {K : Nat} (n : Nat) (cs : List Value) (y : DataW H × List MemPlace) (h : DataW.trod enc Try.prog w base spare held n 52 cs = some y) (hl : cs.length = 3) (hK : ∀ m ∈ y.1.weights Try.prog 52, m ≤ K) : ∃ x, RVote w (fun k => k < w.heap.size) cs x ∧ x.v.length ≤ K := by
  obtain ⟨f0, f1, f2, hs, t0, t1, t2, o0, o1, o2⟩ := vote_struct
  obtain ⟨y0, y1, y2, m, hy, _, h0, h1, h2⟩ := trod_struct3 hs h
  match cs, hl with
  | [a, b, c], _ =>
    rw [t0, o0] at h0
    rw [t1, o1] at h1
    rw [t2, o2] at h2
    have c3 : Try.prog.cellsOf 3 = 1 := by kernel_rfl
    have c22 : Try.prog.cellsOf 28 = 1 := by kernel_rfl
    rw [c3] at h0 h1
    rw [c22] at h2
    obtain ⟨z, hz, _, _⟩ := DataW.trod_int Try.underlying3 h0
    obtain ⟨u, hu, _, _⟩ := DataW.trod_int Try.underlying3 h1
    rw [hy] at hK
    simp only [DataW.weights, hs, DataW.weightsEach, t0, t1, t2, List.map_cons, List.map_nil, List.mem_append] at hK
    obtain ⟨lb, hb, hlb⟩ := open_bytes_w (K := K) (v := c) h2 (fun m hm => hK m (.inr (.inr (.inl hm))))
    simp at hz hu
    subst hz
    subst hu
    exact ⟨⟨z, u, lb⟩, ⟨c, rfl, hb⟩, hlb⟩
theorem open_votes_w {K fuel : Nat} {v : Value} {y : DataW H × List MemPlace} (h : DataW.trod enc Try.prog w base spare held fuel 29 [v] = some y) (hK : ∀ m ∈ y.1.weights Try.prog 29, m ≤ K) : ∃ l, SliceOf RVote 3 w (fun k => k < w.heap.size) v l ∧ ∀ x ∈ l, x.v.length ≤ K := by
  obtain ⟨l, h1, _, h3⟩ := open_sliceOf_w (R := RVote) (size := 3) (bytes := 40) (Q := fun x => x.v.length ≤ K) Try.underlying29 (by kernel_rfl) (by omega) (by kernel_rfl) (fun n cs y h1 h2 h3 => open_vote_w n cs y h1 h2 h3) h hK
  exact ⟨l, h1, h3⟩
theorem open_msg_w {K : Nat} (n : Nat) (cs : List Value) (y : DataW H × List MemPlace) (h : DataW.trod enc Try.prog w base spare held n 31 cs = some y) (hl : cs.length = 10) (hK : ∀ m ∈ y.1.weights Try.prog 31, m ≤ K) : ∃ x, RMsg w (fun k => k < w.heap.size) cs x ∧ ∀ v ∈ x.l, v.v.length ≤ K := by
  obtain ⟨f0, f1, f2, f3, f4, f5, f6, f7, f8, f9, hs, t0, o0, t1, o1, t2, o2, t3, o3, t4, o4, t5, o5, t6, o6, t7, o7, t8, o8, t9, o9⟩ := msg_struct
  obtain ⟨y0, y1, y2, y3, y4, y5, y6, y7, y8, y9, m, hy, h0, h1, h2, h3, h4, h5, h6, h7, h8, h9⟩ := trod_struct10 hs h
  match cs, hl with
  | [a0, a1, a2, a3, a4, a5, a6, a7, a8, a9], _ =>
    have c3 : Try.prog.cellsOf 3 = 1 := by kernel_rfl
    have c28 : Try.prog.cellsOf 28 = 1 := by kernel_rfl
    have c29 : Try.prog.cellsOf 29 = 1 := by kernel_rfl
    rw [t0, o0] at h0
    rw [t1, o1] at h1
    rw [t2, o2] at h2
    rw [t3, o3] at h3
    rw [t4, o4] at h4
    rw [t5, o5] at h5
    rw [t6, o6] at h6
    rw [t7, o7] at h7
    rw [t8, o8] at h8
    rw [t9, o9] at h9
    rw [c3] at h0 h1 h2 h3 h4 h5 h6 h7
    rw [c28] at h8
    rw [c29] at h9
    obtain ⟨z0, hz0, _, _⟩ := DataW.trod_int Try.underlying3 h0
    obtain ⟨z1, hz1, _, _⟩ := DataW.trod_int Try.underlying3 h1
    obtain ⟨z2, hz2, _, _⟩ := DataW.trod_int Try.underlying3 h2
    obtain ⟨z3, hz3, _, _⟩ := DataW.trod_int Try.underlying3 h3
    obtain ⟨z4, hz4, _, _⟩ := DataW.trod_int Try.underlying3 h4
    obtain ⟨z5, hz5, _, _⟩ := DataW.trod_int Try.underlying3 h5
    obtain ⟨z6, hz6, _, _⟩ := DataW.trod_int Try.underlying3 h6
    obtain ⟨z7, hz7, _, _⟩ := DataW.trod_int Try.underlying3 h7
    rw [hy] at hK
    simp only [DataW.weights, hs, DataW.weightsEach, t0, t1, t2, t3, t4, t5, t6, t7, t8, t9, List.map_cons, List.map_nil, List.mem_append] at hK
    obtain ⟨lb, hb⟩ := open_bytes (v := a8) h8
    obtain ⟨ll, hll, hlk⟩ := open_votes_w (K := K) (v := a9) h9 (fun m hm => hK m (.inr (.inr (.inr (.inr (.inr (.inr (.inr (.inr (.inr (.inl hm)))))))))))
    simp at hz0 hz1 hz2 hz3 hz4 hz5 hz6 hz7
    subst hz0
    subst hz1
    subst hz2
    subst hz3
    subst hz4
    subst hz5
    subst hz6
    subst hz7
    exact ⟨⟨z0, z1, z2, z3, z4, z5, z6, z7, lb, ll⟩, ⟨a8, a9, rfl, hb, hll⟩, hlk⟩
theorem open_ask_w {K : Nat} (n : Nat) (cs : List Value) (y : DataW H × List MemPlace) (h : DataW.trod enc Try.prog w base spare held n 41 cs = some y) (hl : cs.length = 12) (hK : ∀ m ∈ y.1.weights Try.prog 41, m ≤ K) : ∃ x, RAsk w (fun k => k < w.heap.size) cs x ∧ ∀ v ∈ x.m.l, v.v.length ≤ K := by
  obtain ⟨f0, f1, f2, hs, t0, t1, t2, o0, o1, o2⟩ := ask_struct
  obtain ⟨y0, y1, y2, m, hy, _, h0, h1, h2⟩ := trod_struct3 hs h
  match cs, hl with
  | a :: b :: cm, hl =>
    rw [t0, o0] at h0
    rw [t1, o1] at h1
    rw [t2, o2] at h2
    have c3 : Try.prog.cellsOf 3 = 1 := by kernel_rfl
    have c31 : Try.prog.cellsOf 31 = 10 := by kernel_rfl
    rw [c3] at h0 h1
    rw [c31] at h2
    have hlm : cm.length = 10 := by simpa using hl
    obtain ⟨z, hz, _, _⟩ := DataW.trod_int Try.underlying3 h0
    obtain ⟨u, hu, _, _⟩ := DataW.trod_int Try.underlying3 h1
    rw [hy] at hK
    simp only [DataW.weights, hs, DataW.weightsEach, t0, t1, t2, List.map_cons, List.map_nil, List.mem_append] at hK
    have h2' : DataW.trod enc Try.prog w base spare held m 31 cm = some y2 := by
      have e : ((a :: b :: cm).drop 2).take 10 = cm := by simp [List.take_of_length_le (Nat.le_of_eq hlm)]
      rwa [e] at h2
    obtain ⟨x, hx, hxk⟩ := open_msg_w (K := K) m cm y2 h2' hlm (fun m hm => hK m (.inr (.inr (.inl hm))))
    simp at hz hu
    subst hz
    subst hu
    exact ⟨⟨z, u, x⟩, ⟨cm, rfl, hx⟩, hxk⟩
theorem open_asks_w {K fuel : Nat} {v : Value} {y : DataW H × List MemPlace} (h : DataW.trod enc Try.prog w base spare held fuel 39 [v] = some y) (hK : ∀ m ∈ y.1.weights Try.prog 39, m ≤ K) : ∃ l, SliceOf RAsk 12 w (fun k => k < w.heap.size) v l ∧ ∀ a ∈ l, ∀ v ∈ a.m.l, v.v.length ≤ K := by
  obtain ⟨l, h1, _, h3⟩ := open_sliceOf_w (R := RAsk) (size := 12) (bytes := 128) (Q := fun a => ∀ v ∈ a.m.l, v.v.length ≤ K) Try.underlying39 (by kernel_rfl) (by omega) (by kernel_rfl) (fun n cs y h1 h2 h3 => open_ask_w n cs y h1 h2 h3) h hK
  exact ⟨l, h1, h3⟩
end

set_option maxHeartbeats 1000000 in
theorem plays_any (a : Int) (v : Value) (l : List AskT) (w : World) (ha1 : -9223372036854775808 ≤ a) (ha2 : a ≤ 9223372036854775807) (h : SliceOf RAsk 12 w (fun k => k < w.heap.size) v l) (hok : ∀ a ∈ l, VotesOk a.m) : Calls Try.prog 5 #[.int .i64 a, v] w (SameEnd w) := by
  have H := Lib.hid h
  have Hok := Lib.hid hok
  clear h hok
  go_enter Try.func5, Try.ntmps5
  go_wp2_with fail
  refine (within_any a 1 20 _ ha1 ha2 (by omega) (by omega) (by omega)).mono ?_
  rintro e w' ⟨rfl, rfl⟩
  have hbd := within_bd a 1 20 (by omega)
  generalize within a 1 20 = f at *
  obtain ⟨hf, hf2⟩ := hbd
  go_wp2_with fail
  refine (play_any f _ l (fun k => k < w.heap.size) _ hf (by omega) H.out (fun _ h => h) Hok.out).mono ?_
  rintro e w1 ⟨rfl, b1⟩
  have B1 := Lib.hid b1
  clear b1
  go_wp2_with fail
  refine (known_any _).mono ?_
  rintro e w2 ⟨rfl, b2⟩
  have hend := Lib.hid (B1.out.trans (b2.mono B1.out.size))
  clear b2
  go_wp2_with fail
  go_ret
  exact ⟨rfl, hend.out⟩
end Go.Proofs.Ytelgnemlnhcdmaa
