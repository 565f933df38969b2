/- The contract of the reference's Choose. -/
import Derived.Test.YtpnecbhbdfdijaaPick
namespace Go.Proofs.Ytpnecbhbdfdijaa
open Go.RowKit

/-- The list that the call has made, in a row of its own. -/
def OutMem (w : World) (out : List VoteT) (ov : Value) (wr : World) : Prop :=
  ∃ S css, wr.ownsRow w.heap.size 24 3 ov out.length css.flatten ∧ RowsOf RVote 3 wr S css out ∧ (∀ k, S k → w.heap.size ≤ k ∧ k < wr.heap.size) ∧ (∀ k, ov.ownBlock = some k → ¬ S k) ∧ Below w.heap.size w wr
/-- The best vote so far, in a block T. -/
def BestMem (T : Nat) (s : Int) (o : Option VoteT) (wr : World) : Prop :=
  ∃ A c Sb, Blk wr T 24 #[.int .i64 s, .int .i64 (outOf s o).ballot, .slice A (outOf s o).v.length c] ∧ BytesAt wr Sb (.slice A (outOf s o).v.length c) (outOf s o).v ∧ (∀ k, Sb k → T < k ∧ k < wr.heap.size)
theorem BestMem.start (w : World) (s : Int) : BestMem w.heap.size s none (w.alloc (.cells #[.int .i64 s, .int .i64 (-1), .slice none 0 0] 24)) :=
  ⟨none, 0, fun _ => False, Blk.new w _ _, SliceOf.nil RByte 1 _ _, fun _ h => h.elim⟩
theorem BestMem.below {T : Nat} {s : Int} {o : Option VoteT} {wr w' : World} (h : BestMem T s o wr) (hb : Below wr.heap.size wr w') : BestMem T s o w' := by
  obtain ⟨A, c, Sb, h1, h2, h3⟩ := h
  exact ⟨A, c, Sb, h1.below hb h1.lt, SliceOf.below RByte.kept h2 hb (fun k hk => (h3 k hk).2) (fun _ g => g), fun k hk => ⟨(h3 k hk).1, Nat.lt_of_lt_of_le (h3 k hk).2 hb.size⟩⟩
/-- A better one is put there. -/
theorem BestMem.put {T : Nat} {s : Int} {o : Option VoteT} {wr w2 : World} {A : Option Addr} {c : Nat} {xs xb : Int} {xv : List UInt8} (h : BestMem T s o wr) (hb : Below wr.heap.size wr w2) (hc : w2.ownsRow wr.heap.size 5 1 (.slice A xv.length c) xv.length (xv.map byteV)) :
    BestMem T s (some ⟨xs, xb, xv⟩) (((w2.setCell ⟨T, 0, none⟩ (.int .i64 s)).setCell ⟨T, 1, none⟩ (.int .i64 xb)).setCell ⟨T, 2, none⟩ (.slice A xv.length c)) := by
  obtain ⟨A0, c0, Sb, h1, h2, h3⟩ := h
  have hz := hb.size
  have hT := h1.lt
  have hv := hc.lt
  have ht : Touch (fun k => k = T) w2 (((w2.setCell ⟨T, 0, none⟩ (.int .i64 s)).setCell ⟨T, 1, none⟩ (.int .i64 xb)).setCell ⟨T, 2, none⟩ (.slice A xv.length c)) :=
    ((Touch.setCell (T := fun k => k = T) w2 _ (fun _ => rfl)).trans (Touch.setCell (T := fun k => k = T) _ _ (fun _ => rfl)) (fun _ _ g => g)).trans (Touch.setCell (T := fun k => k = T) _ _ (fun _ => rfl)) (fun _ _ g => g)
  refine ⟨A, c, fun k => Value.ownBlock (.slice A xv.length c) = some k, ?_, ?_, fun k hk => ⟨by have := hv k hk; omega, by have := hv k hk; have := ht.size; omega⟩⟩
  · have := (((h1.below hb hT).set 0 (.int .i64 s)).set 1 (.int .i64 xb)).set 2 (.slice A xv.length c)
    simpa [outOf] using this
  · exact Owns.slice RByte.kept (owns_bytes (S := fun _ => False) (own_touch hc ht (fun k e e' => by have := hv k e; omega))) (fun _ g => g.elim) (fun _ g => g)
theorem OutMem.below {w wr w1 : World} {out : List VoteT} {ov : Value} (h : OutMem w out ov wr) (hb : Below wr.heap.size wr w1) : OutMem w out ov w1 := by
  obtain ⟨S, css, h1, h2, h3, h4, h6⟩ := h
  exact ⟨S, css, own_below h1 hb, RowsOf.keep RVote.kept h2 (fun k hk => hb.block k (h3 k hk).2) (fun _ g => g), fun k hk => ⟨(h3 k hk).1, Nat.lt_of_lt_of_le (h3 k hk).2 hb.size⟩, h4, h6.trans (hb.mono h6.size)⟩
/-- The best one is put behind the list. -/
theorem OutMem.push {w wA wr w2 : World} {out : List VoteT} {ov v2 : Value} {s : Int} {o : Option VoteT} {A : Option Addr} {c : Nat} {Sb S : Nat → Prop} {css : List (List Value)}
    (h1 : wA.ownsRow w.heap.size 24 3 ov out.length css.flatten) (h2 : RowsOf RVote 3 wA S css out) (h3 : ∀ k, S k → w.heap.size ≤ k ∧ k < wA.heap.size) (h4 : ∀ k, ov.ownBlock = some k → ¬ S k) (h6 : Below w.heap.size w wA) (hb : Below wA.heap.size wA wr)
    (hbv : BytesAt wr Sb (.slice A (outOf s o).v.length c) (outOf s o).v) (hSb : ∀ k, Sb k → wA.heap.size < k ∧ k < wr.heap.size)
    (hown : w2.ownsRow w.heap.size 24 3 v2 (out.length + 1) (css.flatten ++ [.int .i64 s, .int .i64 (outOf s o).ballot, .slice A (outOf s o).v.length c])) (hg : (wr.alloc (.cells #[.int .i64 s, .int .i64 (outOf s o).ballot, .slice A (outOf s o).v.length c] 24)).grownBy w2 ov.ownBlock) (hat : v2.ownBlock = ov.ownBlock ∨ v2.ownBlock = some (wr.alloc (.cells #[.int .i64 s, .int .i64 (outOf s o).ballot, .slice A (outOf s o).v.length c] 24)).heap.size) :
    OutMem w (out ++ [outOf s o]) v2 w2 := by
  have ht : Touch (fun k => ov.ownBlock = some k) wr w2 := (Touch.alloc _ wr _).trans (Touch.grown hg (fun g _ e => e)) (fun _ _ h => h)
  have hz := ht.size
  have hzb := hb.size
  have hlt := h1.lt
  have hk : ∀ k, S k → w2.heap[k]? = wA.heap[k]? := fun k hk => (ht.block k (by have := h3 k hk; omega) (fun e => h4 k e hk)).trans (hb.block k (h3 k hk).2)
  have hkb : ∀ k, Sb k → w2.heap[k]? = wr.heap[k]? := fun k hk => ht.block k (hSb k hk).2 (fun e => by have := hlt k e; have := hSb k hk; omega)
  refine ⟨fun k => S k ∨ Sb k, css ++ [[.int .i64 s, .int .i64 (outOf s o).ballot, .slice A (outOf s o).v.length c]], by rw [List.length_append]; simpa using hown, (RowsOf.keep RVote.kept h2 hk (fun _ h => .inl h)).snoc rfl ⟨_, by rw [outOf_slot], SliceOf.keep RByte.kept hbv hkb (fun _ h => .inr h)⟩, ?_, ?_, (h6.trans (hb.mono h6.size)).trans (ht.below (fun k e => (hlt k e).1) (by have := h6.size; omega))⟩
  · rintro k (h | h)
    · have := h3 k h; exact ⟨this.1, by omega⟩
    · have := hSb k h; have := h6.size; exact ⟨by omega, by omega⟩
  · rintro k e (h | h)
    · rcases hat with e2 | e2
      · exact h4 k (e2 ▸ e) h
      · rw [e2] at e; simp at e; have := h3 k h; omega
    · rcases hat with e2 | e2
      · have := hlt k (e2 ▸ e); have := hSb k h; omega
      · rw [e2] at e; simp at e; have := hSb k h; omega
theorem OutMem.done {w wr : World} {f : Int} {ls : List (List VoteT)} {ov : Value} {i : Nat} (h : OutMem w (firsts f ls.flatten i) ov wr) (hi : i = width f ls.flatten) (hf : ¬ f < 0) : ChooseEnd w f ls (.returned ov) wr := by
  obtain ⟨S, css, h1, h2, h3, h4, h6⟩ := h
  refine ⟨ov, rfl, ?_, h6⟩
  unfold choose
  rw [if_neg hf]
  unfold chooseL
  rw [← hi]
  exact Owns.slice RVote.kept (⟨css, h2, h1⟩ : Owns RVote 3 24 wr w.heap.size S ov _) h3 h1.lt

theorem ref_below {wr w2 : World} {a b : Obj} {n : Nat} {c : Nat} (hg : ((wr.alloc a).alloc b).drew.grownBy w2 (Value.ownBlock (.slice (some ⟨wr.heap.size + 1, 0, none⟩) n c))) : Below wr.heap.size wr w2 :=
  ((((Below.refl wr.heap.size wr).alloc (Nat.le_refl _) a).alloc (by simp) b).drew).grown hg (by simp; omega) (fun k e => by simp [Value.ownBlock] at e; omega)
theorem ref_var {wr w2 : World} {x y z : Value} {t : TypeId} {b : Obj} {n : Nat} {c : Nat} (hg : ((wr.alloc (.cells #[x, y, z] t)).alloc b).drew.grownBy w2 (Value.ownBlock (.slice (some ⟨wr.heap.size + 1, 0, none⟩) n c))) : w2.cell? ⟨wr.heap.size, 1, none⟩ = some y ∧ w2.cell? ⟨wr.heap.size, 2, none⟩ = some z := by
  have hb : Below (wr.heap.size + 1) (wr.alloc (.cells #[x, y, z] t)) w2 :=
    (((Below.refl (wr.heap.size + 1) (wr.alloc (.cells #[x, y, z] t))).alloc (by simp) b).drew).grown hg (by simp) (fun k e => by simp [Value.ownBlock] at e; omega)
  exact ⟨(hb.cell (p := ⟨wr.heap.size, 1, none⟩) (by simp)).trans ((Blk.new wr t #[x, y, z]).cell 1), (hb.cell (p := ⟨wr.heap.size, 2, none⟩) (by simp)).trans ((Blk.new wr t #[x, y, z]).cell 2)⟩
set_option maxHeartbeats 400000 in
theorem rchoose_neg (f : Int) (v : Value) (w : World) (hf : f < 0) : Calls Try.prog 9 #[.int .i64 f, v] w fun e w' => e = .returned (.slice none 0 0) ∧ w = w' := by
  go_enter Try.func9, Try.ntmps9
  go_wp2
  go_ret
  exact ⟨rfl, rfl⟩
set_option maxRecDepth 100000 in
set_option maxHeartbeats 4000000 in
theorem rchoose_any (f : Int) (v : Value) (ls : List (List VoteT)) (S : Nat → Prop) (w : World) (hf : 0 ≤ f) (hf2 : f ≤ 1000000000) (h : SliceOf RVotes 1 w S v ls) (hS : ∀ k, S k → k < w.heap.size) (hok : ∀ l ∈ ls, ∀ x ∈ l, VoteOk x) (hll : ∀ l ∈ ls, l.length ≤ 1000000000) : Calls Try.prog 9 #[.int .i64 f, v] w (ChooseEnd w f ls) := by
  have H := Lib.hid h
  obtain ⟨A, cap, rfl, hcap0, hc, hrd⟩ := h
  have hmax : ls.length ≤ 9223372036854775807 := by unfold maxLen at hc; omega
  clear hc hcap0 hrd
  have Hok := Lib.hid hok
  have Hll := Lib.hid hll
  clear hok hll
  go_enter Try.func9, Try.ntmps9
  go_wp2_with fail
  go_loopw [5, 6] (fun ov s wr => ∃ i : Nat, i ≤ 16 ∧ i ≤ width f ls.flatten ∧ s = .int .i64 (f + i) ∧ OutMem w (firsts f ls.flatten i) ov wr) (fun _ s _ => (f + 16 - intOf s).toNat)
  case atStart => exact ⟨0, by omega, Nat.zero_le _, by simp, _, [], World.ownsRow_nil _ _ _ _, RowsOf.nil RVote 3 w (fun _ => False), fun _ h => h.elim, fun k e => by simp [Value.ownBlock] at e, Below.refl _ _⟩
  case round =>
    obtain ⟨i, hi, hiw, rfl, hm⟩ := hrel
    by_cases hi16 : i < 16
    · obtain ⟨s, hs⟩ : ∃ s : Int, s = f + i := ⟨_, rfl⟩
      have hs1 : f ≤ s := by omega
      have hs2 : s < f + 16 := by omega
      rw [← hs]
      obtain ⟨wA, rfl⟩ : ∃ wA : World, wA = wr := ⟨_, rfl⟩
      have hbA : Below w.heap.size w wA := by obtain ⟨_, _, _, _, _, _, h6⟩ := hm; exact h6
      have Hs := Lib.hid hs
      have Hm := Lib.hid hm
      have HbA := Lib.hid hbA
      have hzA := hbA.size
      have hst := Lib.hid (BestMem.start wA s)
      clear hs hm hbA
      go_wp2_with fail
      go_loopw [8, 9, 10] (fun mo fo k wr => ∃ k' : Nat, k' ≤ ls.length ∧ k = .int .i64 k' ∧ mo = .bool (moreAt f s (ls.take k').flatten) ∧ fo = .bool (bestAt s (ls.take k').flatten).isSome ∧ BestMem wA.heap.size s (bestAt s (ls.take k').flatten) wr ∧ Below wA.heap.size wA wr) (fun _ _ k _ => ls.length - (intOf k).toNat)
      case atStart => exact ⟨0, Nat.zero_le _, rfl, rfl, rfl, hst.out, (Below.refl _ _).alloc (Nat.le_refl _) _⟩
      case round =>
        obtain ⟨k, hk, rfl, rfl, rfl, hbm, hbb⟩ := hrel
        by_cases hlt : k < ls.length
        · obtain ⟨l, hl⟩ : ∃ l, ls[k]? = some l := ⟨ls[k], List.getElem?_eq_getElem hlt⟩
          obtain ⟨bl, ol, rfl, hblS, cs, ⟨lv, rfl, hlv⟩, hl1, hcc⟩ := H.out.at hl
          have hcellA : wA.cell? ⟨bl, ol + k, none⟩ = some lv := by have := hcc 0 _ rfl; rw [← HbA.out.cell (hS _ hblS)] at this; simpa using this
          have hblA : bl < wA.heap.size := Nat.lt_of_lt_of_le (hS _ hblS) hzA
          obtain ⟨Al, cl, rfl⟩ := slice_shape hlv
          have hlm : l.length ≤ 1000000000 := Hll.out l (List.mem_of_getElem? hl)
          have hokl : ∀ x ∈ l, VoteOk x := Hok.out l (List.mem_of_getElem? hl)
          have hfm := flat_more hl
          generalize (ls.take k).flatten = pre at *
          have HcellA := Lib.hid hcellA
          have Hlv := Lib.hid hlv
          have Hokl := Lib.hid hokl
          have Hfm := Lib.hid hfm
          have Hbm := Lib.hid hbm
          have Hbb := Lib.hid hbb
          clear hlv hokl hfm hcc hl1 hbm hbb hl hblS hcellA
          go_wp2_with fail
          go_loopw [8, 9, 11] (fun mo fo q wr => ∃ q' : Nat, q' ≤ l.length ∧ q = .int .i64 q' ∧ mo = .bool (moreAt f s (pre ++ l.take q')) ∧ fo = .bool (bestAt s (pre ++ l.take q')).isSome ∧ BestMem wA.heap.size s (bestAt s (pre ++ l.take q')) wr ∧ Below wA.heap.size wA wr) (fun _ _ q _ => l.length - (intOf q).toNat)
          case atStart => exact ⟨0, Nat.zero_le _, rfl, by simp, by simp, by simpa using Hbm.out, Hbb.out⟩
          case round =>
            obtain ⟨q, hq, rfl, rfl, rfl, hbm, hbb⟩ := hrel
            have hcell : wr.cell? ⟨bl, ol + k, none⟩ = some (.slice Al l.length cl) := (hbb.cell (p := ⟨bl, ol + k, none⟩) hblA).trans HcellA.out
            have hblr : bl < wr.heap.size := Nat.lt_of_lt_of_le hblA hbb.size
            by_cases hql : q < l.length
            · obtain ⟨x, hx⟩ : ∃ x, l[q]? = some x := ⟨l[q], List.getElem?_eq_getElem hql⟩
              have hbw : Below w.heap.size w wr := HbA.out.trans (hbb.mono hzA)
              obtain ⟨b1, o1, rfl, hb1S, cs1, ⟨bv, rfl, hbv⟩, hl3, hcc1⟩ := (SliceOf.below RVote.kept Hlv.out hbw hS (fun _ g => g)).at hx
              have hc0 : wr.cell? ⟨b1, o1 + q * 3, none⟩ = some (.int .i64 x.slot) := by simpa using hcc1 0 _ rfl
              have hc1 : wr.cell? ⟨b1, o1 + q * 3 + 1, none⟩ = some (.int .i64 x.ballot) := by have := hcc1 1 _ rfl; rwa [← Nat.add_assoc] at this
              have hc2 : wr.cell? ⟨b1, o1 + q * 3 + 2, none⟩ = some bv := by have := hcc1 2 _ rfl; rwa [← Nat.add_assoc] at this
              have hmore := take_more (pre := pre) hx
              obtain ⟨xs, xb, xv⟩ := x
              obtain ⟨ok1, ok2, ok3, ok4, ok5⟩ := Hokl.out _ (List.mem_of_getElem? hx)
              simp only at hc0 hc1 hbv ok1 ok2 ok3 ok4 ok5
              obtain ⟨Av, cv, rfl⟩ := slice_shape hbv
              have hb1r : b1 < wr.heap.size := Nat.lt_of_lt_of_le (hS _ hb1S) hbw.size
              have hmo := moreAt_snoc f s (pre ++ l.take q) ⟨xs, xb, xv⟩
              have hbs := bestAt_snoc s (pre ++ l.take q) ⟨xs, xb, xv⟩
              rw [← hmore] at hmo hbs
              simp only at hmo
              unfold bestStep at hbs
              simp only at hbs
              generalize moreAt f s (pre ++ l.take q) = m at *
              generalize bestAt s (pre ++ l.take q) = o at *
              obtain ⟨A0, c0, Sb, hbk, hbby, hbSb⟩ := hbm
              have hT : wA.heap.size < wr.heap.size := hbk.lt
              have hd1 : wr.cell? ⟨wA.heap.size, 1, none⟩ = some (.int .i64 (outOf s o).ballot) := hbk.cell 1
              have Hbm : Hid (BestMem wA.heap.size s o wr) := ⟨A0, c0, Sb, hbk, hbby, hbSb⟩
              have Hbb := Lib.hid hbb
              have Hbv := Lib.hid hbv
              have Hmo := Lib.hid hmo
              have Hbs := Lib.hid hbs
              have Hbk := Lib.hid hbk
              have hrelV := Lib.hid (Hbm.out.below ((Below.refl _ _).alloc (Nat.le_refl _) (.cells #[.int .i64 xs, .int .i64 xb, .slice Av xv.length cv] 24)))
              have hbbV := Lib.hid (Hbb.out.alloc Hbb.out.size (.cells #[.int .i64 xs, .int .i64 xb, .slice Av xv.length cv] 24))
              clear hbb hbv hmo hbs hcc1 hl3 hx hbw hb1S hmore hbk hbby hbSb
              by_cases hxs : xs = s
              · have e1 : (xs == s) = true := by rw [beq_iff_eq]; exact hxs
                have h1 : s ≤ xs := by omega
                have hs2' : xs < f + 16 := by omega
                have hlit := World.ownsRow_lit (base := wr.heap.size) (e := 5) (size := 1) (wr.alloc (.cells #[.int .i64 xs, .int .i64 xb, .slice Av xv.length cv] 24)) #[] 0 (by simp) (by unfold maxLen; omega) rfl
                rw [World.size_alloc] at hlit
                have hsrc := bytes_src (SliceOf.below (S' := S) RByte.kept Hbv.out (((Below.refl wr.heap.size wr).alloc (Nat.le_refl _) (.cells #[.int .i64 xs, .int .i64 xb, .slice Av xv.length cv] 24)).alloc (by simp) (.cells #[] 5)) (fun k hk => by have := hS k hk; have := Hbb.out.size; omega) (fun _ g => g))
                have Hlit := Lib.hid hlit
                have Hsrc := Lib.hid hsrc
                have Hxs := Lib.hid hxs
                clear hxs hlit hsrc
                cases o with
                | none =>
                  cases m
                  all_goals
                    go_wp2_with fail
                    go_region_law (refine step_append_src rfl _ _ 22 rfl wr.heap.size 5 (.int .u8 0) 1 1 Try.underlying22 byte_info rfl (by omega) (.slice (some ⟨wr.heap.size + 1, 0, none⟩) 0 0) 0 [] rfl (by exact Hlit.out) Av xv.length cv (xv.map byteV) rfl (by simp) (by exact Hsrc.out) (bytes_one xv) (by omega) (by omega) (by simp; omega) ?_; intro v2 w2 hown2 hg2 hat2; simp only [Nat.zero_add, List.nil_append] at hown2; obtain ⟨A2, c2, rfl⟩ := own_shape hown2; have hb2 : Below wr.heap.size wr w2 := ref_below hg2; have hV := ref_var hg2; have hV1 := hV.1; have hV2 := hV.2; clear hV; have hT0 := (hb2.cell (p := ⟨wA.heap.size, 0, none⟩) hT).trans (Hbk.out.cell 0); have hT1 := (hb2.cell (p := ⟨wA.heap.size, 1, none⟩) hT).trans (Hbk.out.cell 1); have hT2 := (hb2.cell (p := ⟨wA.heap.size, 2, none⟩) hT).trans (Hbk.out.cell 2); have hF0 := (hb2.frozen (p := ⟨wA.heap.size, 0, none⟩) hT).trans (Hbk.out.frozen 0); have hF1 := (hb2.frozen (p := ⟨wA.heap.size, 1, none⟩) hT).trans (Hbk.out.frozen 1); have hF2 := (hb2.frozen (p := ⟨wA.heap.size, 2, none⟩) hT).trans (Hbk.out.frozen 2); have hput := BestMem.put (xs := xs) (xb := xb) Hbm.out hb2 hown2; have hbb2 := ((((Hbb.out.trans (hb2.mono Hbb.out.size)).setCell (p := ⟨wA.heap.size, 0, none⟩) (Nat.le_refl _) (.int .i64 s)).setCell (p := ⟨wA.heap.size, 1, none⟩) (Nat.le_refl _) (.int .i64 xb)).setCell (p := ⟨wA.heap.size, 2, none⟩) (Nat.le_refl _) (.slice A2 xv.length c2)); have Hput := Lib.hid hput; have Hbb2 := Lib.hid hbb2; clear hown2 hg2 hat2 hb2 hput hbb2)
                    all_goals
                      go_wp2_with fail
                      go_roundw
                      case rel => exact ⟨q + 1, by omega, by go_num, by rw [Hmo.out]; simp [h1, hs2'], by rw [Hbs.out, if_pos Hxs.out]; rw [better_none]; rfl, by rw [Hbs.out, if_pos Hxs.out, (better_none _)]; exact Hput.out, Hbb2.out⟩
                      case measure => simp [intOf]; omega
                | some b =>
                  by_cases hlt2 : b.ballot < xb
                  · have Hlt := Lib.hid hlt2
                    have hlt3 : (outOf s (some b)).ballot < xb := hlt2
                    clear hlt2
                    cases m
                    all_goals
                      go_wp2_with fail
                      go_region_law (refine step_append_src rfl _ _ 22 rfl wr.heap.size 5 (.int .u8 0) 1 1 Try.underlying22 byte_info rfl (by omega) (.slice (some ⟨wr.heap.size + 1, 0, none⟩) 0 0) 0 [] rfl (by exact Hlit.out) Av xv.length cv (xv.map byteV) rfl (by simp) (by exact Hsrc.out) (bytes_one xv) (by omega) (by omega) (by simp; omega) ?_; intro v2 w2 hown2 hg2 hat2; simp only [Nat.zero_add, List.nil_append] at hown2; obtain ⟨A2, c2, rfl⟩ := own_shape hown2; have hb2 : Below wr.heap.size wr w2 := ref_below hg2; have hV := ref_var hg2; have hV1 := hV.1; have hV2 := hV.2; clear hV; have hT0 := (hb2.cell (p := ⟨wA.heap.size, 0, none⟩) hT).trans (Hbk.out.cell 0); have hT1 := (hb2.cell (p := ⟨wA.heap.size, 1, none⟩) hT).trans (Hbk.out.cell 1); have hT2 := (hb2.cell (p := ⟨wA.heap.size, 2, none⟩) hT).trans (Hbk.out.cell 2); have hF0 := (hb2.frozen (p := ⟨wA.heap.size, 0, none⟩) hT).trans (Hbk.out.frozen 0); have hF1 := (hb2.frozen (p := ⟨wA.heap.size, 1, none⟩) hT).trans (Hbk.out.frozen 1); have hF2 := (hb2.frozen (p := ⟨wA.heap.size, 2, none⟩) hT).trans (Hbk.out.frozen 2); have hput := BestMem.put (xs := xs) (xb := xb) Hbm.out hb2 hown2; have hbb2 := ((((Hbb.out.trans (hb2.mono Hbb.out.size)).setCell (p := ⟨wA.heap.size, 0, none⟩) (Nat.le_refl _) (.int .i64 s)).setCell (p := ⟨wA.heap.size, 1, none⟩) (Nat.le_refl _) (.int .i64 xb)).setCell (p := ⟨wA.heap.size, 2, none⟩) (Nat.le_refl _) (.slice A2 xv.length c2)); have Hput := Lib.hid hput; have Hbb2 := Lib.hid hbb2; clear hown2 hg2 hat2 hb2 hput hbb2)
                      all_goals
                        go_wp2_with fail
                        go_roundw
                        case rel => exact ⟨q + 1, by omega, by go_num, by rw [Hmo.out]; simp [h1, hs2'], by rw [Hbs.out, if_pos Hxs.out]; rw [better_some_lt Hlt.out]; rfl, by rw [Hbs.out, if_pos Hxs.out, (better_some_lt Hlt.out)]; exact Hput.out, Hbb2.out⟩
                        case measure => simp [intOf]; omega
                  · have Hlt := Lib.hid hlt2
                    have hlt3 : ¬ (outOf s (some b)).ballot < xb := hlt2
                    clear hlt2
                    cases m
                    all_goals
                      go_wp2_with fail
                      go_roundw
                      case rel => exact ⟨q + 1, by omega, by go_num, by rw [Hmo.out]; simp [h1, hs2'], by rw [Hbs.out, if_pos Hxs.out, better_some_ge Hlt.out], by rw [Hbs.out, if_pos Hxs.out, better_some_ge Hlt.out]; exact hrelV.out, hbbV.out⟩
                      case measure => simp [intOf]; omega
              · have e1 : (xs == s) = false := by rw [beq_eq_false_iff_ne]; exact hxs
                have Hxs := Lib.hid hxs
                clear hxs
                cases m with
                | true =>
                  go_wp2_with fail
                  go_roundw
                  case rel => exact ⟨q + 1, by omega, by go_num, by rw [Hmo.out]; rfl, by rw [Hbs.out, if_neg Hxs.out], by rw [Hbs.out, if_neg Hxs.out]; exact hrelV.out, hbbV.out⟩
                  case measure => simp [intOf]; omega
                | false =>
                  by_cases h1 : s ≤ xs
                  · by_cases h2 : xs < f + 16
                    · go_wp2_with fail
                      go_roundw
                      case rel => exact ⟨q + 1, by omega, by go_num, by rw [Hmo.out]; simp [h1, h2], by rw [Hbs.out, if_neg Hxs.out], by rw [Hbs.out, if_neg Hxs.out]; exact hrelV.out, hbbV.out⟩
                      case measure => simp [intOf]; omega
                    · go_wp2_with fail
                      go_roundw
                      case rel => exact ⟨q + 1, by omega, by go_num, by rw [Hmo.out]; simp [h1, h2], by rw [Hbs.out, if_neg Hxs.out], by rw [Hbs.out, if_neg Hxs.out]; exact hrelV.out, hbbV.out⟩
                      case measure => simp [intOf]; omega
                  · go_wp2_with fail
                    go_roundw
                    case rel => exact ⟨q + 1, by omega, by go_num, by rw [Hmo.out]; simp [h1], by rw [Hbs.out, if_neg Hxs.out], by rw [Hbs.out, if_neg Hxs.out]; exact hrelV.out, hbbV.out⟩
                    case measure => simp [intOf]; omega
            · have hql' : l.take q = l := List.take_of_length_le (by omega)
              rw [hql', ← Hfm.out] at hbm
              rw [hql', ← Hfm.out]
              have Hbm := Lib.hid hbm
              have Hbb := Lib.hid hbb
              clear hbm hbb hql'
              go_wp2_with fail
              go_roundw
              case rel => exact ⟨k + 1, by omega, by go_num, rfl, rfl, Hbm.out, Hbb.out⟩
              case measure => simp [intOf]; omega
        · have hkl : ls.take k = ls := List.take_of_length_le (by omega)
          rw [hkl] at hbm
          rw [hkl, Hs.out, more_iff f ls.flatten i]
          rw [Hs.out] at hbm
          have Hbb := Lib.hid hbb
          obtain ⟨A0, c0, Sb, hbk, hbby, hbSb⟩ := hbm
          have hzB := hbb.size
          have hd0 : wr.cell? ⟨wA.heap.size, 0, none⟩ = some (.int .i64 (f + i)) := hbk.cell 0
          have hd1 : wr.cell? ⟨wA.heap.size, 1, none⟩ = some (.int .i64 (outOf (f + i) (bestAt (f + i) ls.flatten)).ballot) := hbk.cell 1
          have hd2 : wr.cell? ⟨wA.heap.size, 2, none⟩ = some (.slice A0 (outOf (f + i) (bestAt (f + i) ls.flatten)).v.length c0) := hbk.cell 2
          by_cases hmw : i < width f ls.flatten
          · have e1 : decide (i < width f ls.flatten) = true := decide_eq_true hmw
            rw [e1]
            obtain ⟨S0, css, g1, g2, g3, g4, g6⟩ := Hm.out
            rw [firsts_length] at g1
            obtain ⟨Ao, co, rfl⟩ := own_shape g1
            have G1 := Lib.hid (own_below g1 hbb)
            have Hpush := Lib.hid (fun v2 w2 => @OutMem.push w wA wr w2 (firsts f ls.flatten i) (.slice Ao i co) v2 (f + i) (bestAt (f + i) ls.flatten) A0 c0 Sb S0 css (by rw [firsts_length]; exact g1) g2 g3 g4 g6 hbb hbby hbSb)
            have Hmw := Lib.hid hmw
            have hzw : w.heap.size ≤ wr.heap.size := Nat.le_trans hzA hzB
            clear g1 g2 g3 g4 g6 hbby hbSb hbk hbb hmw e1 hkl
            generalize ho : bestAt (f + i) ls.flatten = o at *
            have Ho := Lib.hid ho
            clear ho
            go_wp2_with (at_builtin; refine wpList_append_src rfl _ _ 25 rfl w.heap.size 24 (.agg #[.int .i64 0, .int .i64 0, .slice none 0 0]) 3 40 Try.underlying25 vote_info rfl (by omega) (.slice Ao i co) i css.flatten rfl (G1.out.alloc _) (some ⟨wr.heap.size, 0, none⟩) 1 1 [.int .i64 (f + i), .int .i64 (outOf (f + i) o).ballot, .slice A0 (outOf (f + i) o).v.length c0] rfl rfl (fun _ => ⟨wr.heap.size, 0, rfl, fun j u hj => by have := World.news_of_block (w := wr.alloc _) (heap_alloc_new wr (.cells #[.int .i64 (f + i), .int .i64 (outOf (f + i) o).ballot, .slice A0 (outOf (f + i) o).v.length c0] 24)) j u hj; rwa [WideShapes.add_plain] at this⟩) (by intro u hu; simp at hu; rcases hu with rfl | rfl | rfl <;> rfl) (by omega) (by omega) (by simp; omega) ?_; intro v2 w2 hown2 hg2 hat2)
            have hp2 := Hpush.out v2 w2 (by rw [firsts_length]; exact hown2) hg2 hat2
            have Hp2 := Lib.hid hp2
            clear hp2 hown2 hg2 hat2
            go_wp2_with fail
            go_roundw
            case rel => exact ⟨i + 1, by omega, Hmw.out, by go_num, by rw [firsts_succ]; unfold outAt; rw [Ho.out]; exact Hp2.out⟩
            case measure => have := Hs.out; simp [intOf]; omega
          · have e1 : decide (i < width f ls.flatten) = false := decide_eq_false hmw
            rw [e1]
            have hiw' : i = width f ls.flatten := by omega
            have hend := Lib.hid (OutMem.done (OutMem.below Hm.out hbb) hiw' (by omega))
            clear hmw hiw' hbk hbb hbby hbSb e1 hkl
            go_wp2_with fail
            go_ret
            exact hend.out
    · have hiw' : i = width f ls.flatten := by have := width_le f ls.flatten; omega
      have hend := Lib.hid (OutMem.done hm hiw' (by omega))
      clear hm hiw'
      go_wp2_with fail
      go_ret
      exact hend.out
end Go.Proofs.Ytpnecbhbdfdijaa
