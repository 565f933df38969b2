/- The walk of the statement PickAll: it returns true. -/
import Derived.Test.YtpnecbhbdfdijaaPickTellsP
import Derived.Test.YtpnecbhbdfdijaaPickPlain2
namespace Go.Proofs.Ytpnecbhbdfdijaa
open Go.RowKit

theorem anyAt_more {s : Int} {pre l : List VoteT} {q : Nat} {x : VoteT} (h : l[q]? = some x) : anyAt s (pre ++ l.take (q + 1)) = (anyAt s (pre ++ l.take q) || decide (x.slot = s)) := by rw [take_more h, anyAt_snoc]
theorem foundIn_more {s : Int} {o : VoteT} {pre l : List VoteT} {q : Nat} {x : VoteT} (h : l[q]? = some x) : foundIn s o (pre ++ l.take (q + 1)) = (foundIn s o (pre ++ l.take q) || decide (x.slot = s ∧ x.ballot = o.ballot ∧ x.v = o.v)) := by rw [take_more h, foundIn_snoc]
theorem str_ne {a b : List UInt8} (h : a ≠ b) : (⟨a.toArray⟩ : ByteArray) ≠ ⟨b.toArray⟩ := by
  intro e
  injection e with e
  exact h (by simpa using congrArg Array.toList e)

set_option maxRecDepth 100000 in
set_option maxHeartbeats 2000000 in
theorem all_any (a : Int) (v : Value) (d : List (List VoteT)) (w : World) (ha1 : -9223372036854775808 ≤ a) (ha2 : a ≤ 9223372036854775807) (h : SliceOf RDraws 1 w (fun k => k < w.heap.size) v d) : Calls Try.prog 6 #[.int .i64 a, v] w (SameEnd w) := by
  have H := Lib.hid h
  have Hd := Lib.hid (draws_ok h)
  obtain ⟨A, cap, rfl⟩ := slice_shape h
  clear h
  go_enter Try.func6, Try.ntmps6
  go_wp2_with fail
  refine (within_any a 0 1000 _ ha1 ha2 (by omega) (by omega) (by omega)).mono ?_
  rintro e w' ⟨rfl, rfl⟩
  have hbd := within_bd a 0 1000 (by omega)
  generalize within a 0 1000 = f at *
  obtain ⟨hf, hf2⟩ := hbd
  obtain ⟨ok1, ok2⟩ := votes_ok f d hf (by omega) Hd.out
  have O1 := Lib.hid ok1
  have O2 := Lib.hid ok2
  clear ok1 ok2
  go_wp2_with fail
  refine (lists_any f _ d _ hf (by omega) H.out).mono ?_
  rintro e w0 ⟨ov, vs, rfl, hrow, b0⟩
  have l0 := hrow.slice b0.size
  generalize votesOf f d = ls at *
  obtain ⟨Ao, co, rfl⟩ := slice_shape l0
  have L0 := Lib.hid l0
  have B0 := Lib.hid b0
  clear l0 b0 hrow H
  go_wp2_with fail
  refine (choose_all f _ ls _ _ (by omega) L0.out (fun _ h => h) O1.out O2.out).mono ?_
  rintro e w1 ⟨v1, rfl, h1, b1⟩
  have l1 := SliceOf.below (S' := fun k => k < w1.heap.size) RVotes.kept L0.out b1 (fun k h => h) (fun k h => Nat.lt_of_lt_of_le h b1.size)
  have hmax : ls.length ≤ 9223372036854775807 := by obtain ⟨_, _, _, h1, h2, _⟩ := l1; unfold maxLen at h2; omega
  have bw1 := B0.out.trans (b1.mono B0.out.size)
  have hlen := choose_len f ls hf
  have hw16 : (choose f ls).length ≤ 16 := by rw [hlen]; exact width_le f ls.flatten
  have hat : ∀ (i : Nat) (x : VoteT), (choose f ls)[i]? = some x → x = outOf (f + i) (bestAt (f + i) ls.flatten) := fun i x hx => by
    have hi := (List.getElem?_eq_some_iff.1 hx).1
    rw [hlen] at hi
    rw [choose_at f ls hf hi] at hx
    exact (Option.some.inj hx).symm
  have hlast : ∀ i : Nat, (choose f ls).length = i + 1 → (bestAt (f + i) ls.flatten).isSome = true := fun i hi => last_any f ls.flatten i (by rw [← hlen]; exact hi)
  clear hlen
  generalize choose f ls = out at *
  obtain ⟨A1, c1, rfl⟩ := slice_shape h1
  have H1 := Lib.hid h1
  have L1 := Lib.hid l1
  have BW1 := Lib.hid bw1
  have Hat := Lib.hid hat
  have Hlast := Lib.hid hlast
  clear h1 b1 l1 bw1 L0 B0 hat hlast
  go_wp2_with fail
  go_loopw [8] (fun i wr => ∃ i' : Nat, i' ≤ out.length ∧ i = .int .i64 i' ∧ ∃ m, wr = w1.drewN m) (fun i _ => out.length - (intOf i).toNat)
  case atStart => exact ⟨0, Nat.zero_le _, rfl, 0, rfl⟩
  case round =>
    obtain ⟨i, hi, rfl, m, rfl⟩ := hrel
    by_cases hlt : i < out.length
    · obtain ⟨o, ho⟩ : ∃ o, out[i]? = some o := ⟨out[i], List.getElem?_eq_getElem hlt⟩
      obtain ⟨b2, o2, rfl, _, cs2, ⟨yv, rfl, hyv⟩, _, hc2⟩ := H1.out.at ho
      have ho2 := Hat.out i o ho
      obtain ⟨s, hs⟩ : ∃ s : Int, f + i = s := ⟨_, rfl⟩
      rw [hs] at ho2
      have hos : o.slot = s := by rw [ho2, outOf_slot]
      have htop : ∀ x ∈ ls.flatten, x.slot = s → x.ballot ≤ o.ballot := fun x hx e => by rw [ho2]; exact best_tops s ls.flatten x hx e
      have hany := anyAt_best s ls.flatten
      have hfnd : foundIn s o ls.flatten = (bestAt s ls.flatten).isSome := by rw [ho2]; exact foundIn_best s ls.flatten
      have hnone : (bestAt s ls.flatten).isSome = false → o.ballot = -1 ∧ o.v = [] ∧ ¬ i + 1 = out.length := fun e => by
        refine ⟨?_, ?_, fun e2 => ?_⟩
        · rw [ho2]; cases hb : bestAt s ls.flatten with
          | none => rfl
          | some b => rw [hb] at e; cases e
        · rw [ho2]; cases hb : bestAt s ls.flatten with
          | none => rfl
          | some b => rw [hb] at e; cases e
        · have := Hlast.out i e2.symm; rw [hs, e] at this; cases this
      have Ho := Lib.hid ho
      clear ho ho2
      obtain ⟨os, ob, oy⟩ := o
      simp only at hos htop hyv hc2
      subst hos
      have d0 : w1.cell? ⟨b2, o2 + i * 3, none⟩ = some (.int .i64 os) := by simpa using hc2 0 _ rfl
      have d1 : w1.cell? ⟨b2, o2 + i * 3 + 1, none⟩ = some (.int .i64 ob) := by have := hc2 1 _ rfl; rwa [← Nat.add_assoc] at this
      have d2 : w1.cell? ⟨b2, o2 + i * 3 + 2, none⟩ = some yv := by have := hc2 2 _ rfl; rwa [← Nat.add_assoc] at this
      obtain ⟨Ay, cy, rfl⟩ := slice_shape hyv
      have ky : ∀ n, (convert 22 9 (.slice Ay oy.length cy)).run Try.prog (w1.drewN n) = .ok (.string ⟨oy.toArray⟩) (w1.drewN n) := fun n => conv_bytes hyv Try.underlying22 Try.underlying5 Try.underlying9 (fun _ _ => rfl)
      have Ky := Lib.hid ky
      have Htop := Lib.hid htop
      have Hany := Lib.hid hany
      have Hfnd := Lib.hid hfnd
      have Hnone := Lib.hid hnone
      have Hs := Lib.hid hs
      have hs1 : (0 : Int) ≤ f + i := by omega
      clear hyv hc2 ky htop hany hfnd hnone hs
      go_wp2_with fail
      go_loopw [9, 10, 11] (fun fo an k wr => ∃ k' : Nat, k' ≤ ls.length ∧ k = .int .i64 k' ∧ fo = .bool (foundIn os ⟨os, ob, oy⟩ (ls.take k').flatten) ∧ an = .bool (anyAt os (ls.take k').flatten) ∧ ∃ m, wr = w1.drewN m) (fun _ _ k _ => ls.length - (intOf k).toNat)
      case atStart => exact ⟨0, Nat.zero_le _, rfl, rfl, rfl, m, rfl⟩
      case round =>
        obtain ⟨k, hk, rfl, rfl, rfl, m2, rfl⟩ := hrel
        by_cases hkl : k < ls.length
        · obtain ⟨l, hl⟩ : ∃ l, ls[k]? = some l := ⟨ls[k], List.getElem?_eq_getElem hkl⟩
          obtain ⟨bl, ol, rfl, hblS, cs, ⟨lv, rfl, hlv⟩, hl1, hcc⟩ := L1.out.at hl
          have hcell : w1.cell? ⟨bl, ol + k, none⟩ = some lv := by have := hcc 0 _ rfl; simpa using this
          obtain ⟨Al, cl, rfl⟩ := slice_shape hlv
          have hlm : l.length ≤ 1000000000 := O2.out l (List.mem_of_getElem? hl)
          have hfm := flat_more hl
          have hmem : ∀ x ∈ l, x ∈ ls.flatten := fun x hx => List.mem_flatten.2 ⟨l, List.mem_of_getElem? hl, hx⟩
          generalize (ls.take k).flatten = pre at *
          have Hlv := Lib.hid hlv
          have Hfm := Lib.hid hfm
          have Hmem := Lib.hid hmem
          clear hlv hfm hmem hcc hl1 hl hblS
          go_wp2_with fail
          go_loopw [9, 10, 12] (fun fo an q wr => ∃ q' : Nat, q' ≤ l.length ∧ q = .int .i64 q' ∧ fo = .bool (foundIn os ⟨os, ob, oy⟩ (pre ++ l.take q')) ∧ an = .bool (anyAt os (pre ++ l.take q')) ∧ ∃ m, wr = w1.drewN m) (fun _ _ q _ => l.length - (intOf q).toNat)
          case atStart => exact ⟨0, Nat.zero_le _, rfl, by simp, by simp, m2, rfl⟩
          case round =>
            obtain ⟨q, hq, rfl, rfl, rfl, m3, rfl⟩ := hrel
            by_cases hql : q < l.length
            · obtain ⟨x, hx⟩ : ∃ x, l[q]? = some x := ⟨l[q], List.getElem?_eq_getElem hql⟩
              obtain ⟨b1, o1, rfl, hb1S, cs1, ⟨bv, rfl, hbv⟩, hl3, hcc1⟩ := Hlv.out.at hx
              have hc0 : w1.cell? ⟨b1, o1 + q * 3, none⟩ = some (.int .i64 x.slot) := by simpa using hcc1 0 _ rfl
              have hc1 : w1.cell? ⟨b1, o1 + q * 3 + 1, none⟩ = some (.int .i64 x.ballot) := by have := hcc1 1 _ rfl; rwa [← Nat.add_assoc] at this
              have hc2 : w1.cell? ⟨b1, o1 + q * 3 + 2, none⟩ = some bv := by have := hcc1 2 _ rfl; rwa [← Nat.add_assoc] at this
              have ha := anyAt_more (s := os) (pre := pre) hx
              have hfo := foundIn_more (s := os) (o := ⟨os, ob, oy⟩) (pre := pre) hx
              have hxt := fun e => Htop.out x (Hmem.out x (List.mem_of_getElem? hx)) e
              obtain ⟨xs, xb, xv⟩ := x
              simp only at hc0 hc1 hbv ha hfo hxt
              obtain ⟨Av, cv, rfl⟩ := slice_shape hbv
              have kx : ∀ n, (convert 22 9 (.slice Av xv.length cv)).run Try.prog (w1.drewN n) = .ok (.string ⟨xv.toArray⟩) (w1.drewN n) := fun n => conv_bytes hbv Try.underlying22 Try.underlying5 Try.underlying9 (fun _ _ => rfl)
              generalize anyAt os (pre ++ l.take q) = an at *
              generalize foundIn os ⟨os, ob, oy⟩ (pre ++ l.take q) = fo at *
              have Ha := Lib.hid ha
              have Hfo := Lib.hid hfo
              have ky := Ky.out
              clear hbv hcc1 hl3 hx hb1S ha hfo
              by_cases hxs : xs = os
              · have hxt := hxt hxs
                have e1 : (xs != f + (i : Int)) = false := by rw [Hs.out]; simp [hxs]
                have g1 : ¬ xb > ob := by omega
                have Hxs := Lib.hid hxs
                clear hxs
                cases fo with
                | true =>
                  clear kx ky
                  go_wp2_with fail
                  go_quiet (fail)
                  go_wp2_with fail
                  go_quiet (fail)
                  go_wp2_with fail
                  go_roundw
                  case rel => exact ⟨q + 1, by omega, by go_num, by rw [Hfo.out]; simp, by rw [Ha.out]; simp [Hxs.out], _, rfl⟩
                  case measure => simp [intOf]; omega
                | false =>
                  by_cases hb : xb = ob
                  · have e2 : (xb == ob) = true := by rw [beq_iff_eq]; exact hb
                    have Hb := Lib.hid hb
                    clear hb
                    by_cases hv : xv = oy
                    · have kx' := kx
                      rw [hv] at kx'
                      have Hv := Lib.hid hv
                      clear hv
                      go_wp2_with fail
                      go_quiet (fail)
                      go_wp2_with fail
                      go_quiet (fail)
                      go_wp2_with fail
                      go_roundw
                      case rel => exact ⟨q + 1, by omega, by go_num, by rw [Hfo.out]; simp [Hxs.out, Hb.out, Hv.out], by rw [Ha.out]; simp [Hxs.out], _, rfl⟩
                      case measure => simp [intOf]; omega
                    · have e3 := str_ne hv
                      have Hv := Lib.hid hv
                      clear hv
                      go_wp2_with fail
                      go_quiet (fail)
                      go_wp2_with fail
                      go_quiet (fail)
                      go_wp2_with fail
                      go_roundw
                      case rel => exact ⟨q + 1, by omega, by go_num, by rw [Hfo.out]; simp [Hxs.out, Hb.out, Hv.out], by rw [Ha.out]; simp [Hxs.out], _, rfl⟩
                      case measure => simp [intOf]; omega
                  · have e2 : (xb == ob) = false := by rw [beq_eq_false_iff_ne]; exact hb
                    have Hb := Lib.hid hb
                    clear hb kx ky
                    go_wp2_with fail
                    go_quiet (fail)
                    go_wp2_with fail
                    go_quiet (fail)
                    go_wp2_with fail
                    go_roundw
                    case rel => exact ⟨q + 1, by omega, by go_num, by rw [Hfo.out]; simp [Hxs.out, Hb.out], by rw [Ha.out]; simp [Hxs.out], _, rfl⟩
                    case measure => simp [intOf]; omega
              · have e1 : (xs != f + (i : Int)) = true := by rw [Hs.out]; simp [hxs]
                have Hxs := Lib.hid hxs
                clear hxs hxt
                go_wp2_with fail
                go_roundw
                case rel => exact ⟨q + 1, by omega, by go_num, by rw [Hfo.out]; simp [Hxs.out], by rw [Ha.out]; simp [Hxs.out], _, rfl⟩
                case measure => simp [intOf]; omega
            · have hql' : l.take q = l := List.take_of_length_le (by omega)
              rw [hql', ← Hfm.out]
              clear hql'
              go_wp2_with fail
              go_roundw
              case rel => exact ⟨k + 1, by omega, by go_num, rfl, rfl, _, rfl⟩
              case measure => simp [intOf]; omega
        · have hkl' : ls.take k = ls := List.take_of_length_le (by omega)
          rw [hkl', Hany.out, Hfnd.out]
          clear hkl'
          have hnone := Hnone.out
          generalize (bestAt os ls.flatten).isSome = bs at *
          cases bs with
          | true =>
            have e0 : (os != f + (i : Int)) = false := by rw [Hs.out]; simp
            clear hnone Hnone Hany Hfnd
            go_wp2_with fail
            all_goals
              go_roundw
              case rel => exact ⟨i + 1, by omega, by go_num, _, rfl⟩
              case measure => simp [intOf]; omega
          | false =>
            obtain ⟨n1, n2, n3⟩ := hnone rfl
            have e0 : (os != f + (i : Int)) = false := by rw [Hs.out]; simp
            have n4 : ¬ ((i : Int) + 1 = out.length) := by omega
            have n5 : ((i : Int) + 1 == out.length) = false := by rw [beq_eq_false_iff_ne]; exact n4
            subst n1
            subst n2
            clear hnone Hnone Hany Hfnd n3
            go_wp2_with fail
            all_goals
              go_roundw
              case rel => exact ⟨i + 1, by omega, by go_num, _, rfl⟩
              case measure => simp [intOf]; omega
    · go_wp2_with fail
      refine (known_any _).mono ?_
      rintro e w7 ⟨rfl, b7⟩
      have hb := below_drewN BW1.out m
      have hend := Lib.hid (hb.trans (b7.mono hb.size))
      clear b7 hb
      go_wp2_with fail
      go_ret
      exact ⟨rfl, hend.out⟩
end Go.Proofs.Ytpnecbhbdfdijaa
