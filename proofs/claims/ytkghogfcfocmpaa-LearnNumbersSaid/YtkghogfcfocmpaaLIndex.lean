/- The contract of slices.IndexFunc at a learner's tallies, with the test that Take hands it. -/
import Derived.Test.YtkghogfcfocmpaaLFind
namespace Go.Proofs.Ytkghogfcfocmpaa
open Go.RowKit

theorem below_drewN {B : Nat} {w w' : World} (h : Below B w w') (n : Nat) : Below B w (w'.drewN n) := by
  induction n with
  | zero => exact h
  | succ n ih => exact Below.drew ih
def isAt (s b : Int) (t : TallyT) : Bool := decide (t.slot = s ∧ t.b = b)
set_option maxHeartbeats 1000000 in
theorem test_any (w : World) (p c1 c2 : Nat) (ts tb s b : Int) (h0 : w.cell? ⟨p, 0, none⟩ = some (.int .i64 ts)) (h1 : w.cell? ⟨p, 1, none⟩ = some (.int .i64 tb)) (k1 : w.cell? ⟨c1, 0, none⟩ = some (.int .i64 s)) (k2 : w.cell? ⟨c2, 0, none⟩ = some (.int .i64 b)) :
    Calls Try.prog 18 #[.pointer (some ⟨p, 0, none⟩), .pointer (some ⟨c1, 0, none⟩), .pointer (some ⟨c2, 0, none⟩)] w fun e w' => e = .returned (.bool (decide (ts = s ∧ tb = b))) ∧ ∃ n, w' = w.drewN n := by
  by_cases hs : ts = s
  · have e1 : (ts == s) = true := by rw [beq_iff_eq]; exact hs
    by_cases hb : tb = b
    · have e2 : (tb == b) = true := by rw [beq_iff_eq]; exact hb
      have hr : decide (ts = s ∧ tb = b) = true := decide_eq_true ⟨hs, hb⟩
      rw [hr]
      clear hs hb hr
      go_enter Try.func18, Try.ntmps18
      go_wp2_with fail
      go_quiet (fail)
      go_wp2_with fail
      go_ret
      exact ⟨rfl, _, rfl⟩
    · have e2 : (tb == b) = false := by rw [beq_eq_false_iff_ne]; exact hb
      have hr : decide (ts = s ∧ tb = b) = false := decide_eq_false (fun h => hb h.2)
      rw [hr]
      clear hs hb hr
      go_enter Try.func18, Try.ntmps18
      go_wp2_with fail
      go_quiet (fail)
      go_wp2_with fail
      go_ret
      exact ⟨rfl, _, rfl⟩
  · have e1 : (ts == s) = false := by rw [beq_eq_false_iff_ne]; exact hs
    have hr : decide (ts = s ∧ tb = b) = false := decide_eq_false (fun h => hs h.1)
    rw [hr]
    clear hs hr
    go_enter Try.func18, Try.ntmps18
    go_wp2_with fail
    go_quiet (fail)
    go_wp2_with fail
    go_ret
    exact ⟨rfl, _, rfl⟩
/-- Where the first one is. -/
def firstAt (s b : Int) (ts : List TallyT) : Option Nat := ts.findIdx? (isAt s b)
def idxV (o : Option Nat) : Int := match o with | none => -1 | some i => i
theorem firstAt_hit {s b : Int} : ∀ {ts : List TallyT} {k : Nat} {t : TallyT}, (∀ u ∈ ts.take k, isAt s b u = false) → ts[k]? = some t → isAt s b t = true → firstAt s b ts = some k
  | [], k, x, _, h, _ => by simp at h
  | a :: r, 0, x, _, h, hx => by simp at h; subst h; unfold firstAt; simp [List.findIdx?_cons, hx]
  | a :: r, k + 1, x, h1, h, hx => by
    have ha := h1 a (by simp)
    have := firstAt_hit (ts := r) (fun y hy => h1 y (by rw [List.take_succ_cons]; exact List.mem_cons_of_mem _ hy)) (by simpa using h) hx
    unfold firstAt at this ⊢
    simp [List.findIdx?_cons, ha, this]
theorem firstAt_none {s b : Int} {ts : List TallyT} (h : ∀ u ∈ ts, isAt s b u = false) : firstAt s b ts = none := by
  unfold firstAt
  rw [List.findIdx?_eq_none_iff]
  exact h
set_option maxHeartbeats 1000000 in
theorem index_func {w : World} {base : Nat} {tag : Nat → Nat} {D : Nat} {n low : Int} {ts : List TallyT} {ds : List Nat} {lv dv : Value} (c1 c2 : Nat) (s b : Int) (h : LearnAt w base tag D n low ts ds lv dv) (hl : ts.length ≤ 1000000000) (k1 : w.cell? ⟨c1, 0, none⟩ = some (.int .i64 s)) (k2 : w.cell? ⟨c2, 0, none⟩ = some (.int .i64 b)) :
    Calls Try.prog 17 #[lv, .func (.func 18) #[] #[.pointer (some ⟨c1, 0, none⟩), .pointer (some ⟨c2, 0, none⟩)]] w fun e w' => e = .returned (.int .i64 (idxV (firstAt s b ts))) ∧ ∃ q, w' = w.drewN q := by
  obtain ⟨A, c, rfl⟩ := own_shape h.lrow
  have H := Lib.hid h
  clear h
  go_enter Try.func17, Try.ntmps17
  go_wp2_with fail
  go_loopw [8] (fun i wr => ∃ k : Nat, k ≤ ts.length ∧ i = .int .i64 k ∧ Hid (∀ u ∈ ts.take k, isAt s b u = false) ∧ ∃ q, wr = w.drewN q) (fun i _ => ts.length - (intOf i).toNat)
  case atStart => exact ⟨0, Nat.zero_le _, rfl, Lib.hid (by simp), 0, rfl⟩
  case round =>
    obtain ⟨k, hk, rfl, hx, q, rfl⟩ := hrel
    by_cases hlt : k < ts.length
    · obtain ⟨t, ht⟩ : ∃ t, ts[k]? = some t := ⟨ts[k], List.getElem?_eq_getElem hlt⟩
      have htm := List.mem_of_getElem? ht
      obtain ⟨bb, off, rfl, hc⟩ := own_src H.out.lrow (by omega)
      have hcell : w.cell? ⟨bb, off + k, none⟩ = some (.pointer (some ⟨t.p, 0, none⟩)) := hc k _ (by rw [List.getElem?_map, ht]; rfl)
      obtain ⟨_, _, _, hT, _⟩ := H.out.tally t htm
      have hs0 : (w.drewN q).cell? ⟨t.p, 0, none⟩ = some (.int .i64 t.slot) := hT.cell 0
      have hs1 : (w.drewN q).cell? ⟨t.p, 1, none⟩ = some (.int .i64 t.b) := hT.cell 1
      have hcall := test_any (w.drewN q) t.p c1 c2 t.slot t.b s b hs0 hs1 k1 k2
      have hmore : ts.take (k + 1) = ts.take k ++ [t] := by rw [List.take_add_one, ht]; rfl
      have g1 : (k : Int) < ts.length := by omega
      have g2 : (0 : Int) ≤ k := by omega
      have Hmore := Lib.hid hmore
      have Ht := Lib.hid ht
      have Hcall := Lib.hid hcall
      clear hc hmore hT ht hs0 hs1 hcall
      go_wp2_with fail
      refine Hcall.out.mono ?_
      rintro e w' ⟨rfl, q2, rfl⟩
      by_cases hyes : t.slot = s ∧ t.b = b
      · rw [decide_eq_true hyes]
        have Hyes := Lib.hid hyes
        clear hyes
        go_wp2_with fail
        go_ret
        have hf := firstAt_hit hx.out Ht.out (decide_eq_true Hyes.out)
        exact ⟨by rw [hf]; rfl, _, rfl⟩
      · rw [decide_eq_false hyes]
        have Hyes := Lib.hid hyes
        clear hyes
        go_wp2_with fail
        go_roundw
        case rel => exact ⟨k + 1, by omega, by go_num, Lib.hid (by rw [Hmore.out]; intro u hu; rcases List.mem_append.1 hu with e | e; exact hx.out u e; simp at e; subst e; exact decide_eq_false Hyes.out), _, rfl⟩
        case measure => simp [intOf]; omega
    · have g1 : ¬ (k : Int) < ts.length := by omega
      have hf := firstAt_none (s := s) (b := b) (ts := ts) (by have := hx.out; rwa [List.take_of_length_le (by omega)] at this)
      have Hf := Lib.hid hf
      clear hf hx
      go_wp2_with fail
      go_ret
      exact ⟨by rw [Hf.out]; rfl, q, rfl⟩
end Go.Proofs.Ytkghogfcfocmpaa
