/- The contracts of find and Decided. -/
import Derived.Test.YtkghogfcfocmpaaLSmall
namespace Go.Proofs.Ytkghogfcfocmpaa
open Go.RowKit

instance : Inhabited TallyT := ⟨⟨0, 0, 0, [], []⟩⟩
def look (ts : List TallyT) (p : Nat) : Option TallyT := ts.find? fun t => decide (t.p = p)
theorem look_mem {ts : List TallyT} (h : (ts.map fun t => t.p).Nodup) {t : TallyT} (ht : t ∈ ts) : look ts t.p = some t := by
  cases hl : look ts t.p with
  | none =>
    unfold look at hl
    rw [List.find?_eq_none] at hl
    exact absurd (decide_eq_true rfl) (hl t ht)
  | some u =>
    unfold look at hl
    have h1 := List.find?_some hl
    have h2 := List.mem_of_find?_eq_some hl
    rw [nodup_same h ht h2 (of_decide_eq_true h1)]
def slotOf (ts : List TallyT) (p : Nat) : Int := ((look ts p).map fun t => t.slot).getD 0
/-- Who is decided at a slot. -/
def findD (ts : List TallyT) (ds : List Nat) (s : Int) : Option Nat := ds.find? fun p => decide (slotOf ts p = s)
theorem find_first {α : Type} {f : α → Bool} : ∀ {l : List α} {k : Nat} {x : α}, (∀ y ∈ l.take k, f y = false) → l[k]? = some x → f x = true → l.find? f = some x
  | [], k, x, _, h, _ => by simp at h
  | a :: r, 0, x, _, h, hx => by simp at h; subst h; simp [hx]
  | a :: r, k + 1, x, h1, h, hx => by
    have ha := h1 a (by simp)
    rw [List.find?_cons, ha]
    exact find_first (fun y hy => h1 y (by rw [List.take_succ_cons]; exact List.mem_cons_of_mem _ hy)) (by simpa using h) hx
set_option maxHeartbeats 1000000 in
theorem find_any {w : World} {base : Nat} {tag : Nat → Nat} {D : Nat} {n low : Int} {ts : List TallyT} {ds : List Nat} {lv dv : Value} (s : Int) (h : LearnAt w base tag D n low ts ds lv dv) (hl : ds.length ≤ 1000000000) :
    Calls Try.prog 22 #[.pointer (some ⟨D, 0, none⟩), .int .i64 s] w fun e w' => e = .returned (.pointer ((findD ts ds s).map fun p => ⟨p, 0, none⟩)) ∧ w = w' := by
  obtain ⟨A, c, rfl⟩ := own_shape h.drow
  have k3 : w.cell? ⟨D, 3, none⟩ = some (.slice A ds.length c) := h.blk.cell 3
  have H := Lib.hid h
  clear h
  go_enter Try.func22, Try.ntmps22
  go_wp2_with fail
  go_loop [12] (fun i => ∃ k : Nat, k ≤ ds.length ∧ i = .int .i64 k ∧ Hid (∀ p ∈ ds.take k, decide (slotOf ts p = s) = false)) (fun i => ds.length - (intOf i).toNat)
  case atStart => exact ⟨0, Nat.zero_le _, rfl, Lib.hid (by simp)⟩
  case round =>
    obtain ⟨k, hk, rfl, hx⟩ := hrel
    by_cases hlt : k < ds.length
    · obtain ⟨p, hp⟩ : ∃ p, ds[k]? = some p := ⟨ds[k], List.getElem?_eq_getElem hlt⟩
      obtain ⟨t, htm, rfl⟩ := H.out.dec p (List.mem_of_getElem? hp)
      have hlook := look_mem H.out.nd htm
      have hslot : slotOf ts t.p = t.slot := by unfold slotOf; rw [hlook]; rfl
      obtain ⟨b, off, rfl, hc⟩ := own_src H.out.drow (by omega)
      have hcell : w.cell? ⟨b, off + k, none⟩ = some (.pointer (some ⟨t.p, 0, none⟩)) := hc k _ (by rw [List.getElem?_map, hp]; rfl)
      obtain ⟨_, _, _, hT, _⟩ := H.out.tally t htm
      have hs0 : w.cell? ⟨t.p, 0, none⟩ = some (.int .i64 t.slot) := hT.cell 0
      have hmore : ds.take (k + 1) = ds.take k ++ [t.p] := by rw [List.take_add_one, hp]; rfl
      have g1 : (k : Int) < ds.length := by omega
      have g2 : (0 : Int) ≤ k := by omega
      have Hmore := Lib.hid hmore
      have Hslot := Lib.hid hslot
      have Hp := Lib.hid hp
      clear hc hp hmore hslot hT hlook
      by_cases hxy : t.slot = s
      · have e1 : (t.slot == s) = true := by rw [beq_iff_eq]; exact hxy
        have Hxy := Lib.hid hxy
        clear hxy
        go_wp2_with fail
        go_ret
        have hf : findD ts ds s = some t.p := find_first hx.out Hp.out (by rw [Hslot.out, Hxy.out]; simp)
        exact ⟨by rw [hf]; rfl, rfl⟩
      · have e1 : (t.slot == s) = false := by rw [beq_eq_false_iff_ne]; exact hxy
        have Hxy := Lib.hid hxy
        clear hxy
        go_wp2_with fail
        go_round
        case rel => exact ⟨k + 1, by omega, by go_num, Lib.hid (by rw [Hmore.out]; intro q hq; rcases List.mem_append.1 hq with e | e; exact hx.out q e; simp at e; subst e; rw [Hslot.out]; exact decide_eq_false Hxy.out)⟩
        case measure => simp [intOf]; omega
    · have g1 : ¬ (k : Int) < ds.length := by omega
      have hf : findD ts ds s = none := by
        have := hx.out
        rw [List.take_of_length_le (by omega)] at this
        unfold findD
        rw [List.find?_eq_none]
        intro q hq
        rw [this q hq]
        simp
      have Hf := Lib.hid hf
      clear hf hx
      go_wp2_with fail
      go_ret
      exact ⟨by rw [Hf.out]; rfl, rfl⟩
/-- What Decided gives back. -/
def valueOf (ts : List TallyT) (ds : List Nat) (s : Int) : Option (List UInt8) := (findD ts ds s).bind fun p => (look ts p).map fun t => t.v
def DecEnd (w : World) (o : Option (List UInt8)) (e : Ending) (w' : World) : Prop :=
  match o with
  | none => e = .returned (.tuple #[.slice none 0 0, .bool false]) ∧ w = w'
  | some v => ∃ A c, e = .returned (.tuple #[.slice A v.length c, .bool true]) ∧ w'.ownsRow w.heap.size 5 1 (.slice A v.length c) v.length (v.map byteV) ∧ Below w.heap.size w w'
set_option maxHeartbeats 1000000 in
theorem decided_any {w : World} {base : Nat} {tag : Nat → Nat} {D : Nat} {n low : Int} {ts : List TallyT} {ds : List Nat} {lv dv : Value} (s : Int) (h : LearnAt w base tag D n low ts ds lv dv) (hl : ds.length ≤ 1000000000) (hv : ∀ t ∈ ts, t.v.length ≤ 1000000000) :
    Calls Try.prog 10 #[.pointer (some ⟨D, 0, none⟩), .int .i64 s] w (DecEnd w (valueOf ts ds s)) := by
  have hf := find_any s h hl
  have H := Lib.hid h
  have Hv := Lib.hid hv
  cases hfd : findD ts ds s with
  | none =>
    have hval : valueOf ts ds s = none := by unfold valueOf; rw [hfd]; rfl
    rw [hval]
    rw [hfd] at hf
    have Hf := Lib.hid hf
    clear hf h hv hfd hval
    go_enter Try.func10, Try.ntmps10
    go_wp2_with fail
    refine Hf.out.mono ?_
    rintro e w' ⟨rfl, rfl⟩
    go_wp2_with fail
    go_ret2
    exact ⟨rfl, rfl⟩
  | some p =>
    have hpm : p ∈ ds := List.mem_of_find?_eq_some hfd
    obtain ⟨t, htm, rfl⟩ := h.dec p hpm
    have hval : valueOf ts ds s = some t.v := by unfold valueOf; rw [hfd, Option.bind_some, look_mem h.nd htm]; rfl
    rw [hval]
    rw [hfd] at hf
    obtain ⟨A, c, fv, hT, hB, _⟩ := h.tally t htm
    have k2 : w.cell? ⟨t.p, 2, none⟩ = some (.slice A t.v.length c) := hT.cell 2
    have hlv := hv t htm
    have hS : ∀ k, tag k = 5 + 3 * t.p → k < w.heap.size := fun k hk => (h.rng k (by omega)).2
    have Hf := Lib.hid hf
    have HB := Lib.hid hB
    have HS := Lib.hid hS
    clear hf h hv hfd hval hT hB hS
    go_enter Try.func10, Try.ntmps10
    go_wp2_with fail
    refine Hf.out.mono ?_
    rintro e w' ⟨rfl, rfl⟩
    simp only [Option.map_some]
    go_wp2_with fail
    refine (clone_any _ t.v (fun k => tag k = 5 + 3 * t.p) w HB.out HS.out (by omega)).mono ?_
    rintro e w1 ⟨v1, rfl, ho1, b1⟩
    obtain ⟨A1, c1, rfl⟩ := own_shape ho1
    have Ho := Lib.hid ho1
    have B1 := Lib.hid b1
    clear ho1 b1
    go_wp2_with fail
    go_ret2
    exact ⟨A1, c1, rfl, Ho.out, B1.out⟩
end Go.Proofs.Ytkghogfcfocmpaa
