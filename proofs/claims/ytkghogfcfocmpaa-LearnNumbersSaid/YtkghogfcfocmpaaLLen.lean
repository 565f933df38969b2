/- The contracts of Len and Low. -/
import Derived.Test.YtkghogfcfocmpaaLForget
namespace Go.Proofs.Ytkghogfcfocmpaa
open Go.RowKit

def putNew (acc : List Int) (x : Int) : List Int := if x ∈ acc then acc else acc ++ [x]
/-- The several numbers of a list. -/
def several (l : List Int) : List Int := l.foldl putNew []
theorem several_snoc (l : List Int) (x : Int) : several (l ++ [x]) = putNew (several l) x := by
  unfold several
  rw [List.foldl_append]
  rfl
theorem several_len (l : List Int) : (several l).length ≤ l.length := by
  have : ∀ (l acc : List Int), (l.foldl putNew acc).length ≤ acc.length + l.length := by
    intro l
    induction l with
    | nil => simp
    | cons x r ih =>
      intro acc
      rw [List.foldl_cons]
      have h1 := ih (putNew acc x)
      have h2 : (putNew acc x).length ≤ acc.length + 1 := by unfold putNew; split <;> simp
      simp only [List.length_cons]
      omega
  have := this l []
  simpa [several] using this
theorem int_inf : (Try.prog.info? 3).map (fun i => (i.zero, i.size, i.bytes)) = some (some (.int .i64 0), 1, 8) := by kernel_rfl
set_option maxHeartbeats 400000 in
theorem low_any {w : World} {base : Nat} {tag : Nat → Nat} {D : Nat} {n low : Int} {ts : List TallyT} {ds : List Nat} {lv dv : Value} (h : LearnAt w base tag D n low ts ds lv dv) : Calls Try.prog 15 #[.pointer (some ⟨D, 0, none⟩)] w fun e w' => e = .returned (.int .i64 low) ∧ w' = w := by
  have k1 : w.cell? ⟨D, 1, none⟩ = some (.int .i64 low) := h.blk.cell 1
  clear h
  go_enter Try.func15, Try.ntmps15
  go_wp2_with fail
  go_ret
  exact ⟨rfl, rfl⟩
set_option maxRecDepth 100000 in
set_option maxHeartbeats 4000000 in
theorem len_any {w : World} {base : Nat} {tag : Nat → Nat} {D : Nat} {n low : Int} {ts : List TallyT} {ds : List Nat} {lv dv : Value} (h : LearnAt w base tag D n low ts ds lv dv) (hl : ts.length ≤ 1000000) :
    Calls Try.prog 14 #[.pointer (some ⟨D, 0, none⟩)] w fun e w' => e = .returned (.int .i64 (several (ts.map fun t => t.slot)).length) ∧ Below w.heap.size w w' := by
  obtain ⟨A, c, rfl⟩ := own_shape h.lrow
  have k2 : w.cell? ⟨D, 2, none⟩ = some (.slice A ts.length c) := h.blk.cell 2
  have H := Lib.hid h
  clear h
  go_enter Try.func14, Try.ntmps14
  go_wp2_with fail
  go_loopw [3, 11] (fun sv i wr => ∃ k : Nat, k ≤ ts.length ∧ i = .int .i64 k ∧ wr.ownsRow w.heap.size 3 1 sv (several ((ts.take k).map fun t => t.slot)).length ((several ((ts.take k).map fun t => t.slot)).map intV) ∧ Below w.heap.size w wr) (fun _ i _ => ts.length - (intOf i).toNat)
  case atStart => exact ⟨0, Nat.zero_le _, rfl, World.ownsRow_nil _ _ _ _, Below.refl _ _⟩
  case round =>
    obtain ⟨k, hk, rfl, hown, hb⟩ := hrel
    obtain ⟨S, hS⟩ : ∃ S, S = several ((ts.take k).map fun t => t.slot) := ⟨_, rfl⟩
    rw [← hS] at hown
    have hSl : S.length ≤ k := by
      rw [hS]
      have := several_len ((ts.take k).map fun t => t.slot)
      rw [List.length_map, List.length_take] at this
      omega
    obtain ⟨As, cs, rfl⟩ := own_shape hown
    have hwz := hb.size
    have Hown := Lib.hid hown
    have Hb := Lib.hid hb
    clear hown hb
    by_cases hlt : k < ts.length
    · obtain ⟨t, ht⟩ : ∃ t, ts[k]? = some t := ⟨ts[k], List.getElem?_eq_getElem hlt⟩
      have htm := List.mem_of_getElem? ht
      have hL := H.out.below Hb.out
      obtain ⟨bb, off, rfl, hc⟩ := own_src hL.lrow (by omega)
      have hcell : wr.cell? ⟨bb, off + k, none⟩ = some (.pointer (some ⟨t.p, 0, none⟩)) := hc k _ (by rw [List.getElem?_map, ht]; rfl)
      obtain ⟨_, _, _, hT, _⟩ := hL.tally t htm
      have hs0 : wr.cell? ⟨t.p, 0, none⟩ = some (.int .i64 t.slot) := hT.cell 0
      have hcall := contains_any S t.slot (.slice As S.length cs) w.heap.size wr Hown.out (by omega)
      have hmore : several ((ts.take (k + 1)).map fun t => t.slot) = putNew S t.slot := by rw [List.take_add_one, ht, List.map_append, hS]; exact several_snoc _ _
      have g1 : (k : Int) < ts.length := by omega
      have g2 : (0 : Int) ≤ k := by omega
      have Hmore := Lib.hid hmore
      have Hcall := Lib.hid hcall
      clear hc hmore hT hL hcall ht hS
      by_cases hin : t.slot ∈ S
      · have hp : putNew S t.slot = S := by unfold putNew; rw [if_pos hin]
        have d1 : decide (t.slot ∈ S) = true := decide_eq_true hin
        have Hp := Lib.hid hp
        have D1 := Lib.hid d1
        clear hp hin d1
        go_wp2_with fail
        refine Hcall.out.mono ?_
        rintro e w' ⟨rfl, rfl⟩
        rw [D1.out]
        go_wp2_with fail
        go_roundw
        case rel => exact ⟨k + 1, by omega, by go_num, by rw [Hmore.out, Hp.out]; exact Hown.out, Hb.out⟩
        case measure => simp [intOf]; omega
      · have hp : putNew S t.slot = S ++ [t.slot] := by unfold putNew; rw [if_neg hin]
        have d1 : decide (t.slot ∈ S) = false := decide_eq_false hin
        have Hp := Lib.hid hp
        have D1 := Lib.hid d1
        clear hp hin d1
        go_wp2_with fail
        refine Hcall.out.mono ?_
        rintro e w' ⟨rfl, rfl⟩
        rw [D1.out]
        go_wp2_with (at_builtin; refine wpList_append_src rfl _ _ 23 rfl w.heap.size 3 (.int .i64 0) 1 8 Try.underlying23 int_inf (by rfl) (by omega) (.slice As S.length cs) S.length (S.map intV) rfl (by exact Hown.out.alloc _) (some ⟨wr.heap.size, 0, none⟩) 1 1 [.int .i64 t.slot] rfl rfl (by exact one_new wr _ _) (by intro u hu; simp at hu; subst hu; rfl) (by omega) (by omega) (by simp; omega) ?_; intro v5 w5 hown5 hg5 hat5; obtain ⟨A5, c5, rfl⟩ := own_shape hown5; have Hown5 := Lib.hid hown5; have Hg5 := Lib.hid hg5; have Hat5 := Lib.hid hat5; clear hown5 hg5 hat5)
        go_roundw
        case rel => exact ⟨k + 1, by omega, by go_num, by rw [Hmore.out, Hp.out, List.length_append, List.map_append]; exact Hown5.out, (Hb.out.alloc (by have := Hb.out.size; omega) _).grown Hg5.out (by have := Hb.out.size; simp; omega) (fun k e => (own_lt Hown.out e).1)⟩
        case measure => simp [intOf]; omega
    · have hke : k = ts.length := by omega
      subst hke
      have g1 : ¬ (ts.length : Int) < ts.length := by omega
      rw [List.take_length] at hS
      have HS := Lib.hid hS
      clear hS
      go_wp2_with fail
      go_ret
      exact ⟨by rw [← HS.out]; rfl, Hb.out⟩
end Go.Proofs.Ytkghogfcfocmpaa
