/- Contracts of package disk. -/
import Derived.Test.YtnjipfnkbfhliaaBytes
import Derived.Deep.RegionLaw
import Derived.Deep.RegionWith
namespace Go.Proofs.Ytnjipfnkbfhliaa
open Go.RowKit

theorem row_info : (Try.prog.info? 30).map (fun i => (i.zero, i.size, i.bytes)) = some (some (.slice none 0 0), 1, 24) := by kernel_rfl

/-- After k rounds of copies: the first k are copied. -/
def CopiesRel (w : World) (recs : List (List UInt8)) (k : Nat) (ov : Value) (wr : World) : Prop :=
  ∃ S, Owns RMine 1 30 wr w.heap.size S ov (recs.take k) ∧ (∀ k, S k → w.heap.size ≤ k ∧ k < wr.heap.size) ∧ (∀ k, ov.ownBlock = some k → ¬ S k) ∧ Below w.heap.size w wr
def CopiesEnd (w : World) (recs : List (List UInt8)) (e : Ending) (w' : World) : Prop := ∃ v, e = .returned v ∧ CopiesRel w recs recs.length v w'

theorem copies_start (w : World) (recs : List (List UInt8)) : CopiesRel w recs 0 (.slice none 0 0) w :=
  ⟨fun _ => False, Owns.nil RMine 1 30 w w.heap.size _, fun _ h => h.elim, fun _ h => by simp [Value.ownBlock] at h, Below.refl _ _⟩
theorem copies_step {w wr w1 w2 : World} {recs : List (List UInt8)} {k : Nat} {ov v1 v2 : Value} {r : List UInt8} {css : List (List Value)} {S : Nat → Prop} (hr : recs[k]? = some r)
    (hrow : RowsOf RMine 1 wr S css (recs.take k)) (hS : ∀ k, S k → w.heap.size ≤ k ∧ k < wr.heap.size) (hn : ∀ k, ov.ownBlock = some k → ¬ S k) (hov : ∀ k, ov.ownBlock = some k → w.heap.size ≤ k ∧ k < wr.heap.size) (hb : Below w.heap.size w wr)
    (h1 : w1.ownsRow wr.heap.size 5 1 v1 r.length (r.map byteV)) (hb1 : Below wr.heap.size wr w1)
    (h2 : w2.ownsRow w.heap.size 30 1 v2 (k + 1) (css.flatten ++ [v1])) (hg2 : (w1.alloc (.cells #[v1] 30)).grownBy w2 ov.ownBlock) (hat : v2.ownBlock = ov.ownBlock ∨ v2.ownBlock = some (w1.alloc (.cells #[v1] 30)).heap.size) :
    CopiesRel w recs (k + 1) v2 w2 := by
  have hk : k < recs.length := (List.getElem?_eq_some_iff.1 hr).1
  have ht : Touch (fun g => ov.ownBlock = some g) w1 w2 := (Touch.alloc _ w1 _).trans (Touch.grown hg2 (fun g _ e => e)) (fun _ _ h => h)
  have hz1 := hb1.size
  have hz2 := ht.size
  have hz0 := hb.size
  have hv1 : ∀ g, v1.ownBlock = some g → wr.heap.size ≤ g ∧ g < w1.heap.size := h1.lt
  have hrow1 : RowsOf RMine 1 w2 (fun g => S g ∨ v1.ownBlock = some g) css (recs.take k) :=
    RowsOf.keep RMine.kept hrow (fun g hg => (ht.block g (by have := hS g hg; omega) (fun e => hn g e hg)).trans (hb1.block g (hS g hg).2)) (fun _ h => .inl h)
  have hm : RMine w2 (fun g => S g ∨ v1.ownBlock = some g) [v1] r :=
    ⟨v1, rfl, own_rebase (own_touch h1 ht (fun g e e' => by have := hv1 g e; have := hov g e'; omega)) (Nat.zero_le _), fun g e => .inr e⟩
  have hcss : (css ++ [[v1]]).flatten = css.flatten ++ [v1] := by simp
  refine ⟨fun g => S g ∨ v1.ownBlock = some g, ⟨css ++ [[v1]], ?_, ?_⟩, ?_, ?_, ?_⟩
  · rw [List.take_succ_eq_append_getElem hk, show recs[k] = r from (List.getElem?_eq_some_iff.1 hr).2]
    exact hrow1.snoc rfl hm
  · rw [hcss, List.length_take, Nat.min_eq_left (by omega)]
    exact h2
  · rintro g (hg | hg)
    · have := hS g hg; omega
    · have := hv1 g hg; omega
  · rintro g hg (hg' | hg')
    · rcases hat with e | e
      · exact hn g (e ▸ hg) hg'
      · rw [e] at hg; have := hS g hg'; simp at hg; omega
    · rcases hat with e | e
      · have := hov g (e ▸ hg); have := hv1 g hg'; omega
      · rw [e] at hg; have := hv1 g hg'; simp at hg; omega
  · exact hb.trans (((hb1.mono hz0).trans (ht.below (B := w.heap.size) (fun g e => (hov g e).1) (by omega))))

set_option maxHeartbeats 400000 in
theorem copies_any (v : Value) (recs : List (List UInt8)) (S : Nat → Prop) (w : World) (h : SliceOf RText 1 w S v recs) (hS : ∀ k, S k → k < w.heap.size) (hl : recs.length ≤ 1000000000) (hl2 : ∀ r ∈ recs, r.length ≤ 1000000000) :
    Calls Try.prog 18 #[v] w (CopiesEnd w recs) := by
  have h' := Lib.hid h
  obtain ⟨A, cap, rfl, h1, h2, h3⟩ := h
  clear h3 h2
  go_enter Try.func18, Try.ntmps18
  go_wp2_with fail
  go_loopw [3, 8, 5] (fun ov i b wr => ∃ k : Nat, k ≤ recs.length ∧ i = .int .i64 k ∧ CopiesRel w recs k ov wr) (fun _ i _ _ => recs.length - (intOf i).toNat)
  case atStart => exact ⟨0, Nat.zero_le _, rfl, copies_start w recs⟩
  case round =>
    obtain ⟨k, hk, rfl, hrel⟩ := hrel
    by_cases hlt : k < recs.length
    · obtain ⟨r, hr⟩ : ∃ r, recs[k]? = some r := ⟨recs[k], List.getElem?_eq_getElem hlt⟩
      obtain ⟨S', ⟨css, hrow, hown⟩, hS', hn', hb⟩ := hrel
      have hin : SliceOf RText 1 wr S (.slice A recs.length cap) recs := SliceOf.below RText.kept h'.out hb hS (fun _ g => g)
      obtain ⟨b, off, rfl, hbS, cs, ⟨x, rfl, hx⟩, _, hc⟩ := hin.at hr
      have hcell : wr.cell? ⟨b, off + k, none⟩ = some x := by simpa using hc 0 x rfl
      have hrl : r.length ≤ 1000000000 := hl2 r (List.mem_of_getElem? hr)
      have hSr : ∀ g, S g → g < wr.heap.size := fun g hg => Nat.lt_of_lt_of_le (hS g hg) hb.size
      have htk : (recs.take k).length = k := by rw [List.length_take]; omega
      rw [htk] at hown
      have hov := hown.lt
      have hone := own_one hown
      have Hx := Lib.hid hx
      have Hr := Lib.hid hr
      have Hown := Lib.hid hown
      have Hrow := Lib.hid hrow
      have HS := Lib.hid hSr
      have Hb := Lib.hid hb
      have HS' := Lib.hid hS'
      have Hn' := Lib.hid hn'
      have Hov := Lib.hid hov
      clear hx hr hown hrow hSr hb hS' hn' hov hin hc htk hl2
      go_wp2_with (first
        | (go_at_call 17; refine (clone_any x r S wr Hx.out HS.out hrl).mono ?_; rintro e w1 ⟨v1, rfl, hc1, hb1⟩; obtain ⟨A1, c1, rfl⟩ := own_shape hc1; have Hc1 := Lib.hid hc1; have Hb1 := Lib.hid hb1; have hz1 := hb1.size; clear hc1 hb1)
        | (at_builtin; refine wpList_append_src rfl _ _ 26 rfl w.heap.size 30 (.slice none 0 0) 1 24 Try.underlying26 row_info rfl (by omega) u3 k css.flatten rfl ((own_below Hown.out Hb1.out).alloc _) (some ⟨w1.heap.size, 0, none⟩) 1 1 [.slice A1 r.length c1] rfl rfl (fun _ => ⟨w1.heap.size, 0, rfl, fun j u hj => by have := cell_one_new w1 (.slice A1 r.length c1) 30 j u hj; rwa [WideShapes.add_plain] at this⟩) (by intro u hu; simp at hu; subst hu; exact own_one Hc1.out) (by omega) (by omega) (by have := Hb.out.size; simp; omega) ?_; intro v2 w2 hown2 hg2 hat2))
      have hfin := copies_step Hr.out Hrow.out HS'.out Hn'.out Hov.out Hb.out Hc1.out Hb1.out hown2 hg2 hat2
      clear hown2 hg2 hat2
      go_wp2_with fail
      go_roundw
      case rel => exact ⟨k + 1, by omega, by go_num, hfin⟩
      case measure => simp [intOf]; omega
    · obtain rfl : k = recs.length := by omega
      go_wp2_with fail
      go_ret
      exact ⟨_, rfl, hrel⟩

theorem copies_below {w w1 : World} {recs : List (List UInt8)} {k : Nat} {v : Value} (h : CopiesRel w recs k v w1) : Below w.heap.size w w1 := by
  obtain ⟨_, _, _, _, h⟩ := h; exact h
theorem copies_shape {w w1 : World} {recs : List (List UInt8)} {v : Value} (h : CopiesRel w recs recs.length v w1) : ∃ A c, v = .slice A recs.length c := by
  obtain ⟨_, ⟨_, _, h⟩, _⟩ := h; rw [List.take_length] at h; exact own_shape h
theorem frozen_later {w w1 : World} {p : Addr} {x : Bool} (hb : Below w.heap.size w w1) (hp : p.block < w.heap.size) (h : w.frozen? p = x) : w1.frozen? p = x := (hb.frozen hp).trans h

/-- A disk behind a pointer to block D: its records, and its own blocks F. -/
def DiskAt (w : World) (base : Nat) (F : Nat → Prop) (D : Nat) (recs : List (List UInt8)) : Prop :=
  ∃ v S, Blk w D 38 #[v] ∧ Owns RText 1 30 w base S v recs ∧ F D ∧ (∀ k, S k → F k) ∧ (∀ k, v.ownBlock = some k → F k) ∧ ¬ S D ∧ (∀ k, v.ownBlock = some k → ¬ S k) ∧ (∀ k, F k → base ≤ k ∧ k < w.heap.size)

theorem owns_text {e : TypeId} {w : World} {base : Nat} {S : Nat → Prop} {v : Value} {l : List (List UInt8)} (h : Owns RMine 1 e w base S v l) : Owns RText 1 e w base S v l := by
  obtain ⟨css, ⟨h1, h2⟩, h3⟩ := h
  exact ⟨css, ⟨h1, fun i cs x a b => ⟨(h2 i cs x a b).1, (h2 i cs x a b).2.reads⟩⟩, h3⟩
theorem DiskAt.touch {w w' : World} {base : Nat} {F T : Nat → Prop} {D : Nat} {recs : List (List UInt8)} (h : DiskAt w base F D recs) (ht : Touch T w w') (hn : ∀ k, F k → ¬ T k) : DiskAt w' base F D recs := by
  obtain ⟨v, S, h1, h2, h3, h4, h5, h6, h7, h8⟩ := h
  exact ⟨v, S, h1.touch ht (hn D h3), Owns.touch RText.kept h2 ht (fun k e => hn k (h5 k e)) (fun k hk => ⟨(h8 k (h4 k hk)).2, hn k (h4 k hk)⟩) (fun _ g => g), h3, h4, h5, h6, h7, fun k hk => ⟨(h8 k hk).1, Nat.lt_of_lt_of_le (h8 k hk).2 ht.size⟩⟩
theorem DiskAt.below {w w' : World} {base : Nat} {F : Nat → Prop} {D : Nat} {recs : List (List UInt8)} (h : DiskAt w base F D recs) (hb : Below w.heap.size w w') : DiskAt w' base F D recs :=
  h.touch (Touch.of_below hb fun _ => False) (fun _ _ g => g)
theorem DiskAt.more {w : World} {base : Nat} {F F' : Nat → Prop} {D : Nat} {recs : List (List UInt8)} (h : DiskAt w base F D recs) (hF : ∀ k, F k → F' k) (hF' : ∀ k, F' k → base ≤ k ∧ k < w.heap.size) : DiskAt w base F' D recs := by
  obtain ⟨v, S, h1, h2, h3, h4, h5, h6, h7, _⟩ := h
  exact ⟨v, S, h1, h2, hF D h3, fun k e => hF k (h4 k e), fun k e => hF k (h5 k e), h6, h7, hF'⟩
theorem DiskAt.new (w : World) (base : Nat) (hb : base ≤ w.heap.size) : DiskAt (w.alloc (.cells #[.slice none 0 0] 38)) base (fun k => k = w.heap.size) w.heap.size [] :=
  ⟨.slice none 0 0, fun _ => False, Blk.new w _ _, Owns.nil RText 1 _ _ base _, rfl, fun _ g => g.elim, fun k e => by simp [Value.ownBlock] at e, fun g => g, fun _ _ g => g, fun k e => by subst e; simp; omega⟩
theorem DiskAt.slice {w : World} {base : Nat} {F : Nat → Prop} {D : Nat} {recs : List (List UInt8)} (h : DiskAt w base F D recs) : ∃ A cap, w.cell? ⟨D, 0, none⟩ = some (.slice A recs.length cap) ∧ recs.length ≤ maxLen ∧ SliceOf RText 1 w F (.slice A recs.length cap) recs := by
  obtain ⟨v, S, h1, h2, h3, h4, h5, h6, h7, h8⟩ := h
  have hs := Owns.slice RText.kept h2 h4 h5
  have hs' := hs
  obtain ⟨A, cap, rfl, c1, c2, _⟩ := hs
  exact ⟨A, cap, by simpa using h1.cell 0, Nat.le_trans c1 c2, hs'⟩

set_option maxHeartbeats 400000 in
theorem new_any (w : World) : Calls Try.prog 6 #[] w fun e w' => e = .returned (.pointer (some ⟨w.heap.size, 0, none⟩)) ∧ w.alloc (.cells #[.slice none 0 0] 38) = w' := by
  go_enter Try.func6, Try.ntmps6
  go_wp2
  go_ret
  exact ⟨rfl, rfl⟩
set_option maxHeartbeats 400000 in
theorem len_any {w : World} {base : Nat} {F : Nat → Prop} {D : Nat} {recs : List (List UInt8)} (h : DiskAt w base F D recs) : Calls Try.prog 14 #[.pointer (some ⟨D, 0, none⟩)] w fun e w' => e = .returned (.int .i64 recs.length) ∧ w = w' := by
  obtain ⟨A, cap, hc, _, _⟩ := h.slice
  clear h
  go_enter Try.func14, Try.ntmps14
  go_wp2
  go_ret
  exact ⟨rfl, rfl⟩
/-- How many bytes the first k have. -/
def bytesOf (recs : List (List UInt8)) : Nat := (recs.map List.length).sum
theorem bytesOf_take {recs : List (List UInt8)} {k : Nat} {r : List UInt8} (h : recs[k]? = some r) : bytesOf (recs.take (k + 1)) = bytesOf (recs.take k) + r.length := by
  obtain ⟨hk, rfl⟩ := List.getElem?_eq_some_iff.1 h
  unfold bytesOf
  rw [List.take_succ_eq_append_getElem hk, List.map_append, List.sum_append]
  simp
theorem bytesOf_le {recs : List (List UInt8)} (h : ∀ r ∈ recs, r.length ≤ 1000000000) (k : Nat) : bytesOf (recs.take k) ≤ k * 1000000000 := by
  induction recs generalizing k with
  | nil => simp [bytesOf]
  | cons r t ih =>
    cases k with
    | zero => simp [bytesOf]
    | succ k =>
      have h1 := ih (fun x hx => h x (by simp [hx])) k
      have h2 := h r (by simp)
      have : bytesOf ((r :: t).take (k + 1)) = r.length + bytesOf (t.take k) := by simp [bytesOf]
      rw [this]; omega
set_option maxHeartbeats 400000 in
theorem bytes_any {w : World} {base : Nat} {F : Nat → Prop} {D : Nat} {recs : List (List UInt8)} (h : DiskAt w base F D recs) (hl : recs.length ≤ 1000000000) (hl2 : ∀ r ∈ recs, r.length ≤ 1000000000) :
    Calls Try.prog 15 #[.pointer (some ⟨D, 0, none⟩)] w fun e w' => e = .returned (.int .i64 (bytesOf recs)) ∧ w = w' := by
  obtain ⟨A, cap, hc, _, hs⟩ := h.slice
  have Hs := Lib.hid hs
  clear h hs
  go_enter Try.func15, Try.ntmps15
  go_wp2_with fail
  go_loop [3, 11, 5] (fun n i _ => ∃ k : Nat, k ≤ recs.length ∧ i = .int .i64 k ∧ n = .int .i64 (bytesOf (recs.take k))) (fun _ i _ => recs.length - (intOf i).toNat)
  case atStart => exact ⟨0, Nat.zero_le _, rfl, rfl⟩
  case round =>
    obtain ⟨k, hk, rfl, rfl⟩ := hrel
    have hbd := bytesOf_le hl2 k
    by_cases hlt : k < recs.length
    · obtain ⟨r, hr⟩ : ∃ r, recs[k]? = some r := ⟨recs[k], List.getElem?_eq_getElem hlt⟩
      obtain ⟨b, off, rfl, _, cs, ⟨x, rfl, hx⟩, _, hcc⟩ := Hs.out.at hr
      obtain ⟨Ax, cx, rfl, _⟩ := hx
      have hcell : w.cell? ⟨b, off + k, none⟩ = some (.slice Ax r.length cx) := by simpa using hcc 0 _ rfl
      have hrl : r.length ≤ 1000000000 := hl2 r (List.mem_of_getElem? hr)
      have hst := Lib.hid (bytesOf_take hr)
      clear hcc hr hl2
      go_wp2_with fail
      go_round
      case rel => exact ⟨k + 1, by omega, by go_num, by rw [hst.out]; go_num⟩
      case measure => simp [intOf]; omega
    · obtain rfl : k = recs.length := by omega
      go_wp2_with fail
      go_ret
      exact ⟨rfl, rfl⟩

/-- What All gives back. -/
def AllEnd (w : World) (recs : List (List UInt8)) (e : Ending) (w' : World) : Prop := CopiesEnd w recs e w'
set_option maxHeartbeats 400000 in
theorem all_any {w : World} {base : Nat} {F : Nat → Prop} {D : Nat} {recs : List (List UInt8)} (h : DiskAt w base F D recs) (hl : recs.length ≤ 1000000000) (hl2 : ∀ r ∈ recs, r.length ≤ 1000000000) :
    Calls Try.prog 13 #[.pointer (some ⟨D, 0, none⟩)] w (CopiesEnd w recs) := by
  obtain ⟨A, cap, hc, _, hs⟩ := h.slice
  have hF : ∀ k, F k → k < w.heap.size := by obtain ⟨v, S, _, _, _, _, _, _, _, h8⟩ := h; exact fun k hk => (h8 k hk).2
  have Hs := Lib.hid hs
  have HF := Lib.hid hF
  clear h hs hF
  go_enter Try.func13, Try.ntmps13
  go_wp2_with (go_at_call 18; refine (copies_any _ recs F w Hs.out HF.out hl hl2).mono ?_; rintro e w1 ⟨v1, rfl, hc1⟩; have Hc1 := Lib.hid hc1; clear hc1)
  go_ret
  exact ⟨v1, rfl, Hc1.out⟩

/-- What a disk's new records leave: its own blocks, and new ones. -/
def DiskTurned (w : World) (base : Nat) (F : Nat → Prop) (D : Nat) (recs : List (List UInt8)) (w' : World) : Prop :=
  ∃ F', DiskAt w' base F' D recs ∧ (∀ k, F' k → F k ∨ w.heap.size ≤ k) ∧ Touch F w w'
theorem copies_disk {w w1 : World} {base : Nat} {F : Nat → Prop} {D : Nat} {old recs : List (List UInt8)} {v1 : Value} (h : DiskAt w base F D old) (hb : base ≤ w.heap.size) (hc : CopiesRel w recs recs.length v1 w1) : DiskTurned w base F D recs (w1.setCell ⟨D, 0, none⟩ v1) := by
  obtain ⟨v, S, d1, d2, d3, d4, d5, d6, d7, d8⟩ := h
  obtain ⟨S1, c1, c2, c3, c4⟩ := hc
  rw [List.take_length] at c1
  have hD : D < w.heap.size := (d8 D d3).2
  have ht : Touch (fun k => k = D) w1 (w1.setCell ⟨D, 0, none⟩ v1) := Touch.setCell w1 v1 (fun _ => rfl)
  have hlt := c1.lt
  have hz := c4.size
  refine ⟨fun k => F k ∧ k = D ∨ w.heap.size ≤ k ∧ k < w1.heap.size, ⟨v1, S1, ?_, ?_, .inl ⟨d3, rfl⟩, fun k hk => .inr (c2 k hk), fun k hk => .inr ?_, fun hk => ?_, c3, ?_⟩, ?_, ?_⟩
  · have := (d1.below c4 hD).set 0 v1
    simpa using this
  · exact Owns.touch RText.kept (Owns.rebase (owns_text c1) hb) ht (fun k e => by have := hlt k e; omega) (fun k hk => ⟨(c2 k hk).2, by have := c2 k hk; omega⟩) (fun _ g => g)
  · exact hlt k hk
  · have := c2 D hk; omega
  · rintro k (⟨hk, _⟩ | ⟨hk, hk'⟩)
    · have := d8 k hk; simp; omega
    · simp; omega
  · rintro k (⟨hk, _⟩ | ⟨hk, _⟩)
    · exact .inl hk
    · exact .inr hk
  · exact (Touch.of_below c4 F).trans ht (fun k _ e => by subst e; exact d3)
set_option maxHeartbeats 400000 in
theorem replace_any {w : World} {base : Nat} {F S : Nat → Prop} {D : Nat} {old recs : List (List UInt8)} {v : Value} (h : DiskAt w base F D old) (hb : base ≤ w.heap.size) (hs : SliceOf RText 1 w S v recs) (hS : ∀ k, S k → k < w.heap.size) (hl : recs.length ≤ 1000000000) (hl2 : ∀ r ∈ recs, r.length ≤ 1000000000) :
    Calls Try.prog 9 #[.pointer (some ⟨D, 0, none⟩), v] w fun e w' => e = .returned (.tuple #[]) ∧ DiskTurned w base F D recs w' := by
  have Hs := Lib.hid hs
  have HS := Lib.hid hS
  have H := Lib.hid h
  obtain ⟨A, cap, hc, _, _⟩ := h.slice
  have hD : D < w.heap.size := by obtain ⟨v, S, _, _, d3, _, _, _, _, h8⟩ := h; exact (h8 D d3).2
  have hf : w.frozen? ⟨D, 0, none⟩ = false := by obtain ⟨v, S, d1, _⟩ := h; exact d1.frozen 0
  have Hl2 := Lib.hid hl2
  clear hs hS h hl2
  go_enter Try.func9, Try.ntmps9
  go_wp2_with (go_at_call 18; refine (copies_any _ recs S w Hs.out HS.out hl Hl2.out).mono ?_; rintro e w1 ⟨v1, rfl, hc1⟩; have hcell := (cell_later (copies_below hc1) hc); have hfr := frozen_later (copies_below hc1) hD hf; obtain ⟨A1, c1, rfl⟩ := copies_shape hc1; have Hc1 := Lib.hid hc1; clear hc1)
  go_end0
  exact ⟨rfl, copies_disk H.out hb Hc1.out⟩

theorem append_disk {w w1 w2 : World} {base : Nat} {F S : Nat → Prop} {D : Nat} {old : List (List UInt8)} {l : List UInt8} {v v1 v2 : Value} {css : List (List Value)}
    (d1 : Blk w D 38 #[v]) (hrow : RowsOf RText 1 w S css old) (hlt : ∀ k, v.ownBlock = some k → base ≤ k ∧ k < w.heap.size) (d3 : F D) (d4 : ∀ k, S k → F k) (d5 : ∀ k, v.ownBlock = some k → F k) (d6 : ¬ S D) (d7 : ∀ k, v.ownBlock = some k → ¬ S k) (d8 : ∀ k, F k → base ≤ k ∧ k < w.heap.size) (hv : ∀ k, v.ownBlock = some k → k ≠ D)
    (c1 : w1.ownsRow w.heap.size 5 1 v1 l.length (l.map byteV)) (b1 : Below w.heap.size w w1) (h2 : w2.ownsRow base 30 1 v2 (old.length + 1) (css.flatten ++ [v1])) (g2 : (w1.alloc (.cells #[v1] 30)).grownBy w2 v.ownBlock) (at2 : v2.ownBlock = v.ownBlock ∨ v2.ownBlock = some (w1.alloc (.cells #[v1] 30)).heap.size) :
    DiskTurned w base F D (old ++ [l]) (w2.setCell ⟨D, 0, none⟩ v2) := by
  have hD := d8 D d3
  have hz1 := b1.size
  have ht2 : Touch (fun g => v.ownBlock = some g) w1 w2 := (Touch.alloc _ w1 _).trans (Touch.grown g2 (fun g _ e => e)) (fun _ _ h => h)
  have hz2 := ht2.size
  have ht3 : Touch (fun g => g = D) w2 (w2.setCell ⟨D, 0, none⟩ v2) := Touch.setCell w2 v2 (fun _ => rfl)
  have hv1 := c1.lt
  have ht : Touch (fun g => v.ownBlock = some g ∨ g = D) w (w2.setCell ⟨D, 0, none⟩ v2) :=
    ((Touch.of_below b1 _).trans ht2 (fun _ _ e => .inl e)).trans ht3 (fun _ _ e => .inr e)
  have hz3 : (w2.setCell ⟨D, 0, none⟩ v2).heap.size = w2.heap.size := by simp [World.setCell]
  have hlt2 : ∀ g, v2.ownBlock = some g → v.ownBlock = some g ∨ w1.heap.size ≤ g ∧ g < w2.heap.size := fun g e => by
    have := h2.lt g e
    rcases at2 with e2 | e2
    · exact .inl (e2 ▸ e)
    · rw [e2] at e; simp at e; exact .inr ⟨by omega, this.2⟩
  have d1' : Blk (w2.setCell ⟨D, 0, none⟩ v2) D 38 #[v2] := by
    have := ((d1.touch (Touch.of_below b1 fun _ => False) (fun g => g)).touch ht2 (fun e => hv D e rfl)).set 0 v2
    simpa using this
  have hcss : (css ++ [[v1]]).flatten = css.flatten ++ [v1] := by simp
  have hrow' : RowsOf RText 1 (w2.setCell ⟨D, 0, none⟩ v2) (fun g => S g ∨ v1.ownBlock = some g) css old :=
    RowsOf.keep RText.kept hrow (fun k hk => ht.block k (d8 k (d4 k hk)).2 (fun e => by
      rcases e with e | e
      · exact d7 k e hk
      · subst e; exact d6 hk)) (fun _ g => .inl g)
  have hnew : RText (w2.setCell ⟨D, 0, none⟩ v2) (fun g => S g ∨ v1.ownBlock = some g) [v1] l := by
    have c1' := own_touch (own_touch c1 ht2 (fun k e e' => by have := hv1 k e; have := hlt k e'; omega)) ht3 (fun k e e' => by have := hv1 k e; omega)
    exact ⟨v1, rfl, Owns.slice RByte.kept (owns_bytes (S := fun _ => False) c1') (fun _ g => g.elim) (fun k e => .inr e)⟩
  refine ⟨fun g => F g ∨ w.heap.size ≤ g ∧ g < w2.heap.size, ⟨v2, fun g => S g ∨ v1.ownBlock = some g, d1', ⟨css ++ [[v1]], hrow'.snoc rfl hnew, ?_⟩, .inl d3, ?_, ?_, ?_, ?_, ?_⟩, ?_, ?_⟩
  · rw [hcss, List.length_append]
    exact own_touch h2 ht3 (fun k e e' => by
      rcases hlt2 k e with g | g
      · exact hv k g e'
      · omega)
  · rintro k (hk | hk)
    · exact .inl (d4 k hk)
    · have := hv1 k hk; exact .inr ⟨by omega, by omega⟩
  · intro k e
    rcases hlt2 k e with g | g
    · exact .inl (d5 k g)
    · exact .inr ⟨by omega, by omega⟩
  · rintro (hk | hk)
    · exact d6 hk
    · have := hv1 D hk; omega
  · rintro k e (hk | hk)
    · rcases hlt2 k e with g | g
      · exact d7 k g hk
      · have := d8 k (d4 k hk); omega
    · have h1 := hv1 k hk
      rcases hlt2 k e with g | g
      · have := hlt k g; omega
      · omega
  · rintro k (hk | hk)
    · have := d8 k hk; omega
    · omega
  · rintro k (hk | hk)
    · exact .inl hk
    · exact .inr hk.1
  · exact ht.mono (fun k _ e => by
      rcases e with e | e
      · exact d5 k e
      · subst e; exact d3)

set_option maxHeartbeats 1000000 in
theorem append_any {w : World} {base : Nat} {F S : Nat → Prop} {D : Nat} {old : List (List UInt8)} {l : List UInt8} {x : Value} (h : DiskAt w base F D old) (hb : base ≤ w.heap.size) (hs : BytesAt w S x l) (hS : ∀ k, S k → k < w.heap.size) (hl : old.length ≤ 1000000000) (hl2 : l.length ≤ 1000000000) :
    Calls Try.prog 8 #[.pointer (some ⟨D, 0, none⟩), x] w fun e w' => e = .returned (.tuple #[]) ∧ DiskTurned w base F D (old ++ [l]) w' := by
  obtain ⟨v, S1, d1, ⟨css, hrow, hown⟩, d3, d4, d5, d6, d7, d8⟩ := h
  have hD : D < w.heap.size := (d8 D d3).2
  have hc : w.cell? ⟨D, 0, none⟩ = some v := by simpa using d1.cell 0
  have hf := d1.frozen 0
  have hvD : ∀ k, v.ownBlock = some k → k ≠ D := fun k e => own_apart hown d1 (by decide) e
  have hfin := fun (w1 w2 : World) (v1 v2 : Value) a b c d e => append_disk (w1 := w1) (w2 := w2) (v1 := v1) (v2 := v2) (l := l) d1 hrow hown.lt d3 d4 d5 d6 d7 d8 hvD a b c d e
  have Hfin := Lib.hid hfin
  have Hs := Lib.hid hs
  have HS := Lib.hid hS
  have Hown := Lib.hid hown
  have HvD := Lib.hid hvD
  clear hfin hs hS hown hrow d1 d3 d4 d5 d6 d7 d8 hvD
  go_enter Try.func8, Try.ntmps8
  go_region_law (first
    | (go_simp; go_at_call 17; refine (clone_any x l S _ (by exact SliceOf.heap RByte.kept Hs.out rfl) (by exact HS.out) hl2).mono ?_; rintro e w1 ⟨v1, rfl, hc1, hb0⟩; have hb1 : Below w.heap.size w w1 := ⟨hb0.os, hb0.tape, hb0.output, hb0.size, hb0.block⟩; clear hb0; obtain ⟨A1, c1, rfl⟩ := own_shape hc1; have hcell1 := (hb1.cell (p := ⟨D, 0, none⟩) hD).trans hc; have hfr1 := (hb1.frozen (p := ⟨D, 0, none⟩) hD).trans hf; have hD1 : D < w1.heap.size := Nat.lt_of_lt_of_le hD hb1.size; have Hc1 := Lib.hid hc1; have Hb1 := Lib.hid hb1; clear hc1 hb1)
    | (refine step_append_src rfl _ _ 26 rfl base 30 (.slice none 0 0) 1 24 Try.underlying26 row_info rfl (by omega) v old.length css.flatten rfl ((own_below Hown.out Hb1.out).alloc _) (some ⟨w1.heap.size, 0, none⟩) 1 1 [.slice A1 l.length c1] rfl rfl (one_new w1 _ _) (by intro u hu; simp at hu; subst hu; exact own_one Hc1.out) (by omega) (by omega) (by have := Hb1.out.size; simp at this ⊢; omega) ?_; intro v2 w2 hown2 hg2 hat2; obtain ⟨A2, c2, rfl⟩ := own_shape hown2; have hcell2 := (hg2.cell_far ⟨D, 0, none⟩ (by have := Hb1.out.size; simp; omega) (fun e => HvD.out D e.symm rfl)).trans ((World.cell?_alloc_lt w1 _ ⟨D, 0, none⟩ (by have := Hb1.out.size; simp; omega)).trans hcell1); have hfr2 := (hg2.frozen_far ⟨D, 0, none⟩ (by have := Hb1.out.size; simp; omega) (fun e => HvD.out D e.symm rfl)).trans ((frozen_alloc w1 _ ⟨D, 0, none⟩ (by have := Hb1.out.size; simp; omega)).trans hfr1); have Hown2 := Lib.hid hown2; have Hg2 := Lib.hid hg2; have Hat2 := Lib.hid hat2; clear hown2 hg2 hat2))
  all_goals go_end0
  all_goals exact ⟨rfl, Hfin.out _ _ _ _ Hc1.out Hb1.out Hown2.out Hg2.out Hat2.out⟩
end Go.Proofs.Ytnjipfnkbfhliaa
