/- The contract of the reference's Same, and of the statements' own helper 'known'. -/
import Derived.Test.YtpnecbhbdfdijaaPickRef
import Derived.Test.YtpnecbhbdfdijaaWithin
namespace Go.Proofs.Ytpnecbhbdfdijaa
open Go.RowKit

theorem SliceOf.up {α : Type} {R : Rep α} (hR : Rep.Kept R) {size : Nat} {w : World} {v : Value} {l : List α} {g N : Nat} (h : SliceOf R size w (fun k => k < g) v l) (hg : g ≤ w.heap.size) (hN : g ≤ N) (o : Obj) : SliceOf R size (w.alloc o) (fun k => k < N) v l :=
  SliceOf.below hR h ((Below.refl _ _).alloc (Nat.le_refl _) o) (fun _ h => Nat.lt_of_lt_of_le h hg) (fun _ h => Nat.lt_of_lt_of_le h hN)
theorem votes_lit1 {w : World} {bv : Value} {s b : Int} {v : List UInt8} {g N : Nat} (h : BytesAt w (fun k => k < g) bv v) (hg : g = w.heap.size) (hN : N = g + 1) : SliceOf RVote 3 (w.alloc (.cells #[.int .i64 s, .int .i64 b, bv] 24)) (fun k => k < N) (.slice (some ⟨g, 0, none⟩) 1 1) [(⟨s, b, v⟩ : VoteT)] := by
  subst hg hN
  refine SliceOf.lit RVote.kept (css := [[.int .i64 s, .int .i64 b, bv]]) (S := fun k => k < w.heap.size) (l := [(⟨s, b, v⟩ : VoteT)]) ?_ (heap_alloc_new w _) rfl (by simp) (fun k g => by omega) (by simp)
  exact (RowsOf.nil RVote 3 _ _).snoc (cs := [.int .i64 s, .int .i64 b, bv]) (x := ⟨s, b, v⟩) rfl ⟨bv, rfl, SliceOf.below RByte.kept h ((Below.refl _ _).alloc (Nat.le_refl _) _) (fun _ g => g) (fun _ g => g)⟩
theorem votes_lit2 {w : World} {bv bv' : Value} {s b s' b' : Int} {v v' : List UInt8} {g N : Nat} (h : BytesAt w (fun k => k < g) bv v) (h' : BytesAt w (fun k => k < g) bv' v') (hg : g = w.heap.size) (hN : N = g + 1) : SliceOf RVote 3 (w.alloc (.cells #[.int .i64 s, .int .i64 b, bv, .int .i64 s', .int .i64 b', bv'] 24)) (fun k => k < N) (.slice (some ⟨g, 0, none⟩) 2 2) [(⟨s, b, v⟩ : VoteT), ⟨s', b', v'⟩] := by
  subst hg hN
  refine SliceOf.lit RVote.kept (css := [[.int .i64 s, .int .i64 b, bv], [.int .i64 s', .int .i64 b', bv']]) (S := fun k => k < w.heap.size) (l := [(⟨s, b, v⟩ : VoteT), ⟨s', b', v'⟩]) ?_ (heap_alloc_new w _) rfl (by simp) (fun k g => by omega) (by simp)
  exact ((RowsOf.nil RVote 3 _ _).snoc (cs := [.int .i64 s, .int .i64 b, bv]) (x := ⟨s, b, v⟩) rfl ⟨bv, rfl, SliceOf.below RByte.kept h ((Below.refl _ _).alloc (Nat.le_refl _) _) (fun _ g => g) (fun _ g => g)⟩).snoc (cs := [.int .i64 s', .int .i64 b', bv']) (x := ⟨s', b', v'⟩) rfl ⟨bv', rfl, SliceOf.below RByte.kept h' ((Below.refl _ _).alloc (Nat.le_refl _) _) (fun _ g => g) (fun _ g => g)⟩
theorem lists_lit2 {w : World} {v1 v2 : Value} {l1 l2 : List VoteT} {g N : Nat} (h1 : SliceOf RVote 3 w (fun k => k < g) v1 l1) (h2 : SliceOf RVote 3 w (fun k => k < g) v2 l2) (hg : g = w.heap.size) (hN : N = g + 1) : SliceOf RVotes 1 (w.alloc (.cells #[v1, v2] 25)) (fun k => k < N) (.slice (some ⟨g, 0, none⟩) 2 2) [l1, l2] := by
  subst hg hN
  refine SliceOf.lit RVotes.kept (css := [[v1], [v2]]) (S := fun k => k < w.heap.size) (l := [l1, l2]) ?_ (heap_alloc_new w _) rfl (by simp) (fun k g => by omega) (by simp)
  exact ((RowsOf.nil RVotes 1 _ _).snoc (cs := [v1]) (x := l1) rfl ⟨v1, rfl, SliceOf.below RVote.kept h1 ((Below.refl _ _).alloc (Nat.le_refl _) _) (fun _ g => g) (fun _ g => g)⟩).snoc (cs := [v2]) (x := l2) rfl ⟨v2, rfl, SliceOf.below RVote.kept h2 ((Below.refl _ _).alloc (Nat.le_refl _) _) (fun _ g => g) (fun _ g => g)⟩
theorem lists_lit3 {w : World} {v1 v2 v3 : Value} {l1 l2 l3 : List VoteT} {g N : Nat} (h1 : SliceOf RVote 3 w (fun k => k < g) v1 l1) (h2 : SliceOf RVote 3 w (fun k => k < g) v2 l2) (h3 : SliceOf RVote 3 w (fun k => k < g) v3 l3) (hg : g = w.heap.size) (hN : N = g + 1) : SliceOf RVotes 1 (w.alloc (.cells #[v1, v2, v3] 25)) (fun k => k < N) (.slice (some ⟨g, 0, none⟩) 3 3) [l1, l2, l3] := by
  subst hg hN
  refine SliceOf.lit RVotes.kept (css := [[v1], [v2], [v3]]) (S := fun k => k < w.heap.size) (l := [l1, l2, l3]) ?_ (heap_alloc_new w _) rfl (by simp) (fun k g => by omega) (by simp)
  exact (((RowsOf.nil RVotes 1 _ _).snoc (cs := [v1]) (x := l1) rfl ⟨v1, rfl, SliceOf.below RVote.kept h1 ((Below.refl _ _).alloc (Nat.le_refl _) _) (fun _ g => g) (fun _ g => g)⟩).snoc (cs := [v2]) (x := l2) rfl ⟨v2, rfl, SliceOf.below RVote.kept h2 ((Below.refl _ _).alloc (Nat.le_refl _) _) (fun _ g => g) (fun _ g => g)⟩).snoc (cs := [v3]) (x := l3) rfl ⟨v3, rfl, SliceOf.below RVote.kept h3 ((Below.refl _ _).alloc (Nat.le_refl _) _) (fun _ g => g) (fun _ g => g)⟩
theorem bytes_lit1 (w : World) (c : Int) (u : UInt8) (g N : Nat) (hu : byteV u = .int .u8 c) (hg : g = w.heap.size) (hN : N = g + 1) : BytesAt (w.alloc (.cells #[.int .u8 c] 5 (1, 2))) (fun k => k < N) (.slice (some ⟨g, 0, none⟩) 1 1) [u] := by
  subst hg hN
  exact SliceOf.below (B := w.heap.size + 1) RByte.kept (bytes_lit w #[.int .u8 c] [u] (1, 2) (by simp [hu]) (by simp)) (Below.refl _ _) (fun k e => by omega) (fun k e => by omega)

/-- Two votes by value, in lists of one each: what 'known' asks. -/
theorem known_lit (w : World) : SliceOf RVotes 1 (((((w.alloc (.cells #[.int .u8 120] 5 (1, 2))).alloc (.cells #[.int .i64 1, .int .i64 5, .slice (some ⟨w.heap.size, 0, none⟩) 1 1] 24)).alloc (.cells #[.int .u8 121] 5 (1, 2))).alloc (.cells #[.int .i64 1, .int .i64 6, .slice (some ⟨w.heap.size + 2, 0, none⟩) 1 1] 24)).alloc (.cells #[.slice (some ⟨w.heap.size + 1, 0, none⟩) 1 1, .slice (some ⟨w.heap.size + 3, 0, none⟩) 1 1] 25)) (fun k => k < w.heap.size + 5) (.slice (some ⟨w.heap.size + 4, 0, none⟩) 2 2) [[⟨1, 5, [120]⟩], [⟨1, 6, [121]⟩]] := by
  have a1 := votes_lit1 (s := 1) (b := 5) (N := w.heap.size + 2) (bytes_lit1 w 120 120 _ (w.heap.size + 1) rfl rfl rfl) (by simp) rfl
  have a2 := a1.up RVote.kept (N := w.heap.size + 3) (by simp) (by omega) (.cells #[.int .u8 121] 5 (1, 2))
  have b1 := votes_lit1 (s := 1) (b := 6) (N := w.heap.size + 4) (bytes_lit1 ((w.alloc (.cells #[.int .u8 120] 5 (1, 2))).alloc (.cells #[.int .i64 1, .int .i64 5, .slice (some ⟨w.heap.size, 0, none⟩) 1 1] 24)) 121 121 (w.heap.size + 2) (w.heap.size + 3) rfl (by simp) rfl) (by simp) rfl
  have a3 := a2.up RVote.kept (N := w.heap.size + 4) (by simp) (by omega) (.cells #[.int .i64 1, .int .i64 6, .slice (some ⟨w.heap.size + 2, 0, none⟩) 1 1] 24)
  exact lists_lit2 a3 b1 (by simp) rfl

set_option maxHeartbeats 1000000 in
theorem same_any (a b : Value) (l : List VoteT) (S S' : Nat → Prop) (w : World) (ha : SliceOf RVote 3 w S a l) (hb : SliceOf RVote 3 w S' b l) :
    Calls Try.prog 7 #[a, b] w fun e w' => e = .returned (.bool true) ∧ ∃ n, w' = w.drewN n := by
  have Ha := Lib.hid ha
  have Hb := Lib.hid hb
  obtain ⟨A, ca, rfl, a1, a2, _⟩ := ha
  obtain ⟨B, cb, rfl, b1, b2, _⟩ := hb
  have hmax : l.length ≤ 9223372036854775807 := by unfold maxLen at a2; omega
  clear a2 b2
  go_enter Try.func7, Try.ntmps7
  go_wp2_with fail
  go_loopw [5] (fun i wr => ∃ k : Nat, k ≤ l.length ∧ i = .int .i64 k ∧ ∃ n, wr = w.drewN n) (fun i _ => l.length - (intOf i).toNat)
  case atStart => exact ⟨0, Nat.zero_le _, rfl, 0, rfl⟩
  case round =>
    obtain ⟨k, hk, rfl, n, rfl⟩ := hrel
    by_cases hlt : k < l.length
    · obtain ⟨r, hr⟩ : ∃ r, l[k]? = some r := ⟨l[k], List.getElem?_eq_getElem hlt⟩
      obtain ⟨ba, oa, rfl, _, cs, ⟨x, rfl, hx⟩, _, hc⟩ := Ha.out.at hr
      obtain ⟨bb, ob, rfl, _, cs', ⟨y, rfl, hy⟩, _, hc'⟩ := Hb.out.at hr
      obtain ⟨rs, rb, rv⟩ := r
      simp only at hx hy hc hc'
      have hx0 : w.cell? ⟨ba, oa + k * 3, none⟩ = some (.int .i64 rs) := by simpa using hc 0 _ rfl
      have hx1 : w.cell? ⟨ba, oa + k * 3 + 1, none⟩ = some (.int .i64 rb) := by have := hc 1 _ rfl; rwa [← Nat.add_assoc] at this
      have hx2 : w.cell? ⟨ba, oa + k * 3 + 2, none⟩ = some x := by have := hc 2 _ rfl; rwa [← Nat.add_assoc] at this
      have hy0 : w.cell? ⟨bb, ob + k * 3, none⟩ = some (.int .i64 rs) := by simpa using hc' 0 _ rfl
      have hy1 : w.cell? ⟨bb, ob + k * 3 + 1, none⟩ = some (.int .i64 rb) := by have := hc' 1 _ rfl; rwa [← Nat.add_assoc] at this
      have hy2 : w.cell? ⟨bb, ob + k * 3 + 2, none⟩ = some y := by have := hc' 2 _ rfl; rwa [← Nat.add_assoc] at this
      have kx : ∀ n, (convert 22 9 x).run Try.prog (w.drewN n) = .ok (.string ⟨rv.toArray⟩) (w.drewN n) := fun n => conv_bytes hx Try.underlying22 Try.underlying5 Try.underlying9 (fun _ _ => rfl)
      have ky : ∀ n, (convert 22 9 y).run Try.prog (w.drewN n) = .ok (.string ⟨rv.toArray⟩) (w.drewN n) := fun n => conv_bytes hy Try.underlying22 Try.underlying5 Try.underlying9 (fun _ _ => rfl)
      clear hx hy hc hc' hr
      go_wp2_with fail
      go_quiet (fail)
      go_wp2_with fail
      go_roundw
      case rel => exact ⟨k + 1, by omega, by go_num, _, rfl⟩
      case measure => simp [intOf]; omega
    · go_wp2_with fail
      go_ret
      exact ⟨rfl, n, rfl⟩

def SameEnd (w : World) (e : Ending) (w' : World) : Prop := e = .returned (.bool true) ∧ Below w.heap.size w w'
set_option maxRecDepth 100000 in
set_option maxHeartbeats 1000000 in
theorem known_any (w : World) : Calls Try.prog 10 #[] w (SameEnd w) := by
  have L0 := Lib.hid (known_lit w)
  have B0 := Lib.hid (((((((Below.refl w.heap.size w).alloc (Nat.le_refl _) (.cells #[.int .u8 120] 5 (1, 2))).alloc (by simp) (.cells #[.int .i64 1, .int .i64 5, .slice (some ⟨w.heap.size, 0, none⟩) 1 1] 24)).alloc (by simp; omega) (.cells #[.int .u8 121] 5 (1, 2))).alloc (by simp; omega) (.cells #[.int .i64 1, .int .i64 6, .slice (some ⟨w.heap.size + 2, 0, none⟩) 1 1] 24)).alloc (by simp; omega) (.cells #[.slice (some ⟨w.heap.size + 1, 0, none⟩) 1 1, .slice (some ⟨w.heap.size + 3, 0, none⟩) 1 1] 25)))
  have kc := const_rule
  go_enter Try.func10, Try.ntmps10
  go_wp2_with fail
  refine (choose_any 0 _ [[⟨1, 5, [120]⟩], [⟨1, 6, [121]⟩]] (fun k => k < w.heap.size + 5) _ (by omega) (by omega) L0.out (fun k h => by simpa using h) (by intro l hl x hx; simp at hl; rcases hl with rfl | rfl <;> simp at hx <;> subst hx <;> refine ⟨by decide, by decide, by decide, by decide, by decide⟩) (by intro l hl; simp at hl; rcases hl with rfl | rfl <;> simp)).mono ?_
  rintro e w1 ⟨v1, rfl, h1, b1⟩
  have hres : choose 0 [[⟨1, 5, [120]⟩], [⟨1, 6, [121]⟩]] = [⟨0, -1, []⟩, ⟨1, 6, [121]⟩] := by rfl
  rw [hres] at h1
  have H1 := Lib.hid h1
  obtain ⟨A, cap, rfl⟩ := slice_shape h1
  have hbw : Below w.heap.size w w1 := B0.out.trans (b1.mono (by simp; omega))
  have Hbw := Lib.hid hbw
  obtain ⟨b, o, rfl, _, cs, ⟨bv, rfl, hbv⟩, _, hc⟩ := H1.out.at (i := 0) (x := ⟨0, -1, []⟩) rfl
  obtain ⟨b', o', e', _, cs', ⟨bv', rfl, hbv'⟩, _, hc'⟩ := H1.out.at (i := 1) (x := ⟨1, 6, [121]⟩) rfl
  injection e' with e'
  injection e' with e1 e2
  subst e1 e2
  have g1 : w1.cell? ⟨b, o + 1, none⟩ = some (.int .i64 (-1)) := by simpa using hc 1 _ rfl
  have g2 : w1.cell? ⟨b, o + 2, none⟩ = some bv := by simpa using hc 2 _ rfl
  have g3 : w1.cell? ⟨b, o + 3 + 1, none⟩ = some (.int .i64 6) := by simpa using hc' 1 _ rfl
  have g4 : w1.cell? ⟨b, o + 3 + 2, none⟩ = some bv' := by simpa using hc' 2 _ rfl
  obtain ⟨Ab, cb, rfl⟩ := slice_shape hbv
  have ky : (convert 22 9 bv').run Try.prog w1 = .ok (.string ⟨#[121]⟩) w1 := conv_bytes hbv' Try.underlying22 Try.underlying5 Try.underlying9 (fun _ _ => rfl)
  clear h1 hres b1 hbw hbv hbv' hc hc' L0 B0 kc
  go_wp2_with fail
  refine (choose_any 0 _ [] (fun _ => False) _ (by omega) (by omega) (SliceOf.nil RVotes 1 _ _) (fun _ h => h.elim) (by simp) (by simp)).mono ?_
  rintro e w2 ⟨v2, rfl, h2, b2⟩
  have hres2 : choose 0 [] = [] := by rfl
  rw [hres2] at h2
  obtain ⟨A2, c2, rfl⟩ := slice_shape h2
  have hend := Lib.hid (Hbw.out.trans (b2.mono Hbw.out.size))
  clear h2 hres2 b2
  go_wp2_with fail
  go_ret
  exact ⟨rfl, hend.out⟩
end Go.Proofs.Ytpnecbhbdfdijaa
