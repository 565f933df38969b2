/- The contract of slices.Delete of one message. -/
import Derived.Test.YtelgnemlnhcdmaaNMsg
namespace Go.Proofs.Ytelgnemlnhcdmaa
open Go.RowKit

theorem run_clear_one {P : Program} (w : World) (t e ty : TypeId) (z : Value) (zs : List Value) (ht : P.underlying t = some (.slice e)) (hv : ∀ w, (zeroValue e).run P w = .ok z w) (hz : z.cells = zs.toArray) (h1 : ∀ u ∈ zs, u.oneCell' = true) (b o c : Nat)
    (hc : ∀ j, j < zs.length → (w.cell? ⟨b, o + j, none⟩).isSome = true) (hf : ∀ j, j < zs.length → w.frozen? ⟨b, o + j, none⟩ = false) :
    (Builtin.clear_ #[t] ty #[.slice (some ⟨b, o, none⟩) 1 c]).run P w = .ok (.tuple #[]) (w.setCells b o zs) := by
  have hzc : (Builtin.zeroCells zs.toArray 1).toList = zs := by
    apply List.ext_getElem
    · simp [Builtin.zeroCells]
    · intro i h1 h2
      simp [Builtin.zeroCells, Nat.mod_eq_of_lt h2, h2]
  have hst := run_storeCells_cells (P := P) b o zs 0 w (by simpa using hc) (by simpa using hf) h1
  simp only [Nat.add_zero] at hst
  simp [Builtin.clear_, run_underlying ht, hv, hz, hzc, hst]
theorem msg_zero (w : World) : (zeroValue 31).run Try.prog w = .ok (.agg #[.int .i64 0, .int .i64 0, .int .i64 0, .int .i64 0, .int .i64 0, .int .i64 0, .int .i64 0, .int .i64 0, .slice none 0 0, .slice none 0 0]) w := by
  obtain ⟨i, hi, hz, _, _⟩ := info_parts msg_info
  simp [zeroValue, typeInfo, hi, hz]
theorem msg_clear (w : World) (ty : TypeId) (b o c : Nat) (hc : ∀ j, j < 10 → (w.cell? ⟨b, o + j, none⟩).isSome = true) (hf : ∀ j, j < 10 → w.frozen? ⟨b, o + j, none⟩ = false) :
    (Builtin.clear_ #[43] ty #[.slice (some ⟨b, o, none⟩) 1 c]).run Try.prog w = .ok (.tuple #[]) (w.setCells b o msgZero) := by
  have hz : (Value.agg #[.int .i64 0, .int .i64 0, .int .i64 0, .int .i64 0, .int .i64 0, .int .i64 0, .int .i64 0, .int .i64 0, .slice none 0 0, .slice none 0 0]).cells = msgZero.toArray := by simp [Value.cells]
  have h1 : ∀ u ∈ msgZero, u.oneCell' = true := by intro u hu; simp at hu; rcases hu with rfl | rfl <;> rfl
  exact run_clear_one (P := Try.prog) w 43 31 ty _ msgZero Try.underlying43 msg_zero hz h1 b o c hc hf
theorem drop_flat {css : List (List Value)} {size : Nat} (h : ∀ cs ∈ css, cs.length = size) (i : Nat) : css.flatten.drop (i * size) = (css.drop i).flatten := by
  induction css generalizing i with
  | nil => simp
  | cons a r ih =>
    have ha := h a (by simp)
    cases i with
    | zero => simp
    | succ i =>
      rw [List.flatten_cons, List.drop_succ_cons, Nat.succ_mul, ← ih (fun cs hc => h cs (by simp [hc])) i, List.drop_append, ha]
      rw [List.drop_of_length_le (by omega)]
      simp
theorem take_flat {css : List (List Value)} {size : Nat} (h : ∀ cs ∈ css, cs.length = size) (i : Nat) : css.flatten.take (i * size) = (css.take i).flatten := by
  induction css generalizing i with
  | nil => simp
  | cons a r ih =>
    have ha := h a (by simp)
    cases i with
    | zero => simp
    | succ i =>
      rw [List.flatten_cons, List.take_succ_cons, List.flatten_cons, Nat.succ_mul, ← ih (fun cs hc => h cs (by simp [hc])) i, List.take_append, ha]
      rw [List.take_of_length_le (by omega)]
      congr 2
      omega
def DelEnd (B g c n i : Nat) (css : List (List Value)) (w : World) (e : Ending) (w' : World) : Prop :=
  e = .returned (.slice (some ⟨g, 0, none⟩) (n - 1) c) ∧ w'.ownsRow B 31 10 (.slice (some ⟨g, 0, none⟩) (n - 1) c) (n - 1) (css.eraseIdx i).flatten ∧ Touch (fun k => k = g) w w'
set_option maxHeartbeats 1000000 in
theorem delete_any (B g c n i : Nat) (css : List (List Value)) (w : World) (hown : w.ownsRow B 31 10 (.slice (some ⟨g, 0, none⟩) n c) n css.flatten) (hl : css.length = n) (hsz : ∀ cs ∈ css, cs.length = 10) (h1 : ∀ u ∈ css.flatten, u.oneCell' = true) (hi : i < n) (hn : n ≤ 1000000) :
    Calls Try.prog 15 #[.slice (some ⟨g, 0, none⟩) n c, .int .i64 i, .int .i64 ((i : Int) + 1)] w (DelEnd B g c n i css w) := by
  obtain ⟨i0, hi0, hz0, hz1, hz2⟩ := info_parts msg_info
  rcases hown.2 with ⟨hv, _⟩ | ⟨g', cap, cur, hv, hB, hgb, hnc, hcm, hcs, hct⟩
  · cases hv
  injection hv with e1 e2 e3
  injection e1 with e1
  injection e1 with e1
  subst e1 e3
  clear e2
  have hfl := flatten_length hsz
  have hcurl : cur.toList.length = c * 10 := by simp [hcs]
  obtain ⟨news, hnews⟩ : ∃ news, news = (css.drop (i + 1)).flatten := ⟨_, rfl⟩
  have hnews' : news = css.flatten.drop ((i + 1) * 10) := by rw [hnews, drop_flat hsz]
  have hlen : news.length = (n - (i + 1)) * 10 := by rw [hnews', List.length_drop, hfl, hl]; omega
  have hblk : Blk w g 31 cur := hgb
  have hcellg : ∀ j, w.cell? ⟨g, j, none⟩ = cur[j]? := fun j => hblk.cell j
  have hget : ∀ t u, news[t]? = some u → cur[(i + 1) * 10 + t]? = some u := fun t u hu => by
    rw [hnews', List.getElem?_drop, ← hct] at hu
    rw [List.getElem?_take] at hu
    split at hu
    · rwa [← Array.getElem?_toList]
    · cases hu
  obtain ⟨cur1, hb1, hs1, ht1⟩ := Blk.many news (i * 10) w.drew cur hblk (by rw [hlen, hcs]; omega)
  obtain ⟨W1, hW1⟩ : ∃ W1, W1 = w.drew.setCells g (i * 10) news := ⟨_, rfl⟩
  rw [← hW1] at hb1
  obtain ⟨cur2, hb2, hs2, ht2⟩ := Blk.many msgZero ((n - 1) * 10) W1 cur1 hb1 (by simp [hs1, hcs]; omega)
  have hT : Touch (fun k => k = g) w W1 := by rw [hW1]; exact (Touch.drewN _ w 1).trans (Touch.many (T := fun k => k = g) rfl news _ _) (fun _ _ h => h)
  have hT2 : Touch (fun k => k = g) w (W1.setCells g ((n - 1) * 10) msgZero) := hT.trans (Touch.many (T := fun k => k = g) rfl _ _ _) (fun _ _ h => h)
  have hfin : cur2.toList.take ((n - 1) * 10) = (css.eraseIdx i).flatten := by
    have hl1 : cur1.toList.length = c * 10 := by simp [hs1, hcs]
    rw [ht2, List.append_assoc, List.take_append_of_le_length (by rw [List.length_take]; omega), List.take_take, Nat.min_self, ht1, List.append_assoc, ← List.append_assoc, List.take_append_of_le_length (by rw [List.length_append, List.length_take, hlen]; omega), List.take_of_length_le (by rw [List.length_append, List.length_take, hlen]; omega)]
    rw [List.eraseIdx_eq_take_drop_succ, List.flatten_append, ← take_flat hsz, ← hnews, ← hct, List.take_take, Nat.min_eq_left (show i * 10 ≤ n * 10 by omega)]
  have hend : DelEnd B g c n i css w (.returned (.slice (some ⟨g, 0, none⟩) (n - 1) c)) (W1.setCells g ((n - 1) * 10) msgZero) := by
    refine ⟨rfl, ⟨?_, .inr ⟨g, c, cur2, rfl, hB, hb2, by omega, hcm, by rw [hs2, hs1, hcs], hfin⟩⟩, hT2⟩
    rw [← hfin, List.length_take]
    have : cur2.toList.length = c * 10 := by simp [hs2, hs1, hcs]
    omega
  have hcl := fun ty => msg_clear W1 ty g ((n - 1) * 10) (c - (n - 1)) (fun j hj => by
      rw [hb1.cell, Array.getElem?_eq_getElem (by omega)]
      rfl) (fun j _ => hb1.frozen _)
  obtain ⟨A, hA, hsrc⟩ : ∃ A : Addr, (if c = i + 1 then some (⟨g, 0, none⟩ : Addr) else some ⟨g, (i + 1) * 10, none⟩) = some A ∧ Hid (∀ t u, news[t]? = some u → w.drew.cell? (A.add t) = some u) := by
    by_cases h : c = i + 1
    · refine ⟨⟨g, 0, none⟩, by simp [h], fun t u hu => ?_⟩
      have h0 : news.length = 0 := by rw [hlen]; omega
      rw [List.length_eq_zero_iff.1 h0] at hu
      simp at hu
    · refine ⟨⟨g, (i + 1) * 10, none⟩, by simp [h], fun t u hu => ?_⟩
      rw [WideShapes.add_plain]
      exact (hcellg _).trans (hget t u hu)
  have hcl' : ∀ ty, (Builtin.clear_ #[43] ty #[.slice (some ⟨g, (n - 1) * 10, none⟩) (n - (n - 1)) (c - (n - 1))]).run Try.prog W1 = .ok (.tuple #[]) (W1.setCells g ((n - 1) * 10) msgZero) := fun ty => by
    rw [show n - (n - 1) = 1 by omega]; exact hcl ty
  have Hend := Lib.hid hend
  have s1 := Lib.hid hlen
  have s2 : Hid (∀ u ∈ news, u.oneCell' = true) := Lib.hid (fun u hu => h1 u (by rw [hnews'] at hu; exact List.mem_of_mem_drop hu))
  have s3 : Hid (∀ t, t < news.length → (w.drew.cell? ⟨g, 0 + i * 10 + t, none⟩).isSome = true ∧ w.drew.frozen? ⟨g, 0 + i * 10 + t, none⟩ = false) := Lib.hid (fun t ht => by
    rw [hlen] at ht
    rw [Nat.zero_add]
    exact ⟨by show (w.cell? _).isSome = true; rw [hcellg, Array.getElem?_eq_getElem (by omega)]; rfl, hblk.frozen _⟩)
  have hW : Hid (W1 = w.drew.setCells g (i * 10) news) := Lib.hid hW1
  have hcm' : c ≤ 9223372036854775807 := by unfold maxLen at hcm; omega
  have e1 : ((i : Int) == (i : Int) + 1) = false := by rw [beq_eq_false_iff_ne]; omega
  have hic : i ≤ c := by omega
  have hjc : i + 1 ≤ c := by omega
  have k0 : (0 : Int) ≤ (i : Int) + 1 := by omega
  have k1 : (i : Int) + 1 ≤ n := by omega
  clear hcl hend hW1 hT hT2 hfin hb2 hs2 ht2 hb1 hs1 ht1 hget hcellg hblk hlen hnews' hnews hfl hcurl hct hcs hcm hgb hown hsz h1 hl hz0 hz2
  go_enter Try.func15, Try.ntmps15
  go_wp2_with fail
  go_region_law (refine step_append_room rfl (.tmp 22) (.tmp 25) 43 rfl 31 i0 10 Try.underlying43 hi0 hz1 g 0 i c (by simp [Act.eval, Act.put]) A (n - (i + 1)) (c - (i + 1)) news (by simp [Act.eval, Act.put]) s1.out hsrc.out s2.out (by omega) s3.out ?_; rw [Nat.zero_add, ← hW.out, show i + (n - (i + 1)) = n - 1 by omega])
  go_wp2_with fail
  go_ret
  exact Hend.out
end Go.Proofs.Ytelgnemlnhcdmaa
