/- What is decided stays, and by whom: the plain law behind LearnFirm. No memory is named here. -/
import Derived.Test.YtkghogfcfocmpaaLUse
namespace Go.Proofs.Ytkghogfcfocmpaa

theorem nodup_le {α : Type} [DecidableEq α] : ∀ {l m : List α}, l.Nodup → (∀ x ∈ l, x ∈ m) → l.length ≤ m.length
  | [], _, _, _ => Nat.zero_le _
  | a :: r, m, h, hm => by
    rw [List.nodup_cons] at h
    have ha := hm a (by simp)
    have h1 := nodup_le (l := r) (m := m.erase a) h.2 (fun x hx => (List.mem_erase_of_ne (fun e => h.1 (by rw [← e]; exact hx))).2 (hm x (by simp [hx])))
    rw [List.length_erase_of_mem ha] at h1
    have := List.length_pos_of_mem ha
    simp only [List.length_cons]
    omega

structure FirmInv (q : Int) (obs : List (Int × Int × Int)) (ts : List TallyT) (ds : List Nat) : Prop where
  nd : (ts.map fun t => t.p).Nodup
  val : ∀ (t : TallyT), t ∈ ts → t.v = [UInt8.ofNat t.b.toNat] ∧ 0 ≤ t.b ∧ t.b ≤ 4
  src : ∀ (t : TallyT), t ∈ ts → t.src.Nodup ∧ ∀ (f : Int), f ∈ t.src → (t.slot, t.b, f) ∈ obs
  dec : ∀ (p : Nat), p ∈ ds → ∃ t, t ∈ ts ∧ t.p = p ∧ q ≤ t.src.length
theorem FirmInv.nil (q : Int) : FirmInv q [] [] [] := ⟨List.nodup_nil, fun t h => (by cases h), fun t h => (by cases h), fun p h => (by cases h)⟩
/-- The same tallies, with more voters. -/
def Ext (ts ts' : List TallyT) : Prop := ∀ (t : TallyT), t ∈ ts → ∃ t', t' ∈ ts' ∧ t'.p = t.p ∧ t'.slot = t.slot ∧ t'.v = t.v
theorem ext_value {ts ts' : List TallyT} {ds : List Nat} (h : Ext ts ts') (n1 : (ts.map fun t => t.p).Nodup) (n2 : (ts'.map fun t => t.p).Nodup) (hd : ∀ (p : Nat), p ∈ ds → ∃ t, t ∈ ts ∧ t.p = p) (more : List Nat) (j : Int) (v : List UInt8) (hv : valueOf ts ds j = some v) : valueOf ts' (ds ++ more) j = some v := by
  have hs : ∀ p ∈ ds, slotOf ts' p = slotOf ts p ∧ (look ts' p).map (fun t => t.v) = (look ts p).map fun t => t.v := fun p hp => by
    obtain ⟨t, ht, rfl⟩ := hd p hp
    obtain ⟨t', ht', e1, e2, e3⟩ := h t ht
    have l1 := look_mem n1 ht
    have l2 := look_mem n2 ht'
    rw [e1] at l2
    unfold slotOf
    rw [l1, l2]
    exact ⟨by show t'.slot = t.slot; exact e2, by show some t'.v = some t.v; rw [e3]⟩
  unfold valueOf at hv ⊢
  cases hf : findD ts ds j with
  | none => rw [hf] at hv; cases hv
  | some p =>
    have hp : p ∈ ds := List.mem_of_find?_eq_some hf
    have hf' : findD ts' (ds ++ more) j = some p := by
      unfold findD at hf ⊢
      rw [List.find?_append]
      have e : ds.find? (fun p => decide (slotOf ts' p = j)) = ds.find? fun p => decide (slotOf ts p = j) := by
        clear hf hp hv
        induction ds with
        | nil => rfl
        | cons a r ih =>
          rw [List.find?_cons, List.find?_cons, (hs a (by simp)).1, ih (fun p hp => hd p (by simp [hp])) (fun p hp => hs p (by simp [hp]))]
      rw [e, hf]
      rfl
    rw [hf'] 
    rw [hf] at hv
    simp only [Option.bind_some] at hv ⊢
    rw [(hs p hp).2]
    exact hv
theorem withT_cases (ts : List TallyT) (slot b : Int) (v : List UInt8) (T : Nat) : withT ts slot b v T = ts ∨ withT ts slot b v T = ts ++ [⟨T, slot, b, v, []⟩] := by
  unfold withT
  split
  · exact .inr rfl
  · exact .inl rfl
theorem firm_step {n : Int} {obs : List (Int × Int × Int)} {ts : List TallyT} {ds : List Nat} {s b f : Int} {T : Nat} (h : FirmInv (n / 2 + 1) obs ts ds) (hT : ∀ (t : TallyT), t ∈ ts → t.p ≠ T) (hb0 : 0 ≤ b) (hb4 : b ≤ 4) :
    FirmInv (n / 2 + 1) (obs ++ [(s, b, f)]) (Took n ts ds s b f [UInt8.ofNat b.toNat] T).2.1 (Took n ts ds s b f [UInt8.ofNat b.toNat] T).2.2 ∧ (∀ (j : Int) (v : List UInt8), valueOf ts ds j = some v → valueOf (Took n ts ds s b f [UInt8.ofNat b.toNat] T).2.1 (Took n ts ds s b f [UInt8.ofNat b.toNat] T).2.2 j = some v) := by
  -- the tallies with the new one
  have hw : ∃ ts1, withT ts s b [UInt8.ofNat b.toNat] T = ts1 ∧ FirmInv (n / 2 + 1) obs ts1 ds ∧ Ext ts ts1 := by
    refine ⟨_, rfl, ?_, ?_⟩
    · rcases withT_cases ts s b [UInt8.ofNat b.toNat] T with e | e
      · rw [e]; exact h
      · rw [e]
        refine ⟨?_, fun t ht => ?_, fun t ht => ?_, fun p hp => ?_⟩
        · rw [List.map_append, List.nodup_append]
          refine ⟨h.nd, by simp, fun a ha b hb e => ?_⟩
          obtain ⟨t, hm, rfl⟩ := List.mem_map.1 ha
          simp at hb
          exact hT t hm (e.trans hb)
        · rcases List.mem_append.1 ht with g | g
          · exact h.val t g
          · simp at g; subst g; exact ⟨rfl, hb0, hb4⟩
        · rcases List.mem_append.1 ht with g | g
          · exact h.src t g
          · simp at g; subst g; exact ⟨List.nodup_nil, fun f hf => by cases hf⟩
        · obtain ⟨t, ht, e1, e2⟩ := h.dec p hp
          exact ⟨t, List.mem_append.2 (.inl ht), e1, e2⟩
    · intro t ht
      rcases withT_cases ts s b [UInt8.ofNat b.toNat] T with e | e
      · rw [e]; exact ⟨t, ht, rfl, rfl, rfl⟩
      · rw [e]; exact ⟨t, List.mem_append.2 (.inl ht), rfl, rfl, rfl⟩
  obtain ⟨ts1, e1, h1, hx1⟩ := hw
  have hd : ∀ (p : Nat), p ∈ ds → ∃ t, t ∈ ts ∧ t.p = p := fun p hp => by obtain ⟨t, ht, e, _⟩ := h.dec p hp; exact ⟨t, ht, e⟩
  have hmore : FirmInv (n / 2 + 1) (obs ++ [(s, b, f)]) ts1 ds := ⟨h1.nd, h1.val, fun t ht => ⟨(h1.src t ht).1, fun g hg => List.mem_append.2 (.inl ((h1.src t ht).2 g hg))⟩, h1.dec⟩
  have hval1 : ∀ (j : Int) (v : List UInt8), valueOf ts ds j = some v → valueOf ts1 ds j = some v := fun j v hv => by
    have := ext_value hx1 h.nd h1.nd hd [] j v hv
    rwa [List.append_nil] at this
  unfold Took
  rw [e1]
  cases hfd : ts1.find? (isAt s b) with
  | none => exact ⟨hmore, hval1⟩
  | some t =>
    simp only
    have htm := List.mem_of_find?_eq_some hfd
    have hat : t.slot = s ∧ t.b = b := by have := List.find?_some hfd; unfold isAt at this; exact of_decide_eq_true this
    by_cases hv : t.v = [UInt8.ofNat b.toNat]
    · rw [if_pos hv]
      by_cases hm : f ∈ t.src
      · rw [if_pos hm]; exact ⟨hmore, hval1⟩
      · rw [if_neg hm]
        have hnd2 : ((ts1.map (addSrc t.p f)).map fun t => t.p).Nodup := (congrArg List.Nodup (map_addSrc t.p f ts1 fun p => p)).mpr h1.nd
        have hx2 : Ext ts (ts1.map (addSrc t.p f)) := fun u hu => by
          obtain ⟨u', hu', a1, a2, a3⟩ := hx1 u hu
          exact ⟨_, List.mem_map.2 ⟨u', hu', rfl⟩, by rw [addSrc_p]; exact a1, by unfold addSrc; split <;> exact a2, by unfold addSrc; split <;> exact a3⟩
        have hdec : ∀ (p : Nat), p ∈ (if n / 2 + 1 ≤ (t.src.length : Int) + 1 ∧ findD (ts1.map (addSrc t.p f)) ds s = none then ds ++ [t.p] else ds) → ∃ u, u ∈ ts1.map (addSrc t.p f) ∧ u.p = p ∧ n / 2 + 1 ≤ (u.src.length : Int) := by
          intro p hp
          have hold : p ∈ ds → ∃ u, u ∈ ts1.map (addSrc t.p f) ∧ u.p = p ∧ n / 2 + 1 ≤ (u.src.length : Int) := fun hp => by
            obtain ⟨u, hu, a1, a2⟩ := h1.dec p hp
            refine ⟨_, List.mem_map.2 ⟨u, hu, rfl⟩, by rw [addSrc_p]; exact a1, ?_⟩
            unfold addSrc
            split
            · simp only [List.length_append, List.length_singleton]; omega
            · exact a2
          split at hp
          · rename_i hc
            rcases List.mem_append.1 hp with g | g
            · exact hold g
            · simp at g
              refine ⟨_, List.mem_map.2 ⟨t, htm, rfl⟩, by rw [addSrc_p]; exact g.symm, ?_⟩
              unfold addSrc
              rw [if_pos rfl]
              simp only [List.length_append, List.length_singleton]
              omega
          · exact hold hp
        refine ⟨⟨hnd2, fun u hu => ?_, fun u hu => ?_, hdec⟩, fun j v hv => ?_⟩
        · obtain ⟨u', hu', rfl⟩ := List.mem_map.1 hu
          have := h1.val u' hu'
          unfold addSrc
          split <;> exact this
        · obtain ⟨u', hu', rfl⟩ := List.mem_map.1 hu
          by_cases e : u'.p = t.p
          · have hut := nodup_same h1.nd htm hu' e
            subst hut
            have ea : addSrc u'.p f u' = { u' with src := u'.src ++ [f] } := by unfold addSrc; rw [if_pos rfl]
            rw [ea]
            refine ⟨?_, fun g hg => ?_⟩
            · show (u'.src ++ [f]).Nodup
              rw [List.nodup_append]
              exact ⟨(h1.src u' hu').1, by simp, fun a ha b hb e => hm (by simp at hb; rw [← hb, ← e]; exact ha)⟩
            · show (u'.slot, u'.b, g) ∈ obs ++ [(s, b, f)]
              rcases List.mem_append.1 hg with k | k
              · exact List.mem_append.2 (.inl ((h1.src u' hu').2 g k))
              · simp at k
                rw [k, hat.1, hat.2]
                simp
          · have ea : addSrc t.p f u' = u' := by unfold addSrc; rw [if_neg e]
            rw [ea]
            exact hmore.src u' hu'
        · by_cases hc : n / 2 + 1 ≤ (t.src.length : Int) + 1 ∧ findD (ts1.map (addSrc t.p f)) ds s = none
          · simp only [if_pos hc]
            exact ext_value hx2 h.nd hnd2 hd [t.p] j v hv
          · simp only [if_neg hc]
            have := ext_value hx2 h.nd hnd2 hd [] j v hv
            rwa [List.append_nil] at this
    · rw [if_neg hv]; exact ⟨hmore, hval1⟩
/-- Who decided a slot: as many as make a quorum, by one ballot. -/
theorem firm_count {q : Int} {obs : List (Int × Int × Int)} {ts : List TallyT} {ds : List Nat} (h : FirmInv q obs ts ds) {j : Int} {v : List UInt8} (hv : valueOf ts ds j = some v) : ∃ b : Int, 0 ≤ b ∧ b ≤ 4 ∧ v = [UInt8.ofNat b.toNat] ∧ ∀ S : List Int, (∀ f, (j, b, f) ∈ obs → f ∈ S) → q ≤ S.length := by
  unfold valueOf at hv
  cases hf : findD ts ds j with
  | none => rw [hf] at hv; cases hv
  | some p =>
    rw [hf] at hv
    simp only [Option.bind_some] at hv
    have hp : p ∈ ds := List.mem_of_find?_eq_some hf
    obtain ⟨t, ht, rfl, hq⟩ := h.dec p hp
    have hs : slotOf ts t.p = j := by have := List.find?_some hf; exact of_decide_eq_true this
    have hl := look_mem h.nd ht
    have hsl : t.slot = j := by unfold slotOf at hs; rw [hl] at hs; exact hs
    rw [hl] at hv
    simp at hv
    obtain ⟨v1, v2, v3⟩ := h.val t ht
    refine ⟨t.b, v2, v3, by rw [← hv]; exact v1, fun S hS => ?_⟩
    have := nodup_le (h.src t ht).1 (m := S) (fun f hf => hS f (by rw [← hsl]; exact (h.src t ht).2 f hf))
    omega
theorem took_len {n : Int} {ts : List TallyT} {ds : List Nat} {s b f : Int} {v : List UInt8} {T N : Nat} (h1 : ts.length ≤ N) (h2 : ds.length ≤ N) (h3 : ∀ (t : TallyT), t ∈ ts → t.src.length ≤ N) (h4 : ∀ (t : TallyT), t ∈ ts → t.v.length ≤ 1000000000) (h5 : v.length ≤ 1000000000) :
    (Took n ts ds s b f v T).2.1.length ≤ N + 1 ∧ (Took n ts ds s b f v T).2.2.length ≤ N + 1 ∧ (∀ (t : TallyT), t ∈ (Took n ts ds s b f v T).2.1 → t.src.length ≤ N + 1) ∧ (∀ (t : TallyT), t ∈ (Took n ts ds s b f v T).2.1 → t.v.length ≤ 1000000000) := by
  have hw : (withT ts s b v T).length ≤ N + 1 ∧ (∀ (t : TallyT), t ∈ withT ts s b v T → t.src.length ≤ N) ∧ (∀ (t : TallyT), t ∈ withT ts s b v T → t.v.length ≤ 1000000000) := by
    rcases withT_cases ts s b v T with e | e
    · rw [e]; exact ⟨by omega, h3, h4⟩
    · rw [e]
      refine ⟨by simp; omega, fun t ht => ?_, fun t ht => ?_⟩
      · rcases List.mem_append.1 ht with g | g
        · exact h3 t g
        · simp at g; subst g; simp
      · rcases List.mem_append.1 ht with g | g
        · exact h4 t g
        · simp at g; subst g; exact h5
  obtain ⟨w1, w2, w3⟩ := hw
  unfold Took
  generalize withT ts s b v T = ts1 at *
  cases ts1.find? (isAt s b) with
  | none => exact ⟨w1, by simp only; omega, fun t ht => by have := w2 t ht; omega, w3⟩
  | some t =>
    simp only
    by_cases hv : t.v = v
    · rw [if_pos hv]
      by_cases hm : f ∈ t.src
      · rw [if_pos hm]; exact ⟨w1, by simp only; omega, fun t ht => by have := w2 t ht; omega, w3⟩
      · rw [if_neg hm]
        refine ⟨by simp only [List.length_map]; exact w1, ?_, fun u hu => ?_, fun u hu => ?_⟩
        · simp only
          split
          · rw [List.length_append]; simp; omega
          · omega
        · obtain ⟨u', hu', rfl⟩ := List.mem_map.1 hu
          have := w2 u' hu'
          unfold addSrc
          split
          · simp only [List.length_append, List.length_singleton]; omega
          · omega
        · obtain ⟨u', hu', rfl⟩ := List.mem_map.1 hu
          have := w3 u' hu'
          unfold addSrc
          split <;> exact this
    · rw [if_neg hv]; exact ⟨w1, by simp only; omega, fun t ht => by have := w2 t ht; omega, w3⟩
end Go.Proofs.Ytkghogfcfocmpaa
