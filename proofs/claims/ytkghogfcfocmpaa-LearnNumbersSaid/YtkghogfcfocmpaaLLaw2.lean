/- A vote, at the learner and at the reference: the plain law. No memory is named here. -/
import Derived.Test.YtkghogfcfocmpaaLLaw
namespace Go.Proofs.Ytkghogfcfocmpaa

theorem hits_push (L : List TakeT) (x : TakeT) (s b : Int) : hits (L ++ [x]) s b = hits L s b ++ if x.slot = s ∧ x.b = b then [x] else [] := by
  unfold hits
  rw [List.filter_append]
  congr 1
  by_cases hx : x.slot = s ∧ x.b = b <;> simp [hx]
theorem findD_push (ts : List TallyT) (ds : List Nat) (p : Nat) (j : Int) : findD ts (ds ++ [p]) j = (findD ts ds j).or (if slotOf ts p = j then some p else none) := by
  unfold findD
  rw [List.find?_append]
  congr 1
  by_cases h : slotOf ts p = j <;> simp [h]
theorem done_push (Ds : List DoneT) (s : Int) (v : List UInt8) (j : Int) : doneAt (Ds ++ [⟨s, v⟩]) j = (doneAt Ds j).or (if s = j then some v else none) := by
  unfold doneAt
  rw [List.find?_append]
  by_cases h : s = j
  · cases (Ds.find? fun d => decide (d.slot = j)) <;> simp [h]
  · cases (Ds.find? fun d => decide (d.slot = j)) <;> simp [h]
theorem ext_find {ts ts' : List TallyT} {ds : List Nat} (h : Ext ts ts') (n1 : (ts.map fun t => t.p).Nodup) (n2 : (ts'.map fun t => t.p).Nodup) (hd : ∀ (p : Nat), p ∈ ds → ∃ t, t ∈ ts ∧ t.p = p) (j : Int) : findD ts' ds j = findD ts ds j ∧ valueOf ts' ds j = valueOf ts ds j := by
  have hs : ∀ p ∈ ds, slotOf ts' p = slotOf ts p ∧ (look ts' p).map (fun t => t.v) = (look ts p).map fun t => t.v := fun p hp => by
    obtain ⟨t, ht, rfl⟩ := hd p hp
    obtain ⟨t', ht', e1, e2, e3⟩ := h t ht
    have l1 := look_mem n1 ht
    have l2 := look_mem n2 ht'
    rw [e1] at l2
    unfold slotOf
    rw [l1, l2]
    exact ⟨by show t'.slot = t.slot; exact e2, by show some t'.v = some t.v; rw [e3]⟩
  have hf : findD ts' ds j = findD ts ds j := by
    unfold findD
    exact find_congr fun p hp => by rw [(hs p hp).1]
  refine ⟨hf, ?_⟩
  unfold valueOf
  rw [hf]
  cases hfd : findD ts ds j with
  | none => rfl
  | some p => rw [Option.bind_some, Option.bind_some, (hs p (List.mem_of_find?_eq_some hfd)).2]
theorem Joint.put {n low : Int} {ts ts' : List TallyT} {ds : List Nat} {L : List TakeT} {Ds : List DoneT} {s b f : Int} {v : List UInt8} {t' : TallyT} (h : Joint n low ts ds L Ds) (m1 : t' ∈ ts') (m2 : ∀ u, u ∈ ts' → u = t' ∨ (u ∈ ts ∧ ¬ (u.slot = s ∧ u.b = b)))
    (e1 : t'.slot = s) (e2 : t'.b = b) (e3 : t'.v = v) (e4 : t'.src = srcAt ts s b ++ [f]) (nd' : (ts'.map fun t => t.p).Nodup) (fnd : ts'.find? (isAt s b) = some t') (fo : ∀ s' b', ¬ (s' = s ∧ b' = b) → ts'.find? (isAt s' b') = ts.find? (isAt s' b')) (ext : Ext ts ts')
    (hv : ∀ x, x ∈ hits L s b → x.v = v) (hr : low ≤ s ∧ s < low + 32) :
    Joint n low ts' (if n / 2 + 1 ≤ (t'.src.length : Int) ∧ findD ts' ds s = none then ds ++ [t'.p] else ds) (L ++ [⟨s, b, f, v⟩]) (if doneAt Ds s = none ∧ n / 2 + 1 ≤ (((hits L s b).length + 1 : Nat) : Int) then Ds ++ [⟨s, v⟩] else Ds) := by
  have hE := fun j => ext_find ext h.nd nd' h.dec j
  have hsl : slotOf ts' t'.p = s := by rw [slotOf_mem nd' m1, e1]
  have hlen : t'.src.length = (hits L s b).length + 1 := by rw [e4, h.key, List.length_append, List.length_map]; rfl
  have hnone : findD ts' ds s = none ↔ doneAt Ds s = none := by rw [(hE s).1, find_none_iff h.nd h.dec, h.same]
  have hdec' : ∀ (p : Nat), p ∈ ds → ∃ t, t ∈ ts' ∧ t.p = p := fun p hp => by
    obtain ⟨t, ht, rfl⟩ := h.dec p hp
    obtain ⟨t2, ht2, e, _⟩ := ext t ht
    exact ⟨t2, ht2, e⟩
  have hkey : ∀ s' b', srcAt ts' s' b' = (hits (L ++ [⟨s, b, f, v⟩]) s' b').map fun x => x.frm := fun s' b' => by
    rw [hits_push]
    by_cases hsb : s' = s ∧ b' = b
    · obtain ⟨rfl, rfl⟩ := hsb
      simp only [and_self, if_true]
      rw [List.map_append, ← h.key]
      unfold srcAt
      rw [fnd]
      show t'.src = _
      rw [e4]
      rfl
    · have hsb2 : ¬ (s = s' ∧ b = b') := fun e => hsb ⟨e.1.symm, e.2.symm⟩
      simp only [hsb2, if_false, List.append_nil]
      rw [← h.key]
      unfold srcAt
      rw [fo s' b' hsb]
  have huniq : ∀ t, t ∈ ts' → ts'.find? (isAt t.slot t.b) = some t := fun t ht => by
    rcases m2 t ht with rfl | ⟨g1, g2⟩
    · rw [e1, e2]; exact fnd
    · rw [fo t.slot t.b g2]; exact h.uniq t g1
  have hval : ∀ t, t ∈ ts' → ∀ x, x ∈ hits (L ++ [⟨s, b, f, v⟩]) t.slot t.b → x.v = t.v := fun t ht x hx => by
    rw [hits_push] at hx
    rcases m2 t ht with rfl | ⟨g1, g2⟩
    · rw [e1, e2] at hx
      rw [e3]
      rcases List.mem_append.1 hx with e | e
      · exact hv x e
      · simp at e; rw [e]
    · have g3 : ¬ (s = t.slot ∧ b = t.b) := fun e => g2 ⟨e.1.symm, e.2.symm⟩
      simp only [g3, if_false, List.append_nil] at hx
      exact h.val t g1 x hx
  have hsome : ∀ t, t ∈ ts' → t.src ≠ [] := fun t ht => by
    rcases m2 t ht with rfl | ⟨g1, g2⟩
    · rw [e4]; simp
    · exact h.voted t g1
  have hrng : ∀ t, t ∈ ts' → low ≤ t.slot ∧ t.slot < low + 32 := fun t ht => by
    rcases m2 t ht with rfl | ⟨g1, g2⟩
    · rw [e1]; exact hr
    · exact h.rng t g1
  by_cases hc : n / 2 + 1 ≤ (t'.src.length : Int) ∧ findD ts' ds s = none
  · rw [if_pos hc, if_pos ⟨hnone.1 hc.2, by rw [← hlen]; exact hc.1⟩]
    refine ⟨nd', fun p hp => ?_, huniq, hkey, hval, fun j => ?_, fun t ht hq => ?_, hsome, hrng⟩
    · rcases List.mem_append.1 hp with e | e
      · exact hdec' p e
      · simp at e; exact ⟨t', m1, e.symm⟩
    · have hpush : valueOf ts' (ds ++ [t'.p]) j = (valueOf ts' ds j).or (if s = j then some v else none) := by
        unfold valueOf
        rw [findD_push, hsl]
        cases hfd : findD ts' ds j with
        | some p =>
          obtain ⟨t2, ht2, rfl⟩ := hdec' p (List.mem_of_find?_eq_some hfd)
          rw [Option.some_or, Option.bind_some, look_mem nd' ht2]
          rfl
        | none =>
          rw [Option.none_or, Option.bind_none, Option.none_or]
          by_cases hj : s = j
          · rw [if_pos hj, if_pos hj, Option.bind_some, look_mem nd' m1]
            show some t'.v = some v
            rw [e3]
          · rw [if_neg hj, if_neg hj]; rfl
      rw [hpush, done_push, ← h.same, (hE j).2]
    · rw [findD_push, hsl]
      rcases m2 t ht with rfl | ⟨g1, g2⟩
      · rw [e1, if_pos rfl]
        cases findD ts' ds s <;> simp
      · have := h.full t g1 hq
        rw [← (hE t.slot).1] at this
        cases hfd : findD ts' ds t.slot with
        | none => exact absurd hfd this
        | some p => simp
  · have hc2 : ¬ (doneAt Ds s = none ∧ n / 2 + 1 ≤ (((hits L s b).length + 1 : Nat) : Int)) := fun e => hc ⟨by rw [hlen]; exact e.2, hnone.2 e.1⟩
    rw [if_neg hc, if_neg hc2]
    refine ⟨nd', hdec', huniq, hkey, hval, fun j => by rw [(hE j).2]; exact h.same j, fun t ht hq => ?_, hsome, hrng⟩
    rcases m2 t ht with rfl | ⟨g1, g2⟩
    · rw [e1]; exact fun e => hc ⟨hq, e⟩
    · rw [(hE t.slot).1]; exact h.full t g1 hq
/-- A vote within its bounds. -/
theorem Joint.take {n low : Int} {ts : List TallyT} {ds : List Nat} {L : List TakeT} {Ds : List DoneT} (h : Joint n low ts ds L Ds) (s b f : Int) (v : List UInt8) (T : Nat) (hT : ∀ (t : TallyT), t ∈ ts → t.p ≠ T) (hr : low ≤ s ∧ s < low + 32) :
    (Took n ts ds s b f v T).1 = (RTook n L Ds s b f v).1 ∧ Joint n low (Took n ts ds s b f v T).2.1 (Took n ts ds s b f v T).2.2 (RTook n L Ds s b f v).2.1 (RTook n L Ds s b f v).2.2 := by
  have hk := h.key s b
  cases hf : ts.find? (isAt s b) with
  | none =>
    have hw : withT ts s b v T = ts ++ [⟨T, s, b, v, []⟩] := by
      unfold withT firstAt
      have : ts.findIdx? (isAt s b) = none := by
        rw [List.findIdx?_eq_none_iff]
        intro x hx
        rw [List.find?_eq_none] at hf
        simpa using hf x hx
      rw [this]
    have hfw : (withT ts s b v T).find? (isAt s b) = some ⟨T, s, b, v, []⟩ := by rw [hw, List.find?_append, hf]; simp [isAt]
    have hmap : (withT ts s b v T).map (addSrc T f) = ts ++ [⟨T, s, b, v, [f]⟩] := by
      rw [hw, List.map_append]
      congr 1
      · have : ∀ t ∈ ts, addSrc T f t = t := fun t ht => by unfold addSrc; rw [if_neg (hT t ht)]
        rw [List.map_congr_left this, List.map_id']
      · simp [addSrc]
    have hs0 : srcAt ts s b = [] := by unfold srcAt; rw [hf]; rfl
    have hh : hits L s b = [] := by rw [hs0] at hk; exact List.map_eq_nil_iff.1 hk.symm
    have h1 : Took n ts ds s b f v T = (true, ts ++ [⟨T, s, b, v, [f]⟩], if n / 2 + 1 ≤ (((⟨T, s, b, v, [f]⟩ : TallyT).src.length : Nat) : Int) ∧ findD (ts ++ [⟨T, s, b, v, [f]⟩]) ds s = none then ds ++ [T] else ds) := by
      unfold Took
      rw [hfw]
      simp only [if_true, List.not_mem_nil, if_false, hmap]
      rfl
    have h2 : RTook n L Ds s b f v = (true, L ++ [⟨s, b, f, v⟩], if doneAt Ds s = none ∧ n / 2 + 1 ≤ (((hits L s b).length + 1 : Nat) : Int) then Ds ++ [⟨s, v⟩] else Ds) := by
      have hb : badIn L s b v = false := by unfold badIn; rw [hh]; rfl
      have hm : mineIn L s b f = false := by unfold mineIn; rw [hh]; rfl
      unfold RTook withL
      rw [hb, hm]
      rfl
    rw [h1, h2]
    refine ⟨rfl, h.put (t' := ⟨T, s, b, v, [f]⟩) (by simp) (fun u hu => ?_) rfl rfl rfl (by rw [hs0]; rfl) ?_ ?_ (fun s' b' hsb => ?_) (fun t ht => ⟨t, by simp [ht], rfl, rfl, rfl⟩) (fun x hx => by rw [hh] at hx; cases hx) hr⟩
    · rcases List.mem_append.1 hu with e | e
      · refine .inr ⟨e, fun g => ?_⟩
        rw [List.find?_eq_none] at hf
        exact hf u e (isAt_iff.2 g)
      · simp at e; exact .inl e
    · rw [List.map_append, List.nodup_append]
      refine ⟨h.nd, by simp, fun a ha c hc e => ?_⟩
      obtain ⟨t, ht, rfl⟩ := List.mem_map.1 ha
      simp at hc
      exact hT t ht (by rw [e, hc])
    · rw [List.find?_append, hf]; simp [isAt]
    · rw [List.find?_append]
      have : ([⟨T, s, b, v, [f]⟩] : List TallyT).find? (isAt s' b') = none := by
        rw [List.find?_eq_none]
        intro x hx hxx
        simp at hx
        subst hx
        have := isAt_iff.1 hxx
        exact hsb ⟨this.1.symm, this.2.symm⟩
      rw [this]
      simp
  | some t =>
    have htm := List.mem_of_find?_eq_some hf
    obtain ⟨hts, htb⟩ := isAt_iff.1 (List.find?_some hf)
    have hs0 : srcAt ts s b = t.src := by unfold srcAt; rw [hf]; rfl
    have hw : withT ts s b v T = ts := by
      unfold withT firstAt
      cases hi : ts.findIdx? (isAt s b) with
      | none =>
        rw [List.findIdx?_eq_none_iff] at hi
        have := hi t htm
        rw [isAt_iff.2 ⟨hts, htb⟩] at this
        cases this
      | some k => rfl
    have hne : hits L s b ≠ [] := fun e => by
      rw [hs0, e] at hk
      exact h.voted t htm hk
    have hvv : ∀ x, x ∈ hits L s b → x.v = t.v := fun x hx => h.val t htm x (by rw [hts, htb]; exact hx)
    by_cases hv : t.v = v
    · have hb : badIn L s b v = false := by
        unfold badIn
        rw [List.any_eq_false]
        intro x hx
        simp [hvv x hx, hv]
      have hmine : mineIn L s b f = decide (f ∈ t.src) := by
        rw [hs0] at hk
        rw [hk]
        unfold mineIn
        rw [Bool.eq_iff_iff, List.any_eq_true, decide_eq_true_iff, List.mem_map]
        exact ⟨fun ⟨x, h1, h2⟩ => ⟨x, h1, of_decide_eq_true h2⟩, fun ⟨x, h1, h2⟩ => ⟨x, h1, decide_eq_true h2⟩⟩
      by_cases hm : f ∈ t.src
      · have h1 : Took n ts ds s b f v T = (true, ts, ds) := by unfold Took; rw [hw, hf]; simp only [hv, if_true, hm]
        have h2 : RTook n L Ds s b f v = (true, L, Ds) := by
          unfold RTook withL
          rw [hb, hmine, decide_eq_true hm]
          have hno : ¬ (doneAt Ds s = none ∧ n / 2 + 1 ≤ (((hits L s b).length + oneMore true : Nat) : Int)) := fun e => by
            have hl : t.src.length = (hits L s b).length := by rw [← hs0, hk, List.length_map]
            have hq : n / 2 + 1 ≤ (t.src.length : Int) := by rw [hl]; exact e.2
            have := h.full t htm hq
            rw [hts] at this
            exact this ((find_none_iff h.nd h.dec s).2 (by rw [h.same]; exact e.1))
          rw [if_neg hno]
          rfl
        rw [h1, h2]
        exact ⟨rfl, h⟩
      · have h1 : Took n ts ds s b f v T = (true, ts.map (addSrc t.p f), if n / 2 + 1 ≤ (((⟨t.p, t.slot, t.b, t.v, t.src ++ [f]⟩ : TallyT).src.length : Nat) : Int) ∧ findD (ts.map (addSrc t.p f)) ds s = none then ds ++ [t.p] else ds) := by
          unfold Took
          rw [hw, hf]
          simp only [hv, if_true, hm, if_false, List.length_append, List.length_singleton]
          rfl
        have h2 : RTook n L Ds s b f v = (true, L ++ [⟨s, b, f, v⟩], if doneAt Ds s = none ∧ n / 2 + 1 ≤ (((hits L s b).length + 1 : Nat) : Int) then Ds ++ [⟨s, v⟩] else Ds) := by
          unfold RTook withL
          rw [hb, hmine, decide_eq_false hm]
          rfl
        rw [h1, h2]
        have hadd : addSrc t.p f t = ⟨t.p, t.slot, t.b, t.v, t.src ++ [f]⟩ := by unfold addSrc; rw [if_pos rfl]
        have hother : ∀ u, u ∈ ts → u ≠ t → addSrc t.p f u = u := fun u hu hne => by
          unfold addSrc
          rw [if_neg (fun e => hne (nodup_same h.nd htm hu e))]
        have hfm : ∀ s' b', (ts.map (addSrc t.p f)).find? (isAt s' b') = (ts.find? (isAt s' b')).map (addSrc t.p f) := fun s' b' => by
          rw [List.find?_map]
          congr 1
          refine find_congr fun u _ => ?_
          show isAt s' b' (addSrc t.p f u) = isAt s' b' u
          unfold addSrc
          split <;> rfl
        refine ⟨rfl, h.put (t' := ⟨t.p, t.slot, t.b, t.v, t.src ++ [f]⟩) (List.mem_map.2 ⟨t, htm, hadd⟩) (fun u hu => ?_) hts htb hv (by rw [hs0]) ?_ ?_ (fun s' b' hsb => ?_) (fun u hu => ⟨addSrc t.p f u, List.mem_map.2 ⟨u, hu, rfl⟩, addSrc_p _ _ _, by unfold addSrc; split <;> rfl, by unfold addSrc; split <;> rfl⟩) (fun x hx => by rw [hvv x hx, hv]) hr⟩
        · obtain ⟨u0, hu0, rfl⟩ := List.mem_map.1 hu
          by_cases he : u0 = t
          · subst he; exact .inl hadd
          · rw [hother u0 hu0 he]
            refine .inr ⟨hu0, fun g => he ?_⟩
            have := h.uniq u0 hu0
            rw [g.1, g.2, hf] at this
            exact (Option.some.inj this).symm
        · have := map_addSrc t.p f ts (fun p => p)
          rw [this]
          exact h.nd
        · rw [hfm, hf, Option.map_some, hadd]
        · rw [hfm]
          cases hfo : ts.find? (isAt s' b') with
          | none => rfl
          | some u =>
            obtain ⟨g1, g2⟩ := isAt_iff.1 (List.find?_some hfo)
            rw [Option.map_some, hother u (List.mem_of_find?_eq_some hfo) (fun e => hsb ⟨by rw [← g1, e, hts], by rw [← g2, e, htb]⟩)]
    · have h1 : Took n ts ds s b f v T = (false, ts, ds) := by unfold Took; rw [hw, hf]; simp only [hv, if_false]
      have h2 : RTook n L Ds s b f v = (false, L, Ds) := by
        have hb : badIn L s b v = true := by
          unfold badIn
          rw [List.any_eq_true]
          cases hh : hits L s b with
          | nil => exact absurd hh hne
          | cons x r =>
            have hx : x ∈ hits L s b := by rw [hh]; simp
            refine ⟨x, by simp, ?_⟩
            rw [hvv x hx]
            simpa using hv
        unfold RTook
        rw [if_pos hb]
      rw [h1, h2]
      exact ⟨rfl, h⟩
end Go.Proofs.Ytkghogfcfocmpaa
