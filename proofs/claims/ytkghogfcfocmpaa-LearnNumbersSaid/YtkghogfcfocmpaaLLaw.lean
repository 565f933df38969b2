/- The learner and the reference go side by side: the plain law behind LearnPlays and LearnNumbers. No memory is named here. -/
import Derived.Test.YtkghogfcfocmpaaLRTake
import Derived.Test.YtkghogfcfocmpaaLLen
import Derived.Test.YtkghogfcfocmpaaLFirm1
namespace Go.Proofs.Ytkghogfcfocmpaa

def srcAt (ts : List TallyT) (s b : Int) : List Int := ((ts.find? (isAt s b)).map fun t => t.src).getD []
structure Joint (n low : Int) (ts : List TallyT) (ds : List Nat) (L : List TakeT) (Ds : List DoneT) : Prop where
  nd : (ts.map fun t => t.p).Nodup
  dec : ∀ (p : Nat), p ∈ ds → ∃ t, t ∈ ts ∧ t.p = p
  uniq : ∀ (t : TallyT), t ∈ ts → ts.find? (isAt t.slot t.b) = some t
  key : ∀ (s b : Int), srcAt ts s b = (hits L s b).map fun x => x.frm
  val : ∀ (t : TallyT), t ∈ ts → ∀ x, x ∈ hits L t.slot t.b → x.v = t.v
  same : ∀ (s : Int), valueOf ts ds s = doneAt Ds s
  full : ∀ (t : TallyT), t ∈ ts → n / 2 + 1 ≤ (t.src.length : Int) → findD ts ds t.slot ≠ none
  voted : ∀ (t : TallyT), t ∈ ts → t.src ≠ []
  rng : ∀ (t : TallyT), t ∈ ts → low ≤ t.slot ∧ t.slot < low + 32
theorem Joint.nil (n low : Int) : Joint n low [] [] [] [] :=
  ⟨List.nodup_nil, fun p h => (by cases h), fun t h => (by cases h), fun _ _ => rfl, fun t h => (by cases h), fun _ => rfl, fun t h => (by cases h), fun t h => (by cases h), fun t h => (by cases h)⟩
theorem isAt_iff {s b : Int} {t : TallyT} : isAt s b t = true ↔ t.slot = s ∧ t.b = b := by unfold isAt; exact decide_eq_true_iff
theorem find_none_iff {ts : List TallyT} {ds : List Nat} (n1 : (ts.map fun t => t.p).Nodup) (hd : ∀ (p : Nat), p ∈ ds → ∃ t, t ∈ ts ∧ t.p = p) (s : Int) : findD ts ds s = none ↔ valueOf ts ds s = none := by
  unfold valueOf
  cases hf : findD ts ds s with
  | none => simp
  | some p =>
    obtain ⟨t, ht, rfl⟩ := hd p (List.mem_of_find?_eq_some hf)
    rw [Option.bind_some, look_mem n1 ht]
    simp
/-- What Len tells is the same. -/
theorem Joint.len {n low : Int} {ts : List TallyT} {ds : List Nat} {L : List TakeT} {Ds : List DoneT} (h : Joint n low ts ds L Ds) : (several (ts.map fun t => t.slot)).length = slotsOf L low 32 := by
  have hsv : ∀ (l acc : List Int), acc.Nodup → (l.foldl putNew acc).Nodup ∧ ∀ x, x ∈ l.foldl putNew acc ↔ x ∈ acc ∨ x ∈ l := by
    intro l
    induction l with
    | nil => intro acc ha; exact ⟨ha, fun x => by simp⟩
    | cons y r ih =>
      intro acc ha
      rw [List.foldl_cons]
      have hp : (putNew acc y).Nodup ∧ ∀ x, x ∈ putNew acc y ↔ x ∈ acc ∨ x = y := by
        unfold putNew
        by_cases hy : y ∈ acc
        · rw [if_pos hy]; exact ⟨ha, fun x => ⟨.inl, fun e => e.elim id (fun e => e ▸ hy)⟩⟩
        · rw [if_neg hy]
          refine ⟨?_, fun x => by simp⟩
          rw [List.nodup_append]
          exact ⟨ha, by simp, fun a h1 c h2 e => by simp at h2; subst h2; exact hy (e ▸ h1)⟩
      obtain ⟨q1, q2⟩ := ih _ hp.1
      refine ⟨q1, fun x => ?_⟩
      rw [q2, hp.2]
      simp [or_assoc]
  obtain ⟨n1, m1⟩ := hsv (ts.map fun t => t.slot) [] List.nodup_nil
  have hmem : ∀ s, seenAt L s = true ↔ ∃ t, t ∈ ts ∧ t.slot = s := by
    intro s
    unfold seenAt
    rw [List.any_eq_true]
    constructor
    · rintro ⟨x, hx, hs⟩
      have hs := of_decide_eq_true hs
      have hk := h.key x.slot x.b
      have hin : x ∈ hits L x.slot x.b := List.mem_filter.2 ⟨hx, by simp⟩
      cases hf : ts.find? (isAt x.slot x.b) with
      | none =>
        unfold srcAt at hk
        rw [hf] at hk
        have : x.frm ∈ (hits L x.slot x.b).map fun x => x.frm := List.mem_map.2 ⟨x, hin, rfl⟩
        rw [← hk] at this
        simp at this
      | some t => exact ⟨t, List.mem_of_find?_eq_some hf, by rw [(isAt_iff.1 (List.find?_some hf)).1, hs]⟩
    · rintro ⟨t, ht, rfl⟩
      have hk := h.key t.slot t.b
      unfold srcAt at hk
      rw [h.uniq t ht] at hk
      have hne := h.voted t ht
      cases hh : hits L t.slot t.b with
      | nil => rw [hh] at hk; exact absurd hk hne
      | cons x r =>
        have hx : x ∈ hits L t.slot t.b := by rw [hh]; simp
        obtain ⟨hx1, hx2⟩ := List.mem_filter.1 hx
        exact ⟨x, hx1, decide_eq_true (of_decide_eq_true hx2).1⟩
  obtain ⟨R, hR⟩ : ∃ R, R = (List.range 32).filter fun q => seenAt L (low + (q : Nat)) := ⟨_, rfl⟩
  have hRn : R.Nodup := by rw [hR]; exact List.nodup_range.sublist List.filter_sublist
  have hmap : (R.map fun q : Nat => low + (q : Int)).Nodup := by
    have : ∀ R : List Nat, R.Nodup → (R.map fun q : Nat => low + (q : Int)).Nodup := by
      intro R
      induction R with
      | nil => simp
      | cons a r ih =>
        intro hn
        rw [List.nodup_cons] at hn
        rw [List.map_cons, List.nodup_cons]
        refine ⟨fun hm => ?_, ih hn.2⟩
        obtain ⟨y, hy, e⟩ := List.mem_map.1 hm
        have : y = a := by omega
        exact hn.1 (this ▸ hy)
    exact this R hRn
  have hm2 : ∀ s, s ∈ (R.map fun q : Nat => low + (q : Int)) ↔ s ∈ several (ts.map fun t => t.slot) := by
    intro s
    unfold several
    rw [m1]
    simp only [List.not_mem_nil, false_or, List.mem_map]
    constructor
    · rintro ⟨q, hq, rfl⟩
      rw [hR] at hq
      exact (hmem _).1 (List.mem_filter.1 hq).2
    · rintro ⟨t, ht, rfl⟩
      have hr := h.rng t ht
      refine ⟨(t.slot - low).toNat, ?_, by omega⟩
      rw [hR]
      refine List.mem_filter.2 ⟨List.mem_range.2 (by omega), ?_⟩
      have e : low + (((t.slot - low).toNat : Nat) : Int) = t.slot := by omega
      rw [e]
      exact (hmem _).2 ⟨t, ht, rfl⟩
  have l1 := nodup_le hmap (fun x hx => (hm2 x).1 hx)
  have l2 := nodup_le n1 (m := R.map fun q : Nat => low + (q : Int)) (fun x hx => (hm2 x).2 hx)
  rw [List.length_map] at l1 l2
  unfold slotsOf
  rw [← hR]
  unfold several at l1 ⊢
  omega
theorem find_congr {α : Type} {f g : α → Bool} {l : List α} (h : ∀ x ∈ l, f x = g x) : l.find? f = l.find? g := by
  induction l with
  | nil => rfl
  | cons a r ih => rw [List.find?_cons, List.find?_cons, h a (by simp), ih (fun x hx => h x (by simp [hx]))]
theorem find_filter {α : Type} (q f : α → Bool) (l : List α) : (l.filter q).find? f = l.find? fun x => q x && f x := by
  induction l with
  | nil => rfl
  | cons a r ih =>
    by_cases h : q a = true
    · rw [List.filter_cons_of_pos h, List.find?_cons, List.find?_cons, h, ih]; simp
    · rw [List.filter_cons_of_neg h, ih, List.find?_cons]; simp [h]
theorem hits_kept (s : Int) (L : List TakeT) (s' b' : Int) : hits (keptL s L) s' b' = if s' < s then [] else hits L s' b' := by
  unfold hits keptL
  rw [List.filter_filter]
  by_cases h : s' < s
  · rw [if_pos h, List.filter_eq_nil_iff]
    intro x _ hx
    simp at hx
    omega
  · rw [if_neg h]
    refine List.filter_congr fun x _ => ?_
    by_cases hx : x.slot = s' ∧ x.b = b'
    · simp [hx]; omega
    · simp [hx]
theorem done_kept (s : Int) (Ds : List DoneT) (j : Int) : doneAt (keptDone s Ds) j = if j < s then none else doneAt Ds j := by
  unfold doneAt keptDone
  rw [find_filter]
  by_cases h : j < s
  · rw [if_pos h, Option.map_eq_none_iff, List.find?_eq_none]
    intro x _ hx
    simp at hx
    omega
  · rw [if_neg h]
    congr 1
    refine find_congr fun x _ => ?_
    by_cases hx : x.slot = j
    · simp [hx]; omega
    · simp [hx]
theorem find_kept (s : Int) (ts : List TallyT) (s' b' : Int) : (keptT s ts).find? (isAt s' b') = if s' < s then none else ts.find? (isAt s' b') := by
  unfold keptT
  rw [find_filter]
  by_cases h : s' < s
  · rw [if_pos h, List.find?_eq_none]
    intro x _ hx
    simp [young, isAt] at hx
    omega
  · rw [if_neg h]
    refine find_congr fun x _ => ?_
    by_cases hx : x.slot = s' ∧ x.b = b'
    · simp [young, isAt, hx]; omega
    · simp [isAt, hx]
theorem kept_dec {ts : List TallyT} {ds : List Nat} (n1 : (ts.map fun t => t.p).Nodup) (hd : ∀ (p : Nat), p ∈ ds → ∃ t, t ∈ ts ∧ t.p = p) (s : Int) (p : Nat) (hp : p ∈ keptD s ts ds) : ∃ t, t ∈ keptT s ts ∧ t.p = p := by
  obtain ⟨hp1, hp2⟩ := List.mem_filter.1 hp
  obtain ⟨t, ht, rfl⟩ := hd p hp1
  refine ⟨t, List.mem_filter.2 ⟨ht, ?_⟩, rfl⟩
  unfold oldAt at hp2
  rw [slotOf_mem n1 ht] at hp2
  exact hp2
theorem findD_kept {ts : List TallyT} {ds : List Nat} (n1 : (ts.map fun t => t.p).Nodup) (hd : ∀ (p : Nat), p ∈ ds → ∃ t, t ∈ ts ∧ t.p = p) (s j : Int) : findD (keptT s ts) (keptD s ts ds) j = if j < s then none else findD ts ds j := by
  have n2 : ((keptT s ts).map fun t => t.p).Nodup := n1.sublist (List.filter_sublist.map _)
  have e1 : findD (keptT s ts) (keptD s ts ds) j = (keptD s ts ds).find? fun p => decide (slotOf ts p = j) := by
    unfold findD
    refine find_congr fun p hp => ?_
    obtain ⟨t, ht, rfl⟩ := kept_dec n1 hd s p hp
    rw [slotOf_mem n2 ht, slotOf_mem n1 (List.mem_filter.1 ht).1]
  rw [e1]
  unfold keptD
  rw [find_filter]
  by_cases h : j < s
  · rw [if_pos h, List.find?_eq_none]
    intro p _ hp
    simp [oldAt] at hp
    omega
  · rw [if_neg h]
    unfold findD
    refine find_congr fun p _ => ?_
    by_cases hx : slotOf ts p = j
    · simp [oldAt, hx]; omega
    · simp [hx]
theorem value_kept {ts : List TallyT} {ds : List Nat} (n1 : (ts.map fun t => t.p).Nodup) (hd : ∀ (p : Nat), p ∈ ds → ∃ t, t ∈ ts ∧ t.p = p) (s j : Int) : valueOf (keptT s ts) (keptD s ts ds) j = if j < s then none else valueOf ts ds j := by
  have n2 : ((keptT s ts).map fun t => t.p).Nodup := n1.sublist (List.filter_sublist.map _)
  have hf := findD_kept n1 hd s j
  unfold valueOf
  rw [hf]
  by_cases h : j < s
  · rw [if_pos h, if_pos h]; rfl
  · rw [if_neg h, if_neg h]
    rw [if_neg h] at hf
    cases hfd : findD ts ds j with
    | none => rfl
    | some p =>
      rw [hfd] at hf
      obtain ⟨t, ht, rfl⟩ := kept_dec n1 hd s p (List.mem_of_find?_eq_some hf)
      rw [Option.bind_some, Option.bind_some, look_mem n2 ht, look_mem n1 (List.mem_filter.1 ht).1]
/-- Both forget. -/
theorem Joint.forget {n low : Int} {ts : List TallyT} {ds : List Nat} {L : List TakeT} {Ds : List DoneT} (h : Joint n low ts ds L Ds) (s : Int) (hs : low < s) : Joint n s (keptT s ts) (keptD s ts ds) (keptL s L) (keptDone s Ds) := by
  have hy : ∀ t, t ∈ keptT s ts → t ∈ ts ∧ ¬ t.slot < s := fun t ht => by
    obtain ⟨h1, h2⟩ := List.mem_filter.1 ht
    unfold young at h2
    exact ⟨h1, by simpa using h2⟩
  refine ⟨h.nd.sublist (List.filter_sublist.map _), kept_dec h.nd h.dec s, fun t ht => ?_, fun s' b' => ?_, fun t ht x hx => ?_, fun j => ?_, fun t ht hq => ?_, fun t ht => h.voted t (hy t ht).1, fun t ht => ?_⟩
  · rw [find_kept, if_neg (hy t ht).2]; exact h.uniq t (hy t ht).1
  · unfold srcAt
    rw [find_kept, hits_kept]
    by_cases hj : s' < s
    · rw [if_pos hj, if_pos hj]; rfl
    · rw [if_neg hj, if_neg hj]; exact h.key s' b'
  · rw [hits_kept, if_neg (hy t ht).2] at hx
    exact h.val t (hy t ht).1 x hx
  · rw [value_kept h.nd h.dec, done_kept, h.same]
  · rw [findD_kept h.nd h.dec, if_neg (hy t ht).2]
    exact h.full t (hy t ht).1 hq
  · have := h.rng t (hy t ht).1
    have := (hy t ht).2
    omega
end Go.Proofs.Ytkghogfcfocmpaa
