/- What must be proposed, in plain words: no program is named here. -/
namespace Go.Proofs.Ytpnecbhbdfdijaa

structure VoteT where
  slot : Int
  ballot : Int
  v : List UInt8
instance : Inhabited VoteT := ⟨⟨0, 0, []⟩⟩

def better (acc : Option VoteT) (v : VoteT) : Option VoteT :=
  match acc with
  | none => some v
  | some b => if b.ballot < v.ballot then some v else some b
/-- The best vote for a slot. -/
def bestStep (s : Int) (acc : Option VoteT) (v : VoteT) : Option VoteT := if v.slot = s then better acc v else acc
def bestAt (s : Int) (vs : List VoteT) : Option VoteT := vs.foldl (bestStep s) none
/-- Is the vote in reach? -/
def inReach (f : Int) (v : VoteT) : Bool := decide (f ≤ v.slot) && decide (v.slot - f < 16)
def widthStep (f : Int) (m : Nat) (v : VoteT) : Nat := if inReach f v then max m ((v.slot - f).toNat + 1) else m
def width (f : Int) (vs : List VoteT) : Nat := vs.foldl (widthStep f) 0
def outOf (s : Int) (o : Option VoteT) : VoteT :=
  match o with
  | none => ⟨s, -1, []⟩
  | some b => ⟨s, b.ballot, b.v⟩
def outAt (f : Int) (vs : List VoteT) (i : Nat) : VoteT := outOf (f + i) (bestAt (f + i) vs)
def firsts (f : Int) (vs : List VoteT) (n : Nat) : List VoteT := (List.range n).map (outAt f vs)
def chooseL (f : Int) (vs : List VoteT) : List VoteT := firsts f vs (width f vs)
def choose (f : Int) (ls : List (List VoteT)) : List VoteT := if f < 0 then [] else chooseL f ls.flatten

theorem bestAt_snoc (s : Int) (vs : List VoteT) (v : VoteT) : bestAt s (vs ++ [v]) = bestStep s (bestAt s vs) v := by simp [bestAt, List.foldl_append]
theorem width_snoc (f : Int) (vs : List VoteT) (v : VoteT) : width f (vs ++ [v]) = widthStep f (width f vs) v := by simp [width, List.foldl_append]
theorem inReach_iff {f : Int} {v : VoteT} : inReach f v = true ↔ f ≤ v.slot ∧ v.slot - f < 16 := by simp [inReach]
theorem snoc_ind {α : Type} {P : List α → Prop} (h0 : P []) (h1 : ∀ l x, P l → P (l ++ [x])) (l : List α) : P l := by
  rw [← List.reverse_reverse l]
  induction l.reverse with
  | nil => exact h0
  | cons a r ih => rw [List.reverse_cons]; exact h1 _ _ ih
theorem width_le (f : Int) (vs : List VoteT) : width f vs ≤ 16 := by
  induction vs using snoc_ind with
  | h0 => exact Nat.zero_le _
  | h1 l x ih =>
    rw [width_snoc]; unfold widthStep
    split
    · rename_i h; rw [inReach_iff] at h; omega
    · exact ih
/-- Nobody voted from the width on. -/
theorem best_none (f : Int) (vs : List VoteT) (i : Nat) (h : width f vs ≤ i) (h2 : i < 16) : bestAt (f + i) vs = none := by
  induction vs using snoc_ind with
  | h0 => rfl
  | h1 l x ih =>
    rw [width_snoc] at h
    rw [bestAt_snoc]
    unfold widthStep at h
    unfold bestStep
    split at h
    · rename_i hr
      rw [inReach_iff] at hr
      rw [if_neg (by omega)]
      exact ih (by omega)
    · rename_i hr
      rw [inReach_iff] at hr
      rw [if_neg (by omega)]
      exact ih h
theorem firsts_length (f : Int) (vs : List VoteT) (n : Nat) : (firsts f vs n).length = n := by simp [firsts]
theorem firsts_get (f : Int) (vs : List VoteT) {n i : Nat} (h : i < n) : (firsts f vs n)[i]? = some (outAt f vs i) := by
  simp [firsts, List.getElem?_map, List.getElem?_range h]
theorem firsts_succ (f : Int) (vs : List VoteT) (n : Nat) : firsts f vs (n + 1) = firsts f vs n ++ [outAt f vs n] := by
  simp [firsts, List.range_succ]
theorem firsts_pad (f : Int) (vs : List VoteT) (n : Nat) (h : width f vs ≤ n) (h2 : n < 16) : firsts f vs (n + 1) = firsts f vs n ++ [⟨f + n, -1, []⟩] := by
  rw [firsts_succ]; unfold outAt; rw [best_none f vs n h h2]; rfl

/-- A vote out of reach changes nothing. -/
theorem choose_far (f : Int) (vs : List VoteT) (v : VoteT) (h : inReach f v = false) : chooseL f (vs ++ [v]) = chooseL f vs := by
  have hw : width f (vs ++ [v]) = width f vs := by rw [width_snoc]; unfold widthStep; rw [if_neg (by simp [h])]
  unfold chooseL firsts
  rw [hw]
  refine List.map_congr_left fun i hi => ?_
  have hi' : i < width f vs := List.mem_range.1 hi
  have := width_le f vs
  unfold outAt
  rw [bestAt_snoc]
  unfold bestStep
  rw [if_neg]
  intro e
  have : inReach f v = true := inReach_iff.2 ⟨by omega, by omega⟩
  rw [h] at this; cases this
theorem best_far (f : Int) (vs : List VoteT) (v : VoteT) (h : inReach f v = false) (j : Nat) (hj : j < 16) : bestAt (f + j) (vs ++ [v]) = bestAt (f + j) vs := by
  rw [bestAt_snoc]; unfold bestStep
  rw [if_neg]
  intro e
  have : inReach f v = true := inReach_iff.2 ⟨by omega, by omega⟩
  rw [h] at this; cases this
theorem width_near (f : Int) (vs : List VoteT) (v : VoteT) (h : inReach f v = true) : width f (vs ++ [v]) = max (width f vs) ((v.slot - f).toNat + 1) := by
  rw [width_snoc]; unfold widthStep; rw [if_pos h]
theorem best_near (f : Int) (vs : List VoteT) (v : VoteT) (i : Nat) (hi : v.slot = f + i) : bestAt (f + i) (vs ++ [v]) = better (bestAt (f + i) vs) v := by
  rw [bestAt_snoc]; unfold bestStep; rw [if_pos hi]
theorem best_other (f : Int) (vs : List VoteT) (v : VoteT) (i j : Nat) (hi : v.slot = f + i) (hj : j ≠ i) : bestAt (f + j) (vs ++ [v]) = bestAt (f + j) vs := by
  rw [bestAt_snoc]; unfold bestStep; rw [if_neg (by omega)]
theorem set_map_range {α : Type} (g g' : Nat → α) (n i : Nat) (h : ∀ j, j < n → j ≠ i → g' j = g j) : (List.range n).map g' = ((List.range n).map g).set i (g' i) := by
  refine List.ext_getElem? fun j => ?_
  rw [List.getElem?_set, List.getElem?_map, List.getElem?_map]
  by_cases hj : j < n
  · rw [List.getElem?_range hj]
    by_cases e : i = j
    · subst e
      rw [if_pos rfl]
      simp [hj]
    · rw [if_neg e]
      simp [h j hj (fun e' => e e'.symm)]
  · have : (List.range n)[j]? = none := by simp; omega
    rw [this]
    by_cases e : i = j
    · subst e; simp [hj]
    · rw [if_neg e]; rfl
/-- A vote in reach that is taken. -/
theorem choose_taken (f : Int) (vs : List VoteT) (v : VoteT) (i n : Nat) (hi : v.slot = f + i) (hn : n = max (width f vs) (i + 1)) (h16 : i < 16) (ht : better (bestAt (f + i) vs) v = some v) :
    chooseL f (vs ++ [v]) = (firsts f vs n).set i ⟨f + i, v.ballot, v.v⟩ := by
  have hr : inReach f v = true := inReach_iff.2 ⟨by omega, by omega⟩
  have hw : width f (vs ++ [v]) = n := by rw [width_near f vs v hr, hn]; congr 2; omega
  unfold chooseL firsts
  rw [hw, set_map_range (outAt f vs) (outAt f (vs ++ [v])) n i (fun j _ hne => by unfold outAt; rw [best_other f vs v i j hi hne])]
  congr 1
  unfold outAt
  rw [best_near f vs v i hi, ht]; rfl
/-- A vote in reach that is not. -/
theorem choose_left (f : Int) (vs : List VoteT) (v : VoteT) (i n : Nat) (hi : v.slot = f + i) (hn : n = max (width f vs) (i + 1)) (h16 : i < 16) (ht : better (bestAt (f + i) vs) v = bestAt (f + i) vs) :
    chooseL f (vs ++ [v]) = firsts f vs n := by
  have hr : inReach f v = true := inReach_iff.2 ⟨by omega, by omega⟩
  have hw : width f (vs ++ [v]) = n := by rw [width_near f vs v hr, hn]; congr 2; omega
  unfold chooseL firsts
  rw [hw]
  refine List.map_congr_left fun j _ => ?_
  unfold outAt
  by_cases e : j = i
  · subst e; rw [best_near f vs v j hi, ht]
  · rw [best_other f vs v i j hi e]
theorem better_none (v : VoteT) : better none v = some v := rfl
theorem better_some_lt {b v : VoteT} (h : b.ballot < v.ballot) : better (some b) v = some v := by unfold better; simp [h]
theorem better_some_ge {b v : VoteT} (h : ¬ b.ballot < v.ballot) : better (some b) v = some b := by unfold better; simp [h]
/-- Who is there. -/
theorem best_mem (s : Int) (vs : List VoteT) (b : VoteT) (h : bestAt s vs = some b) : b ∈ vs ∧ b.slot = s ∧ ∀ v ∈ vs, v.slot = s → v.ballot ≤ b.ballot := by
  induction vs using snoc_ind generalizing b with
  | h0 => cases h
  | h1 l x ih =>
    rw [bestAt_snoc] at h
    unfold bestStep at h
    by_cases hx : x.slot = s
    · rw [if_pos hx] at h
      cases hb : bestAt s l with
      | none =>
        rw [hb, better_none] at h
        injection h with h; subst h
        refine ⟨by simp, hx, fun v hv hs => ?_⟩
        rcases List.mem_append.1 hv with h1 | h1
        · exfalso
          have : ∀ l : List VoteT, bestAt s l = none → ∀ v ∈ l, v.slot ≠ s := by
            intro l
            induction l using snoc_ind with
            | h0 => intro _ v hv; cases hv
            | h1 l y ihl =>
              intro hn v hv
              rw [bestAt_snoc] at hn
              unfold bestStep at hn
              by_cases hy : y.slot = s
              · rw [if_pos hy] at hn
                cases hc : bestAt s l with
                | none => rw [hc, better_none] at hn; cases hn
                | some c => rw [hc] at hn; unfold better at hn; simp only at hn; split at hn <;> cases hn
              · rw [if_neg hy] at hn
                rcases List.mem_append.1 hv with h2 | h2
                · exact ihl hn v h2
                · simp at h2; subst h2; exact hy
          exact this l hb v h1 hs
        · simp at h1; subst h1; exact Int.le_refl _
      | some c =>
        obtain ⟨i1, i2, i3⟩ := ih c hb
        rw [hb] at h
        by_cases hlt : c.ballot < x.ballot
        · rw [better_some_lt hlt] at h
          injection h with h; subst h
          refine ⟨by simp, hx, fun v hv hs => ?_⟩
          rcases List.mem_append.1 hv with h1 | h1
          · have := i3 v h1 hs; omega
          · simp at h1; subst h1; exact Int.le_refl _
        · rw [better_some_ge hlt] at h
          injection h with h; subst h
          refine ⟨by simp [i1], i2, fun v hv hs => ?_⟩
          rcases List.mem_append.1 hv with h1 | h1
          · exact i3 v h1 hs
          · simp at h1; subst h1; omega
    · rw [if_neg hx] at h
      obtain ⟨i1, i2, i3⟩ := ih b h
      refine ⟨by simp [i1], i2, fun v hv hs => ?_⟩
      rcases List.mem_append.1 hv with h1 | h1
      · exact i3 v h1 hs
      · simp at h1; subst h1; exact absurd hs hx
/-- Is there a vote at a slot, or behind it? -/
def moreAt (f s : Int) (vs : List VoteT) : Bool := vs.any fun v => decide (s ≤ v.slot) && decide (v.slot < f + 16)
theorem moreAt_snoc (f s : Int) (vs : List VoteT) (v : VoteT) : moreAt f s (vs ++ [v]) = (moreAt f s vs || (decide (s ≤ v.slot) && decide (v.slot < f + 16))) := by simp [moreAt]
theorem more_iff (f : Int) (vs : List VoteT) (i : Nat) : moreAt f (f + i) vs = decide (i < width f vs) := by
  induction vs using snoc_ind with
  | h0 => simp [moreAt, width]
  | h1 l x ih =>
    rw [moreAt_snoc, ih, width_snoc]
    unfold widthStep
    by_cases hr : inReach f x = true
    · rw [if_pos hr]
      rw [inReach_iff] at hr
      by_cases h1 : i < width f l
      · simp [h1]; omega
      · by_cases h2 : f + i ≤ x.slot
        · have : x.slot < f + 16 := by omega
          simp [h1, h2, this]; omega
        · simp [h1, h2]; omega
    · rw [if_neg hr]
      rw [inReach_iff] at hr
      by_cases h1 : i < width f l
      · simp [h1]
      · by_cases h2 : f + i ≤ x.slot
        · have : ¬ x.slot < f + 16 := by omega
          simp [h1, this]
        · simp [h1, h2]
theorem outOf_slot (s : Int) (o : Option VoteT) : (outOf s o).slot = s := by unfold outOf; split <;> rfl
end Go.Proofs.Ytpnecbhbdfdijaa
