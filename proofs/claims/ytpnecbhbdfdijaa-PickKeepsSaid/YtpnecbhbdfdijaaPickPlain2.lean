/- What is chosen, in plain words: the laws behind PickAll and PickKeeps. No program is named here. -/
import Derived.Test.YtpnecbhbdfdijaaPickPlain
namespace Go.Proofs.Ytpnecbhbdfdijaa

theorem best_no (s : Int) (vs : List VoteT) (h : bestAt s vs = none) : ∀ v ∈ vs, v.slot ≠ s := by
  induction vs using snoc_ind with
  | h0 => intro v hv; cases hv
  | h1 l y ih =>
    intro v hv
    rw [bestAt_snoc] at h
    unfold bestStep at h
    by_cases hy : y.slot = s
    · rw [if_pos hy] at h
      cases hc : bestAt s l with
      | none => rw [hc, better_none] at h; cases h
      | some c => rw [hc] at h; unfold better at h; simp only at h; split at h <;> cases h
    · rw [if_neg hy] at h
      rcases List.mem_append.1 hv with h2 | h2
      · exact ih h v h2
      · simp at h2; subst h2; exact hy

/-- Is a vote for this slot there; and one of this ballot, with these bytes? -/
def anyAt (s : Int) (vs : List VoteT) : Bool := vs.any fun x => decide (x.slot = s)
def foundIn (s : Int) (o : VoteT) (vs : List VoteT) : Bool := vs.any fun x => decide (x.slot = s ∧ x.ballot = o.ballot ∧ x.v = o.v)
theorem anyAt_snoc (s : Int) (vs : List VoteT) (x : VoteT) : anyAt s (vs ++ [x]) = (anyAt s vs || decide (x.slot = s)) := by simp [anyAt]
theorem foundIn_snoc (s : Int) (o : VoteT) (vs : List VoteT) (x : VoteT) : foundIn s o (vs ++ [x]) = (foundIn s o vs || decide (x.slot = s ∧ x.ballot = o.ballot ∧ x.v = o.v)) := by simp [foundIn]
theorem anyAt_best (s : Int) (vs : List VoteT) : anyAt s vs = (bestAt s vs).isSome := by
  unfold anyAt
  cases h : bestAt s vs with
  | none =>
    have := best_no s vs h
    simp only [Option.isSome_none, List.any_eq_false, decide_eq_true_eq]
    exact this
  | some b =>
    obtain ⟨h1, h2, _⟩ := best_mem s vs b h
    simp only [Option.isSome_some, List.any_eq_true, decide_eq_true_eq]
    exact ⟨b, h1, h2⟩
theorem foundIn_best (s : Int) (vs : List VoteT) : foundIn s (outOf s (bestAt s vs)) vs = (bestAt s vs).isSome := by
  unfold foundIn
  cases h : bestAt s vs with
  | none =>
    have := best_no s vs h
    simp only [Option.isSome_none, List.any_eq_false, decide_eq_true_eq]
    exact fun x hx hc => this x hx hc.1
  | some b =>
    obtain ⟨h1, h2, _⟩ := best_mem s vs b h
    simp only [Option.isSome_some, List.any_eq_true, decide_eq_true_eq]
    exact ⟨b, h1, h2, rfl, rfl⟩
/-- None passes the ballot that was chosen. -/
theorem best_tops (s : Int) (vs : List VoteT) (x : VoteT) (hx : x ∈ vs) (hs : x.slot = s) : x.ballot ≤ (outOf s (bestAt s vs)).ballot := by
  cases h : bestAt s vs with
  | none => exact absurd hs (best_no s vs h x hx)
  | some b => exact (best_mem s vs b h).2.2 x hx hs
theorem choose_len (f : Int) (ls : List (List VoteT)) (hf : 0 ≤ f) : (choose f ls).length = width f ls.flatten := by
  unfold choose chooseL; rw [if_neg (by omega), firsts_length]
theorem choose_at (f : Int) (ls : List (List VoteT)) (hf : 0 ≤ f) {i : Nat} (h : i < width f ls.flatten) : (choose f ls)[i]? = some (outOf (f + i) (bestAt (f + i) ls.flatten)) := by
  unfold choose chooseL; rw [if_neg (by omega), firsts_get f _ h]; rfl
/-- The last one is voted for. -/
theorem last_any (f : Int) (vs : List VoteT) (i : Nat) (h : width f vs = i + 1) : (bestAt (f + i) vs).isSome = true := by
  cases hb : bestAt (f + i) vs with
  | some b => rfl
  | none =>
    exfalso
    have h1 : moreAt f (f + i) vs = true := by rw [more_iff]; simp; omega
    have h2 : moreAt f (f + ((i + 1 : Nat) : Int)) vs = false := by rw [more_iff]; simp; omega
    unfold moreAt at h1 h2
    rw [List.any_eq_true] at h1
    obtain ⟨x, hx, h3⟩ := h1
    rw [List.any_eq_false] at h2
    have h4 := h2 x hx
    simp only [Bool.and_eq_true, decide_eq_true_eq] at h3 h4
    exact best_no _ vs hb x hx (by omega)
/-- What two voted for by the greatest ballot is chosen. -/
theorem keeps (f : Int) (ls : List (List VoteT)) (k : Int) (v : List UInt8) (hf : 0 ≤ f) (h1 : (⟨f + 1, k, v⟩ : VoteT) ∈ ls.flatten) (h2 : ∀ x ∈ ls.flatten, x.ballot < k ∨ x = ⟨f + 1, k, v⟩) :
    2 ≤ (choose f ls).length ∧ (choose f ls)[1]? = some ⟨f + 1, k, v⟩ := by
  have hw : 1 < width f ls.flatten := by
    have h3 : moreAt f (f + ((1 : Nat) : Int)) ls.flatten = true := by
      unfold moreAt
      rw [List.any_eq_true]
      exact ⟨_, h1, by simp⟩
    rw [more_iff] at h3
    simpa using h3
  refine ⟨by rw [choose_len f ls hf]; omega, ?_⟩
  rw [choose_at f ls hf hw]
  have e : f + ((1 : Nat) : Int) = f + 1 := by simp
  rw [e]
  cases hb : bestAt (f + 1) ls.flatten with
  | none => exact absurd rfl (best_no _ _ hb _ h1)
  | some b =>
    obtain ⟨g1, g2, g3⟩ := best_mem _ _ b hb
    have g4 := g3 _ h1 rfl
    rcases h2 b g1 with g5 | g5
    · exfalso; simp only at g4; omega
    · subst g5; rfl
end Go.Proofs.Ytpnecbhbdfdijaa
