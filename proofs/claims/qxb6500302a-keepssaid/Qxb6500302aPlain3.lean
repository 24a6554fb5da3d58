import Derived.Test.Qxb6500302aPlain1
import Derived.Test.Qxb6500302aStore1
namespace Go.Proofs.Qxb6500302a
set_option linter.unusedSimpArgs false
set_option linter.unusedVariables false

/-! ### What is read is what is printed -/
theorem textOf_var (c : UInt8) (n : Nat) : textOf (tVar c n) = [c] := by unfold tVar; rw [textOf_eq]; simp
theorem textOf_cut : textOf tCut = [33] := by unfold tCut; rw [textOf_eq]; simp
theorem textOf_atom (c : UInt8) : textOf (tCall c []) = [c] := by unfold tCall; rw [textOf_eq]; simp
theorem textOf_call (c : UInt8) {ts : List Tm} (h : ts ≠ []) : textOf (tCall c ts) = c :: 40 :: (commas (ts.map textOf) ++ [41]) := by
  unfold tCall; rw [textOf_eq]
  have : ¬ ts.length = 0 := fun e => h (List.length_eq_zero_iff.1 e)
  simp [this]
theorem commas_cons (x : List UInt8) {l : List (List UInt8)} (h : l ≠ []) : commas (x :: l) = x ++ 44 :: commas l := by
  cases l with
  | nil => exact absurd rfl h
  | cons y l => rfl

def Back (rec : List UInt8 → List UInt8 → Rd) : Prop := ∀ s vs t s' vs', rec s vs = some (t, s', vs') → s = textOf t ++ s'

theorem rTerm_back {rec : List UInt8 → List UInt8 → Rd} (h : Back rec) : Back (rTerm rec) := by
  intro s vs t s' vs' e
  unfold rTerm at e
  split at e
  · rename_i hc
    cases e
    rw [textOf_var]
    exact hd_cons rfl (isCap_ne hc)
  · exact h _ _ _ _ _ e

theorem rArgs_back {rec : List UInt8 → List UInt8 → Rd} (h : Back rec) : ∀ k s vs ts s' vs', rArgs rec k s vs = some (ts, s', vs') → ts ≠ [] ∧ s = commas (ts.map textOf) ++ 41 :: s'
  | 0, s, vs, ts, s', vs', e => by cases e
  | k + 1, s, vs, ts, s', vs', e => by
    unfold rArgs at e
    split at e
    · cases e
    · rename_i t s1 vs1 ht
      have h1 := rTerm_back h _ _ _ _ _ ht
      split at e
      · rename_i h44
        have h2 := hd_cons h44 (by decide)
        split at e
        · cases e
        · rename_i ts2 s2 vs2 hr
          cases e
          obtain ⟨hne, h3⟩ := rArgs_back h k _ _ _ _ _ hr
          refine ⟨by simp, ?_⟩
          rw [List.map_cons, commas_cons _ (by simpa using hne), h1, h2, h3]
          simp
      · split at e
        · rename_i h41
          have h2 := hd_cons h41 (by decide)
          cases e
          refine ⟨by simp, ?_⟩
          rw [h1, h2]
          simp [commas]
        · cases e

theorem rCall_back : ∀ n, Back (rCall n)
  | 0 => by intro s vs t s' vs' e; cases e
  | n + 1 => by
    intro s vs t s' vs' e
    unfold rCall at e
    split at e
    · rename_i hl
      have h1 := hd_cons (s := s) rfl (isLow_ne hl)
      split at e
      · rename_i h40
        have h2 := hd_cons h40 (by decide)
        split at e
        · cases e
        · rename_i ts s2 vs2 hr
          cases e
          obtain ⟨hne, h3⟩ := rArgs_back (rCall_back n) _ _ _ _ _ _ hr
          rw [textOf_call _ hne]
          conv => lhs; rw [h1, h2, h3]
          simp
      · cases e
        rw [textOf_atom]
        exact h1
    · cases e

theorem rGoal_back (n : Nat) : Back (rGoal n) := by
  intro s vs t s' vs' e
  unfold rGoal at e
  split at e
  · rename_i h33
    cases e
    rw [textOf_cut]
    exact hd_cons h33 (by decide)
  · exact rCall_back n _ _ _ _ _ e

theorem rGoals_back (n : Nat) : ∀ k s vs ts s' vs', rGoals n k s vs = some (ts, s', vs') → ts ≠ [] ∧ s = commas (ts.map textOf) ++ s'
  | 0, s, vs, ts, s', vs', e => by cases e
  | k + 1, s, vs, ts, s', vs', e => by
    unfold rGoals at e
    split at e
    · cases e
    · rename_i t s1 vs1 ht
      have h1 := rGoal_back n _ _ _ _ _ ht
      split at e
      · rename_i h44
        have h2 := hd_cons h44 (by decide)
        split at e
        · cases e
        · rename_i ts2 s2 vs2 hr
          cases e
          obtain ⟨hne, h3⟩ := rGoals_back n k _ _ _ _ _ hr
          refine ⟨by simp, ?_⟩
          rw [List.map_cons, commas_cons _ (by simpa using hne), h1, h2, h3]
          simp
      · cases e
        exact ⟨by simp, by rw [h1]; simp [commas]⟩

theorem rRead_back {q : Bool} {s : List UInt8} {ts : List Tm} {vs : List UInt8} (h : rRead q s = some (ts, vs)) : clauseText (tCall (rootOf q) ts) = s := by
  unfold rRead at h
  cases q with
  | true =>
    simp only [if_true] at h
    split at h
    · rename_i ts' vs' hr
      cases h
      obtain ⟨_, h1⟩ := rGoals_back _ _ _ _ _ _ _ hr
      rw [h1]
      simp [clauseText, tCall, rootOf]
    · cases h
  | false =>
    simp only [Bool.false_eq_true, if_false] at h
    split at h
    · cases h
    · rename_i hh s1 vs1 hc
      have h0 := rCall_back _ _ _ _ _ _ hc
      split at h
      · rename_i h1
        cases h
        rw [h1, List.append_nil] at h0
        rw [h0]
        simp [clauseText, tCall, rootOf]
      · split at h
        · rename_i h58
          have h2 := hd_cons h58 (by decide)
          split at h
          · rename_i h45
            have h3 := hd_cons h45 (by decide)
            split at h
            · rename_i ts' vs' hr
              cases h
              obtain ⟨hne, h4⟩ := rGoals_back _ _ _ _ _ _ _ hr
              have h5 : ¬ ts'.length = 0 := fun e => hne (List.length_eq_zero_iff.1 e)
              rw [h0]
              conv => rhs; rw [h2, h3, h4]
              simp [clauseText, tCall, rootOf, h5]
            · cases h
          · cases h
        · cases h

theorem parse_read {q : Bool} {s : List UInt8} {t : Tm} (h : parseOf q s = some t) : ∃ ts vs, rRead q s = some (ts, vs) ∧ t = tCall (rootOf q) ts ∧ (if q then ts else ts.tail).length ≤ 3 ∧ topVar t ≤ 6 := by
  unfold parseOf at h
  split at h
  · cases h
  · rename_i ts vs hr
    have h' : (if (if q = true then ts else ts.tail).length ≤ 3 ∧ topVar (tCall (rootOf q) ts) ≤ 6 then some (tCall (rootOf q) ts) else none) = some t := h
    by_cases hc : (if q = true then ts else ts.tail).length ≤ 3 ∧ topVar (tCall (rootOf q) ts) ≤ 6
    · rw [if_pos hc] at h'
      have := Option.some.inj h'
      subst this
      exact ⟨ts, vs, hr, rfl, hc.1, hc.2⟩
    · rw [if_neg hc] at h'; cases h'

/-- BACK. -/
theorem parse_back {q : Bool} {s : List UInt8} {t : Tm} (h : parseOf q s = some t) : clauseText t = s := by
  obtain ⟨ts, vs, hr, rfl, _⟩ := parse_read h
  exact rRead_back hr

/-! ### How long a code is -/
theorem commas_length : ∀ (l : List (List UInt8)), (commas l).length + 1 = (l.map List.length).sum + l.length ∨ l = []
  | [] => .inr rfl
  | [x] => by left; simp [commas]
  | x :: y :: l => by
    left
    rcases commas_length (y :: l) with h | h
    · simp only [commas, List.length_append, List.length_cons, List.map_cons, List.sum_cons] at h ⊢
      omega
    · cases h
theorem sum_le {f g : Tm → Nat} : ∀ {ts : List Tm}, (∀ t ∈ ts, f t ≤ g t + 1) → (ts.map f).sum ≤ (ts.map g).sum + ts.length
  | [], _ => by simp
  | t :: ts, h => by
    have h1 := h t (by simp)
    have h2 := sum_le (ts := ts) (fun u hu => h u (by simp [hu]))
    simp only [List.map_cons, List.sum_cons, List.length_cons]
    omega
theorem flat_length (f : Tm → List UInt8) (ts : List Tm) : ((ts.map f).flatten).length = (ts.map (fun t => (f t).length)).sum := by
  rw [List.length_flatten, List.map_map]; rfl
theorem commas_text (ts : List Tm) (h : ts ≠ []) : (commas (ts.map textOf)).length + 1 = (ts.map (fun t => (textOf t).length)).sum + ts.length := by
  rcases commas_length (ts.map textOf) with e | e
  · rw [List.map_map, List.length_map] at e
    exact e
  · simp at e; exact absurd e h

theorem code_le (n : Nat) : ∀ t : Tm, SizeOf.sizeOf t ≤ n → (codeOf t).length ≤ (textOf t).length + 1 := by
  induction n with
  | zero => intro t h; cases t; simp at h
  | succ n ih =>
    intro t h
    obtain ⟨k, a, m, ts⟩ := t
    rw [codeOf_eq, textOf_eq]
    split
    · simp
    · split
      · simp
      · have hk : ∀ u ∈ ts, (codeOf u).length ≤ (textOf u).length + 1 := fun u hu => ih u (by
          have := List.sizeOf_lt_of_mem hu
          simp at h; omega)
        have h1 := sum_le (f := fun t => (codeOf t).length) (g := fun t => (textOf t).length) hk
        simp only [List.length_cons, flat_length]
        split
        · rename_i h0
          have : ts = [] := List.length_eq_zero_iff.1 h0
          subst this
          simp
        · rename_i h0
          have hne : ts ≠ [] := fun e => h0 (by rw [e]; rfl)
          have h2 := commas_text ts hne
          simp only [List.length_cons, List.length_append, List.length_nil]
          omega
theorem code_len (t : Tm) : (codeOf t).length ≤ (textOf t).length + 1 := code_le _ t (Nat.le_refl _)

theorem parse_code {q : Bool} {s : List UInt8} {t : Tm} (h : parseOf q s = some t) : (codeOf t).length ≤ s.length + 3 := by
  have hb := parse_back h
  obtain ⟨ts, vs, hr, rfl, _⟩ := parse_read h
  rw [← hb]
  have h1 := sum_le (ts := ts) (f := fun t => (codeOf t).length) (g := fun t => (textOf t).length) (fun u _ => code_len u)
  have h0 : (codeOf (tCall (rootOf q) ts)).length = 2 + (ts.map (fun t => (codeOf t).length)).sum := by
    unfold tCall; rw [codeOf_eq, if_neg (by omega), if_neg (by omega), List.length_cons, List.length_cons, flat_length]
    omega
  rw [h0]
  cases q with
  | true =>
    simp only [clauseText, tCall, rootOf]
    by_cases hts : ts = []
    · subst hts; simp [commas]
    · have := commas_text ts hts
      simp; omega
  | false =>
    simp only [clauseText, tCall, rootOf]
    cases ts with
    | nil => simp
    | cons t ts =>
      simp only [List.map_cons, List.sum_cons, List.length_cons] at h1 ⊢
      by_cases hts : ts = []
      · subst hts; simp at h1 ⊢; omega
      · have := commas_text ts hts
        have hl : ¬ ts.length = 0 := fun e => hts (List.length_eq_zero_iff.1 e)
        simp [hl]; omega
end Go.Proofs.Qxb6500302a
