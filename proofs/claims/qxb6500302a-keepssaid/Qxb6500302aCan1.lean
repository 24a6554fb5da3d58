import Derived.Test.Qxb6500302aPlain3
namespace Go.Proofs.Qxb6500302a
set_option linter.unusedSimpArgs false
set_option linter.unusedVariables false

/-- The text with its variables named 'A', 'B' .. by their numbers. -/
def textN : Tm → List UInt8
  | ⟨k, a, n, ts⟩ => if k = 0 then [65 + n.toUInt8] else if k = 1 then [33] else if ts.length = 0 then [a] else a :: 40 :: (commas (ts.map textN) ++ [41])
theorem textN_eq (k : Nat) (a : UInt8) (n : Nat) (ts : List Tm) : textN ⟨k, a, n, ts⟩ = if k = 0 then [65 + n.toUInt8] else if k = 1 then [33] else if ts.length = 0 then [a] else a :: 40 :: (commas (ts.map textN) ++ [41]) := by
  rw [textN]
def clauseTextN (t : Tm) : List UInt8 :=
  if t.letter = 58 then
    textN (t.kids.headD tCut) ++ (if t.kids.tail.length = 0 then [] else 58 :: 45 :: commas (t.kids.tail.map textN))
  else commas (t.kids.map textN)

/-- 'canon', plainly. -/
def canonGo : List UInt8 → List UInt8 → List UInt8
  | _, [] => []
  | seen, c :: r => if isCap c then (65 + (varIx seen c).toUInt8) :: canonGo (addVar seen c) r else c :: canonGo seen r
theorem canon_low {c : UInt8} (h : isCap c = false) (vs r : List UInt8) : canonGo vs (c :: r) = c :: canonGo vs r := by
  simp [canonGo, h]
theorem canon_cap {c : UInt8} (h : isCap c = true) (vs r : List UInt8) : canonGo vs (c :: r) = (65 + (varIx vs c).toUInt8) :: canonGo (addVar vs c) r := by
  simp [canonGo, h]

theorem textN_var (c : UInt8) (n : Nat) : textN (tVar c n) = [65 + n.toUInt8] := by unfold tVar; rw [textN_eq]; simp
theorem textN_cut : textN tCut = [33] := by unfold tCut; rw [textN_eq]; simp
theorem textN_atom (c : UInt8) : textN (tCall c []) = [c] := by unfold tCall; rw [textN_eq]; simp
theorem textN_call (c : UInt8) {ts : List Tm} (h : ts ≠ []) : textN (tCall c ts) = c :: 40 :: (commas (ts.map textN) ++ [41]) := by
  unfold tCall; rw [textN_eq]
  have : ¬ ts.length = 0 := fun e => h (List.length_eq_zero_iff.1 e)
  simp [this]

def Can (rec : List UInt8 → List UInt8 → Rd) : Prop := ∀ s vs t s' vs', rec s vs = some (t, s', vs') → canonGo vs s = textN t ++ canonGo vs' s'

theorem low_cap {c : UInt8} (h : isLow c = true) : isCap c = false := by
  unfold isLow at h
  unfold isCap
  simp at h ⊢
  omega

theorem rTerm_can {rec : List UInt8 → List UInt8 → Rd} (h : Can rec) : Can (rTerm rec) := by
  intro s vs t s' vs' e
  unfold rTerm at e
  split at e
  · rename_i hc
    cases e
    rw [textN_var]
    have h1 := hd_cons (s := s) rfl (isCap_ne hc)
    generalize hd s = c at *
    rw [h1]
    rw [canon_cap hc]
    simp
  · exact h _ _ _ _ _ e

theorem rArgs_can {rec : List UInt8 → List UInt8 → Rd} (h : Can rec) : ∀ k s vs ts s' vs', rArgs rec k s vs = some (ts, s', vs') → ts ≠ [] ∧ canonGo vs s = commas (ts.map textN) ++ 41 :: canonGo vs' s'
  | 0, s, vs, ts, s', vs', e => by cases e
  | k + 1, s, vs, ts, s', vs', e => by
    unfold rArgs at e
    split at e
    · cases e
    · rename_i t s1 vs1 ht
      have h1 := rTerm_can h _ _ _ _ _ ht
      split at e
      · rename_i h44
        have h2 := hd_cons h44 (by decide)
        split at e
        · cases e
        · rename_i ts2 s2 vs2 hr
          cases e
          obtain ⟨hne, h3⟩ := rArgs_can h k _ _ _ _ _ hr
          refine ⟨by simp, ?_⟩
          rw [List.map_cons, commas_cons _ (by simpa using hne), h1, h2, canon_low (by decide), h3]
          simp
      · split at e
        · rename_i h41
          have h2 := hd_cons h41 (by decide)
          cases e
          refine ⟨by simp, ?_⟩
          rw [h1, h2, canon_low (by decide)]
          simp [commas]
        · cases e

theorem rCall_can : ∀ n, Can (rCall n)
  | 0 => by intro s vs t s' vs' e; cases e
  | n + 1 => by
    intro s vs t s' vs' e
    unfold rCall at e
    split at e
    · rename_i hl
      have h1 := hd_cons (s := s) rfl (isLow_ne hl)
      have hcap := low_cap hl
      split at e
      · rename_i h40
        have h2 := hd_cons h40 (by decide)
        split at e
        · cases e
        · rename_i ts s2 vs2 hr
          cases e
          obtain ⟨hne, h3⟩ := rArgs_can (rCall_can n) _ _ _ _ _ _ hr
          rw [textN_call _ hne]
          conv => lhs; rw [h1, canon_low hcap, h2, canon_low (by decide), h3]
          simp
      · cases e
        rw [textN_atom]
        conv => lhs; rw [h1, canon_low hcap]
        simp
    · cases e

theorem rGoal_can (n : Nat) : Can (rGoal n) := by
  intro s vs t s' vs' e
  unfold rGoal at e
  split at e
  · rename_i h33
    cases e
    rw [textN_cut]
    have h1 := hd_cons h33 (by decide)
    conv => lhs; rw [h1, canon_low (by decide)]
    simp
  · exact rCall_can n _ _ _ _ _ e

theorem rGoals_can (n : Nat) : ∀ k s vs ts s' vs', rGoals n k s vs = some (ts, s', vs') → ts ≠ [] ∧ canonGo vs s = commas (ts.map textN) ++ canonGo vs' s'
  | 0, s, vs, ts, s', vs', e => by cases e
  | k + 1, s, vs, ts, s', vs', e => by
    unfold rGoals at e
    split at e
    · cases e
    · rename_i t s1 vs1 ht
      have h1 := rGoal_can n _ _ _ _ _ ht
      split at e
      · rename_i h44
        have h2 := hd_cons h44 (by decide)
        split at e
        · cases e
        · rename_i ts2 s2 vs2 hr
          cases e
          obtain ⟨hne, h3⟩ := rGoals_can n k _ _ _ _ _ hr
          refine ⟨by simp, ?_⟩
          rw [List.map_cons, commas_cons _ (by simpa using hne), h1, h2, canon_low (by decide), h3]
          simp
      · cases e
        exact ⟨by simp, by rw [h1]; simp [commas]⟩

theorem rRead_can {q : Bool} {s : List UInt8} {ts : List Tm} {vs : List UInt8} (h : rRead q s = some (ts, vs)) : clauseTextN (tCall (rootOf q) ts) = canonGo [] s := by
  unfold rRead at h
  cases q with
  | true =>
    simp only [if_true] at h
    split at h
    · rename_i ts' vs' hr
      cases h
      obtain ⟨_, h1⟩ := rGoals_can _ _ _ _ _ _ _ hr
      rw [h1]
      simp [clauseTextN, tCall, rootOf, canonGo]
    · cases h
  | false =>
    simp only [Bool.false_eq_true, if_false] at h
    split at h
    · cases h
    · rename_i hh s1 vs1 hc
      have h0 := rCall_can _ _ _ _ _ _ hc
      split at h
      · rename_i h1
        cases h
        rw [h0, h1]
        simp [clauseTextN, tCall, rootOf, canonGo]
      · split at h
        · rename_i h58
          have h2 := hd_cons h58 (by decide)
          split at h
          · rename_i h45
            have h3 := hd_cons h45 (by decide)
            split at h
            · rename_i ts' vs' hr
              cases h
              obtain ⟨hne, h4⟩ := rGoals_can _ _ _ _ _ _ _ hr
              have h5 : ¬ ts'.length = 0 := fun e => hne (List.length_eq_zero_iff.1 e)
              rw [h0]
              conv => rhs; rw [h2, canon_low (by decide), h3, canon_low (by decide), h4]
              simp [clauseTextN, tCall, rootOf, h5, canonGo]
            · cases h
          · cases h
        · cases h

/-- SPELLS, plainly. -/
theorem parse_can {q : Bool} {s : List UInt8} {t : Tm} (h : parseOf q s = some t) : clauseTextN t = canonGo [] s := by
  obtain ⟨ts, vs, hr, rfl, _⟩ := parse_read h
  exact rRead_can hr
end Go.Proofs.Qxb6500302a
