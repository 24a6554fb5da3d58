import Derived.Test.Qxb6500302aVet1
namespace Go.Proofs.Qxb6500302a
set_option linter.unusedSimpArgs false
set_option linter.unusedVariables false

/-- A tree as the reader makes them, to a depth of m. -/
def Wf : Nat → Tm → Prop
  | 0, _ => False
  | m + 1, t => (t.kind = 0 ∧ t.kids = [] ∧ t.num ≤ 40) ∨ (t.kind = 1 ∧ t.kids = []) ∨ (t.kind = 2 ∧ t.kids.length ≤ 50 ∧ ∀ u ∈ t.kids, Wf m u)

theorem TermN.wf {w : World} {D : Nat → Prop} : ∀ {m : Nat} {v : Value} {t : Tm}, TermN w D m v t → Wf m t
  | 0, _, _, h => h.elim
  | m + 1, v, t, h => by
    rcases h with ⟨h1, h2, h3, _⟩ | ⟨h1, h2, _⟩ | ⟨h1, b, sl, xs, h2, h3, h4, h5, h6, h6', h7⟩
    · exact .inl ⟨h1, h2, h3⟩
    · exact .inr (.inl ⟨h1, h2⟩)
    · refine .inr (.inr ⟨h1, h6', fun u hu => ?_⟩)
      obtain ⟨i, hi, e⟩ := List.getElem_of_mem hu
      have hx : xs[i]? = some (xs[i]'(by omega)) := List.getElem?_eq_getElem (by omega)
      exact (h7 i _ u hx (by rw [List.getElem?_eq_getElem hi, e])).wf

theorem topVar_var {t : Tm} (h : t.kind = 0) : topVar t = t.num + 1 := by
  obtain ⟨k, a, n, ts⟩ := t
  simp only at h
  rw [topVar_eq, if_pos h]
theorem topVar_other {t : Tm} (h : t.kind ≠ 0) : topVar t = (t.kids.map topVar).foldl max 0 := by
  obtain ⟨k, a, n, ts⟩ := t
  simp only at h
  rw [topVar_eq, if_neg h]
theorem foldl_max (l : List Nat) (a : Nat) : l.foldl max a = max a (l.foldl max 0) := by
  induction l generalizing a with
  | nil => simp
  | cons x l ih => simp only [List.foldl_cons]; rw [ih (max a x), ih (max 0 x)]; omega

theorem walkL_vet {rec : Nat → Tm → Nat × Bool} : ∀ (ts : List Tm) (st : Nat), (∀ u ∈ ts, ∀ st, st ≤ 6 → (rec st u).2 = decide (max st (topVar u) ≤ 6) ∧ ((rec st u).2 = true → (rec st u).1 = max st (topVar u))) → st ≤ 6 →
    (walkL rec st ts).2 = decide (max st ((ts.map topVar).foldl max 0) ≤ 6) ∧ ((walkL rec st ts).2 = true → (walkL rec st ts).1 = max st ((ts.map topVar).foldl max 0))
  | [], st, _, hst => by simp [walkL]; omega
  | t :: ts, st, h, hst => by
    obtain ⟨h1, h2⟩ := h t (by simp) st hst
    have hm : (List.map topVar (t :: ts)).foldl max 0 = max (topVar t) ((ts.map topVar).foldl max 0) := by
      simp only [List.map_cons, List.foldl_cons]; rw [foldl_max]; omega
    rw [hm, walkL]
    by_cases hb : (rec st t).2 = true
    · rw [if_pos hb]
      rw [hb] at h1
      have hle : max st (topVar t) ≤ 6 := by simpa using h1.symm
      obtain ⟨h3, h4⟩ := walkL_vet ts (rec st t).1 (fun u hu => h u (by simp [hu])) (by rw [h2 hb]; exact hle)
      rw [h2 hb] at h3 h4 ⊢
      rw [← Nat.max_assoc]
      exact ⟨h3, h4⟩
    · rw [if_neg hb]
      have hb' : (rec st t).2 = false := by simpa using hb
      rw [hb'] at h1
      have hgt : ¬ max st (topVar t) ≤ 6 := by simpa using h1.symm
      refine ⟨?_, fun h => by simp at h⟩
      symm
      rw [decide_eq_false_iff_not]
      omega

theorem walkS_vet : ∀ (m st : Nat) (t : Tm), Wf m t → st ≤ 6 → (walkS vetNext vetOk m st t).2 = decide (max st (topVar t) ≤ 6) ∧ ((walkS vetNext vetOk m st t).2 = true → (walkS vetNext vetOk m st t).1 = max st (topVar t))
  | 0, st, t, h, _ => h.elim
  | m + 1, st, t, h, hst => by
    rw [walkS]
    rcases h with ⟨h1, h2, h3⟩ | ⟨h1, h2⟩ | ⟨h1, h2, h3⟩
    · have e1 : vetNext st t = max st (topVar t) := by
        rw [topVar_var h1]; unfold vetNext
        by_cases hc : st ≤ t.num
        · rw [if_pos ⟨h1, hc⟩]; omega
        · rw [if_neg (fun hh => hc hh.2)]; omega
      rw [vetOk, e1, h2]
      by_cases hle : max st (topVar t) ≤ 6
      · simp [hle, walkL]
      · simp [hle]
    · have e1 : vetNext st t = st := by unfold vetNext; rw [if_neg (fun hh => by omega)]
      have e2 : topVar t = 0 := by rw [topVar_other (by omega), h2]; rfl
      rw [vetOk, e1, h2, e2]
      simp [hst, walkL]
    · have e1 : vetNext st t = st := by unfold vetNext; rw [if_neg (fun hh => by omega)]
      have e2 : topVar t = (t.kids.map topVar).foldl max 0 := topVar_other (by omega)
      have hok : vetOk st t = true := by simp [vetOk, e1, hst]
      rw [if_pos hok, e1, e2]
      exact walkL_vet t.kids st (fun u hu st hs => walkS_vet m st u (h3 u hu) hs) hst

theorem walkS_vet0 {m : Nat} {t : Tm} (h : Wf m t) : (walkS vetNext vetOk m 0 t).2 = decide (topVar t ≤ 6) := by
  have := (walkS_vet m 0 t h (by omega)).1
  simpa using this
end Go.Proofs.Qxb6500302a
