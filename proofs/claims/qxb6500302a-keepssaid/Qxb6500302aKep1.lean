import Derived.Test.Qxb6500302aMat3
import Derived.Test.Qxb6500302aLift2
namespace Go.Proofs.Qxb6500302a
set_option linter.unusedSimpArgs false
set_option linter.unusedVariables false

/-- A step's answer, by the cases that the third law parts. -/
theorem step_cases {cs : List Tm} {k a : Int} {s t : List UInt8} {cs' : List Tm} {E N : Int} {S' : List UInt8} (h : doOf cs k a s t = (cs', E, N, S')) :
    (k = 1 ∧ E = 1 ∧ N = -1 ∧ S' = [] ∧ cs' = cs ∧ 40 < s.length) ∨
    (k = 1 ∧ E = 5 ∧ N = -1 ∧ S' = [] ∧ cs' = cs ∧ s.length ≤ 40) ∨
    (k = 1 ∧ E = 6 ∧ N = -1 ∧ S' = [] ∧ cs' = cs ∧ s.length ≤ 40 ∧ 8 ≤ cs.length) ∨
    (∃ u, k = 1 ∧ E = 0 ∧ N = (cs.length : Int) ∧ S' = [] ∧ cs' = cs ++ [u] ∧ s.length ≤ 40 ∧ cs.length < 8 ∧ parseOf false s = some u) ∨
    (k = 2 ∧ E = 0 ∧ N = 0 ∧ S' = [] ∧ cs' = []) ∨
    (k = 3 ∧ E = 1 ∧ N = 0 ∧ S' = [] ∧ cs' = cs ∧ 40 < s.length) ∨
    (k = 3 ∧ E = 5 ∧ N = 0 ∧ S' = [] ∧ cs' = cs ∧ s.length ≤ 40) ∨
    (∃ u, k = 3 ∧ E = 0 ∧ N = 0 ∧ S' = codeOf u ∧ cs' = cs ∧ s.length ≤ 40 ∧ parseOf true s = some u) ∨
    (k = 4 ∧ E = 4 ∧ N = 0 ∧ S' = [] ∧ cs' = cs ∧ (a < 0 ∨ (cs.length : Int) ≤ a)) ∨
    (∃ (i : Nat) (u : Tm), k = 4 ∧ a = (i : Int) ∧ E = 0 ∧ N = 0 ∧ S' = clauseText u ∧ cs' = cs ∧ cs[i]? = some u) ∨
    (k = 5 ∧ E = 4 ∧ N = 0 ∧ S' = [] ∧ cs' = cs ∧ (a < 0 ∨ (cs.length : Int) ≤ a)) ∨
    (∃ (i : Nat) (u : Tm), k = 5 ∧ a = (i : Int) ∧ E = 0 ∧ N = 0 ∧ S' = codeOf u ∧ cs' = cs ∧ cs[i]? = some u) ∨
    (k = 6 ∧ E = 0 ∧ N = 0 ∧ S' = matchOf cs s t ∧ cs' = cs) ∨
    (k = 7 ∧ E = 0 ∧ N = (cs.length : Int) ∧ S' = [] ∧ cs' = cs) ∨
    (k = 8 ∧ E = 0 ∧ N = 0 ∧ S' = showOf cs ∧ cs' = cs) ∨
    (k = 9 ∧ E = 0 ∧ N = 0 ∧ S' = [] ∧ cs' = cs) ∨
    ((k < 1 ∨ 9 < k) ∧ E = 0 ∧ N = 0 ∧ S' = [] ∧ cs' = cs) := by
  unfold doOf at h
  by_cases h1 : k = 1
  · subst h1
    rw [if_pos rfl] at h
    unfold addOf at h
    by_cases h40 : 40 < s.length
    · simp only [if_pos h40, Prod.mk.injEq] at h
      obtain ⟨rfl, rfl, rfl, rfl⟩ := h
      exact .inl ⟨rfl, rfl, rfl, rfl, rfl, h40⟩
    · simp only [if_neg h40] at h
      cases hp : parseOf false s with
      | none =>
        simp only [hp, Prod.mk.injEq] at h
        obtain ⟨rfl, rfl, rfl, rfl⟩ := h
        exact .inr (.inl ⟨rfl, rfl, rfl, rfl, rfl, by omega⟩)
      | some u =>
        simp only [hp] at h
        by_cases h8 : 8 ≤ cs.length
        · simp only [if_pos h8, Prod.mk.injEq] at h
          obtain ⟨rfl, rfl, rfl, rfl⟩ := h
          exact .inr (.inr (.inl ⟨rfl, rfl, rfl, rfl, rfl, by omega, h8⟩))
        · simp only [if_neg h8, Prod.mk.injEq] at h
          obtain ⟨rfl, rfl, rfl, rfl⟩ := h
          exact .inr (.inr (.inr (.inl ⟨u, rfl, rfl, rfl, rfl, rfl, by omega, by omega, rfl⟩)))
  rw [if_neg h1] at h
  by_cases h2 : k = 2
  · rw [if_pos h2] at h
    simp only [Prod.mk.injEq] at h
    obtain ⟨rfl, rfl, rfl, rfl⟩ := h
    exact .inr (.inr (.inr (.inr (.inl ⟨h2, rfl, rfl, rfl, rfl⟩))))
  rw [if_neg h2] at h
  by_cases h3 : k = 3
  · rw [if_pos h3] at h
    unfold queryAns at h
    by_cases h40 : 40 < s.length
    · simp only [if_pos h40, Prod.mk.injEq] at h
      obtain ⟨rfl, rfl, rfl, rfl⟩ := h
      exact .inr (.inr (.inr (.inr (.inr (.inl ⟨h3, rfl, rfl, rfl, rfl, h40⟩)))))
    · simp only [if_neg h40] at h
      cases hp : parseOf true s with
      | none =>
        simp only [hp, Prod.mk.injEq] at h
        obtain ⟨rfl, rfl, rfl, rfl⟩ := h
        exact .inr (.inr (.inr (.inr (.inr (.inr (.inl ⟨h3, rfl, rfl, rfl, rfl, by omega⟩))))))
      | some u =>
        simp only [hp, Prod.mk.injEq] at h
        obtain ⟨rfl, rfl, rfl, rfl⟩ := h
        exact .inr (.inr (.inr (.inr (.inr (.inr (.inr (.inl ⟨u, h3, rfl, rfl, rfl, rfl, by omega, rfl⟩)))))))
  rw [if_neg h3] at h
  by_cases h4 : k = 4
  · rw [if_pos h4] at h
    unfold textAns at h
    by_cases ha : a < 0
    · simp only [if_pos ha, Prod.mk.injEq] at h
      obtain ⟨rfl, rfl, rfl, rfl⟩ := h
      exact .inr (.inr (.inr (.inr (.inr (.inr (.inr (.inr (.inl ⟨h4, rfl, rfl, rfl, rfl, .inl ha⟩))))))))
    · simp only [if_neg ha] at h
      cases hc : cs[a.toNat]? with
      | none =>
        simp only [hc, Prod.mk.injEq] at h
        obtain ⟨rfl, rfl, rfl, rfl⟩ := h
        have := List.getElem?_eq_none_iff.1 hc
        exact .inr (.inr (.inr (.inr (.inr (.inr (.inr (.inr (.inl ⟨h4, rfl, rfl, rfl, rfl, .inr (by omega)⟩))))))))
      | some u =>
        simp only [hc, Prod.mk.injEq] at h
        obtain ⟨rfl, rfl, rfl, rfl⟩ := h
        exact .inr (.inr (.inr (.inr (.inr (.inr (.inr (.inr (.inr (.inl ⟨a.toNat, u, h4, by omega, rfl, rfl, rfl, rfl, hc⟩)))))))))
  rw [if_neg h4] at h
  by_cases h5 : k = 5
  · rw [if_pos h5] at h
    unfold codeAns at h
    by_cases ha : a < 0
    · simp only [if_pos ha, Prod.mk.injEq] at h
      obtain ⟨rfl, rfl, rfl, rfl⟩ := h
      exact .inr (.inr (.inr (.inr (.inr (.inr (.inr (.inr (.inr (.inr (.inl ⟨h5, rfl, rfl, rfl, rfl, .inl ha⟩))))))))))
    · simp only [if_neg ha] at h
      cases hc : cs[a.toNat]? with
      | none =>
        simp only [hc, Prod.mk.injEq] at h
        obtain ⟨rfl, rfl, rfl, rfl⟩ := h
        have := List.getElem?_eq_none_iff.1 hc
        exact .inr (.inr (.inr (.inr (.inr (.inr (.inr (.inr (.inr (.inr (.inl ⟨h5, rfl, rfl, rfl, rfl, .inr (by omega)⟩))))))))))
      | some u =>
        simp only [hc, Prod.mk.injEq] at h
        obtain ⟨rfl, rfl, rfl, rfl⟩ := h
        exact .inr (.inr (.inr (.inr (.inr (.inr (.inr (.inr (.inr (.inr (.inr (.inl ⟨a.toNat, u, h5, by omega, rfl, rfl, rfl, rfl, hc⟩)))))))))))
  rw [if_neg h5] at h
  by_cases h6 : k = 6
  · rw [if_pos h6] at h
    simp only [Prod.mk.injEq] at h
    obtain ⟨rfl, rfl, rfl, rfl⟩ := h
    exact .inr (.inr (.inr (.inr (.inr (.inr (.inr (.inr (.inr (.inr (.inr (.inr (.inl ⟨h6, rfl, rfl, rfl, rfl⟩))))))))))))
  rw [if_neg h6] at h
  by_cases h7 : k = 7
  · rw [if_pos h7] at h
    simp only [Prod.mk.injEq] at h
    obtain ⟨rfl, rfl, rfl, rfl⟩ := h
    exact .inr (.inr (.inr (.inr (.inr (.inr (.inr (.inr (.inr (.inr (.inr (.inr (.inr (.inl ⟨h7, rfl, rfl, rfl, rfl⟩)))))))))))))
  rw [if_neg h7] at h
  by_cases h8 : k = 8
  · rw [if_pos h8] at h
    simp only [Prod.mk.injEq] at h
    obtain ⟨rfl, rfl, rfl, rfl⟩ := h
    exact .inr (.inr (.inr (.inr (.inr (.inr (.inr (.inr (.inr (.inr (.inr (.inr (.inr (.inr (.inl ⟨h8, rfl, rfl, rfl, rfl⟩))))))))))))))
  rw [if_neg h8] at h
  simp only [Prod.mk.injEq] at h
  obtain ⟨rfl, rfl, rfl, rfl⟩ := h
  by_cases h9 : k = 9
  · exact .inr (.inr (.inr (.inr (.inr (.inr (.inr (.inr (.inr (.inr (.inr (.inr (.inr (.inr (.inr (.inl ⟨h9, rfl, rfl, rfl, rfl⟩)))))))))))))))
  · exact .inr (.inr (.inr (.inr (.inr (.inr (.inr (.inr (.inr (.inr (.inr (.inr (.inr (.inr (.inr (.inr ⟨by omega, rfl, rfl, rfl, rfl⟩)))))))))))))))

theorem shown_show (cs : List Tm) : shownOf (cs.map clauseText) = showOf cs := by
  unfold shownOf showOf
  rw [List.map_map]
  rfl
end Go.Proofs.Qxb6500302a
