import Derived.Test.Qxb6500302aChk4
namespace Go.Proofs.Qxb6500302a
open Go.RowKit
set_option linter.unusedSimpArgs false
set_option linter.unusedVariables false
attribute [local go_sem ↓] Go.wp_at_zero Go.wp_at_succ

theorem optL_some {l ids : List Nat} (h : optL l = some ids) : l = ids ∧ ids ≠ [] := by
  unfold optL at h
  split at h
  · cases h
  · rename_i hne
    have := Option.some.inj h
    subst this
    exact ⟨rfl, hne⟩
theorem filt_all {cs : List Tm} {k z : K2} {ids : List Nat} (h : fAll cs k = some ids) : filt cs (k, z) 0 = ids ∧ ids ≠ [] := by
  obtain ⟨h1, h2⟩ := optL_some h
  refine ⟨?_, h2⟩
  rw [← h1]
  exact idsF_congr (fun t _ => by simp [wantQ])
theorem filt_open {cs : List Tm} {k z : K2} {ids : List Nat} (h : fOpen cs k = some ids) : filt cs (k, z) 1 = ids ∧ ids ≠ [] := by
  obtain ⟨h1, h2⟩ := optL_some h
  refine ⟨?_, h2⟩
  rw [← h1]
  exact idsF_congr (fun t _ => by simp [wantQ])
theorem idsF_sub {q r : Tm → Bool} : ∀ {cs : List Tm} {i : Nat}, (∀ t ∈ cs, q t = true → r t = true) → (idsF q i cs).length ≤ (idsF r i cs).length
  | [], _, _ => by simp [idsF]
  | t :: cs, i, h => by
    have ih := idsF_sub (cs := cs) (i := i + 1) (fun u hu => h u (by simp [hu]))
    simp only [idsF]
    by_cases hq : q t = true
    · rw [if_pos hq, if_pos (h t (by simp) hq)]; simp; exact ih
    · rw [if_neg hq]
      split
      · simp; omega
      · exact ih
theorem idsF_lt2 {q r : Tm → Bool} : ∀ {cs : List Tm} {i : Nat}, (∀ t ∈ cs, q t = true → r t = true) → (∃ t ∈ cs, q t = false ∧ r t = true) → (idsF q i cs).length < (idsF r i cs).length
  | [], _, _, h => by obtain ⟨t, ht, _⟩ := h; cases ht
  | t :: cs, i, h, ⟨u, hu, hq, hr⟩ => by
    have hs := idsF_sub (q := q) (r := r) (cs := cs) (i := i + 1) (fun u hu => h u (by simp [hu]))
    simp only [idsF]
    rcases List.mem_cons.1 hu with rfl | hu
    · rw [hq, hr]; simp; omega
    · have ih := idsF_lt2 (q := q) (r := r) (cs := cs) (i := i + 1) (fun u hu => h u (by simp [hu])) ⟨u, hu, hq, hr⟩
      by_cases hqt : q t = true
      · rw [if_pos hqt, if_pos (h t (by simp) hqt)]; simp; exact ih
      · rw [if_neg hqt]
        split
        · simp; omega
        · exact ih
theorem filt_key {cs : List Tm} {k : K4} {ids : List Nat} (h : fKey cs k = some ids) : filt cs k 2 = ids ∧ (filt cs k 1).length < ids.length := by
  unfold fKey at h
  split at h
  · rename_i hany
    have := Option.some.inj h
    have h2 : filt cs k 2 = ids := by rw [← this]; exact idsF_congr (fun t _ => by simp [wantQ])
    refine ⟨h2, ?_⟩
    rw [← h2]
    obtain ⟨t, ht, hq⟩ := List.any_eq_true.1 hany
    simp only [Bool.and_eq_true, decide_eq_true_eq] at hq
    refine idsF_lt2 (fun u _ hu => ?_) ⟨t, ht, ?_, ?_⟩
    · simp [wantQ] at hu ⊢; exact ⟨hu.1, .inr hu.2⟩
    · simp [wantQ, hq.2]
    · simp [wantQ, hq.1, hq.2]
  · cases h

theorem some_all {cs : List Tm} {t : Tm} (h : t ∈ cs) : (fAll cs (predOf t)).isSome = true := by
  have : ∀ (cs : List Tm) (i : Nat), t ∈ cs → idsF (fun u => decide (predOf u = predOf t)) i cs ≠ [] := by
    intro cs
    induction cs with
    | nil => intro i h; cases h
    | cons x cs ih =>
      intro i h
      simp only [idsF]
      split
      · simp
      · rename_i hx
        rcases List.mem_cons.1 h with rfl | h
        · simp at hx
        · exact ih _ h
  unfold fAll optL
  rw [if_neg (this cs 0 h)]; rfl
theorem some_open {cs : List Tm} {t : Tm} (h : t ∈ cs) (hk : keyOf t = none) : (fOpen cs (predOf t)).isSome = true := by
  have : ∀ (cs : List Tm) (i : Nat), t ∈ cs → idsF (fun u => decide (predOf u = predOf t) && decide (keyOf u = none)) i cs ≠ [] := by
    intro cs
    induction cs with
    | nil => intro i h; cases h
    | cons x cs ih =>
      intro i h
      simp only [idsF]
      split
      · simp
      · rename_i hx
        rcases List.mem_cons.1 h with rfl | h
        · simp [hk] at hx
        · exact ih _ h
  unfold fOpen optL
  rw [if_neg (this cs 0 h)]; rfl
theorem some_key {cs : List Tm} {t : Tm} {f : K2} (h : t ∈ cs) (hk : keyOf t = some f) : (fKey cs (predOf t, f)).isSome = true := by
  unfold fKey
  rw [if_pos (List.any_eq_true.2 ⟨t, h, by simp [hk]⟩)]; rfl

theorem next_ty {r : Nat} {b : Bool} {w : World} {x : Result Value} {ty0 : TypeId} (h : (Instr.next (.pointer (some ⟨r, 0, none⟩)) b ty0).run Try.prog w = x) : ∀ ty, (Instr.next (.pointer (some ⟨r, 0, none⟩)) b ty).run Try.prog w = x := fun ty => h
end Go.Proofs.Qxb6500302a
