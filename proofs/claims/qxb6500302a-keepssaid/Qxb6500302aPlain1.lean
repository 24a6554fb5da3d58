import Derived.Test.Qxb6500302aSpec
namespace Go.Proofs.Qxb6500302a
set_option linter.unusedSimpArgs false
set_option linter.unusedVariables false

theorem tail_lt {s : List UInt8} (h : hd s ≠ 0) : s.tail.length < s.length := by
  cases s with
  | nil => exact absurd rfl h
  | cons c r => simp
theorem tail_le (s : List UInt8) : s.tail.length ≤ s.length := by simp

/-- What is left behind a reading is shorter. -/
def Shorter (rec : List UInt8 → List UInt8 → Rd) : Prop := ∀ s vs t s' vs', rec s vs = some (t, s', vs') → s'.length < s.length

theorem isCap_ne {c : UInt8} (h : isCap c = true) : c ≠ 0 := by rintro rfl; simp [isCap] at h
theorem isLow_ne {c : UInt8} (h : isLow c = true) : c ≠ 0 := by rintro rfl; simp [isLow] at h

theorem rTerm_len {rec : List UInt8 → List UInt8 → Rd} (h : Shorter rec) : Shorter (rTerm rec) := by
  intro s vs t s' vs' e
  unfold rTerm at e
  split at e
  · rename_i hc
    simp only [Option.some.injEq, Prod.mk.injEq] at e
    obtain ⟨_, rfl, _⟩ := e
    exact tail_lt (isCap_ne hc)
  · exact h s vs t s' vs' e

theorem rArgs_len {rec : List UInt8 → List UInt8 → Rd} (h : Shorter rec) : ∀ k s vs ts s' vs', rArgs rec k s vs = some (ts, s', vs') → s'.length < s.length
  | 0, s, vs, ts, s', vs', e => by cases e
  | k + 1, s, vs, ts, s', vs', e => by
    unfold rArgs at e
    cases ht : rTerm rec s vs with
    | none => rw [ht] at e; cases e
    | some x =>
      obtain ⟨t, s1, vs1⟩ := x
      have h1 := rTerm_len h s vs t s1 vs1 ht
      rw [ht] at e
      simp only at e
      split at e
      · have h2 := tail_le s1
        cases hr : rArgs rec k s1.tail vs1 with
        | none => rw [hr] at e; cases e
        | some y =>
          obtain ⟨ts2, s2, vs2⟩ := y
          rw [hr] at e
          simp only [Option.some.injEq, Prod.mk.injEq] at e
          obtain ⟨_, rfl, _⟩ := e
          have := rArgs_len h k _ _ _ _ _ hr
          omega
      · split at e
        · simp only [Option.some.injEq, Prod.mk.injEq] at e
          obtain ⟨_, rfl, _⟩ := e
          have := tail_le s1
          omega
        · cases e

theorem rCall_len : ∀ n, Shorter (rCall n)
  | 0 => by intro s vs t s' vs' e; cases e
  | n + 1 => by
    intro s vs t s' vs' e
    unfold rCall at e
    split at e
    · rename_i hlow
      have h0 := tail_lt (isLow_ne hlow)
      split at e
      · cases hr : rArgs (rCall n) 3 s.tail.tail vs with
        | none => rw [hr] at e; cases e
        | some y =>
          obtain ⟨ts2, s2, vs2⟩ := y
          rw [hr] at e
          simp only [Option.some.injEq, Prod.mk.injEq] at e
          obtain ⟨_, rfl, _⟩ := e
          have := rArgs_len (rCall_len n) _ _ _ _ _ _ hr
          have := tail_le s.tail
          omega
      · simp only [Option.some.injEq, Prod.mk.injEq] at e
        obtain ⟨_, rfl, _⟩ := e
        exact h0
    · cases e

theorem rGoal_len (n : Nat) : Shorter (rGoal n) := by
  intro s vs t s' vs' e
  unfold rGoal at e
  split at e
  · rename_i hc
    simp only [Option.some.injEq, Prod.mk.injEq] at e
    obtain ⟨_, rfl, _⟩ := e
    exact tail_lt (by rw [hc]; decide)
  · exact rCall_len n s vs t s' vs' e

theorem hd_cons {s : List UInt8} {c : UInt8} (h : hd s = c) (hc : c ≠ 0) : s = c :: s.tail := by
  cases s with
  | nil => exact absurd h.symm hc
  | cons x r => simp [hd] at h; rw [h]; rfl
end Go.Proofs.Qxb6500302a
