import Derived.Test.Qxb6500302aPlain1
import Derived.Test.Qxb6500302aPlain2
namespace Go.Proofs.Qxb6500302a
set_option linter.unusedSimpArgs false
set_option linter.unusedVariables false

/-! ### The letters met, and the greatest number -/
theorem varIx_le : ∀ (vs : List UInt8) (c : UInt8), varIx vs c ≤ vs.length
  | [], _ => Nat.zero_le _
  | x :: r, c => by
    have := varIx_le r c
    simp only [varIx]
    split <;> simp <;> omega

def Tops (rec : List UInt8 → List UInt8 → Rd) : Prop := ∀ s vs t s' vs', rec s vs = some (t, s', vs') → max vs.length (topVar t) = vs'.length
def maxT (ts : List Tm) : Nat := (ts.map topVar).foldl max 0
theorem maxT_nil : maxT [] = 0 := rfl
theorem maxT_cons (t : Tm) (ts : List Tm) : maxT (t :: ts) = max (topVar t) (maxT ts) := by
  unfold maxT
  rw [List.map_cons, List.foldl_cons, foldl_max]
  omega
theorem topVar_tCall (c : UInt8) (ts : List Tm) : topVar (tCall c ts) = maxT ts := by
  unfold tCall maxT
  rw [topVar_eq]; simp

theorem rTerm_tops {rec : List UInt8 → List UInt8 → Rd} (h : Tops rec) : Tops (rTerm rec) := by
  intro s vs t s' vs' e
  unfold rTerm at e
  split at e
  · rename_i hc
    simp only [Option.some.injEq, Prod.mk.injEq] at e
    obtain ⟨rfl, _, rfl⟩ := e
    have hle := varIx_le vs (hd s)
    have ht : topVar (tVar (hd s) (varIx vs (hd s))) = varIx vs (hd s) + 1 := by unfold tVar; rw [topVar_eq]; simp
    rw [ht]
    unfold addVar
    split
    · omega
    · simp; omega
  · exact h s vs t s' vs' e

theorem rArgs_tops {rec : List UInt8 → List UInt8 → Rd} (h : Tops rec) : ∀ k s vs ts s' vs', rArgs rec k s vs = some (ts, s', vs') → max vs.length (maxT ts) = vs'.length
  | 0, s, vs, ts, s', vs', e => by cases e
  | k + 1, s, vs, ts, s', vs', e => by
    unfold rArgs at e
    cases ht : rTerm rec s vs with
    | none => rw [ht] at e; cases e
    | some x =>
      obtain ⟨t, s1, vs1⟩ := x
      have h1 := rTerm_tops h s vs t s1 vs1 ht
      rw [ht] at e
      simp only at e
      split at e
      · cases hr : rArgs rec k s1.tail vs1 with
        | none => rw [hr] at e; cases e
        | some y =>
          obtain ⟨ts2, s2, vs2⟩ := y
          rw [hr] at e
          simp only [Option.some.injEq, Prod.mk.injEq] at e
          obtain ⟨rfl, rfl, rfl⟩ := e
          have := rArgs_tops h k _ _ _ _ _ hr
          rw [maxT_cons]
          omega
      · split at e
        · simp only [Option.some.injEq, Prod.mk.injEq] at e
          obtain ⟨rfl, rfl, rfl⟩ := e
          rw [maxT_cons, maxT_nil]
          omega
        · cases e

theorem rCall_tops : ∀ n, Tops (rCall n)
  | 0 => by intro s vs t s' vs' e; cases e
  | n + 1 => by
    intro s vs t s' vs' e
    unfold rCall at e
    split at e
    · split at e
      · cases hr : rArgs (rCall n) 3 s.tail.tail vs with
        | none => rw [hr] at e; cases e
        | some y =>
          obtain ⟨ts2, s2, vs2⟩ := y
          rw [hr] at e
          simp only [Option.some.injEq, Prod.mk.injEq] at e
          obtain ⟨rfl, rfl, rfl⟩ := e
          rw [topVar_tCall]
          exact rArgs_tops (rCall_tops n) _ _ _ _ _ _ hr
      · simp only [Option.some.injEq, Prod.mk.injEq] at e
        obtain ⟨rfl, rfl, rfl⟩ := e
        rw [topVar_tCall, maxT_nil]
        omega
    · cases e

theorem rGoal_tops (n : Nat) : Tops (rGoal n) := by
  intro s vs t s' vs' e
  unfold rGoal at e
  split at e
  · simp only [Option.some.injEq, Prod.mk.injEq] at e
    obtain ⟨rfl, rfl, rfl⟩ := e
    have : topVar tCut = 0 := by unfold tCut; rw [topVar_eq]; simp
    rw [this]; omega
  · exact rCall_tops n s vs t s' vs' e

theorem rGoals_tops (n : Nat) : ∀ k s vs ts s' vs', rGoals n k s vs = some (ts, s', vs') → max vs.length (maxT ts) = vs'.length
  | 0, s, vs, ts, s', vs', e => by cases e
  | k + 1, s, vs, ts, s', vs', e => by
    unfold rGoals at e
    cases ht : rGoal n s vs with
    | none => rw [ht] at e; cases e
    | some x =>
      obtain ⟨t, s1, vs1⟩ := x
      have h1 := rGoal_tops n s vs t s1 vs1 ht
      rw [ht] at e
      simp only at e
      split at e
      · cases hr : rGoals n k s1.tail vs1 with
        | none => rw [hr] at e; cases e
        | some y =>
          obtain ⟨ts2, s2, vs2⟩ := y
          rw [hr] at e
          simp only [Option.some.injEq, Prod.mk.injEq] at e
          obtain ⟨rfl, rfl, rfl⟩ := e
          have := rGoals_tops n k _ _ _ _ _ hr
          rw [maxT_cons]
          omega
      · simp only [Option.some.injEq, Prod.mk.injEq] at e
        obtain ⟨rfl, rfl, rfl⟩ := e
        rw [maxT_cons, maxT_nil]
        omega

/-- What is judged behind the reading, by the letters. -/
theorem rRead_tops {q : Bool} {s : List UInt8} {ts : List Tm} {vs : List UInt8} (h : rRead q s = some (ts, vs)) : maxT ts = vs.length := by
  unfold rRead at h
  split at h
  · cases hr : rGoals (s.length + 1) (s.length + 1) s [] with
    | none => rw [hr] at h; cases h
    | some y =>
      obtain ⟨ts2, s2, vs2⟩ := y
      rw [hr] at h
      have := rGoals_tops _ _ _ _ _ _ _ hr
      cases s2 with
      | nil =>
        simp only [Option.some.injEq, Prod.mk.injEq] at h
        obtain ⟨rfl, rfl⟩ := h
        simp only [List.length_nil] at this; omega
      | cons a b => simp at h
  · cases hc : rCall (s.length + 1) s [] with
    | none => rw [hc] at h; cases h
    | some x =>
      obtain ⟨t, s1, vs1⟩ := x
      have h1 := rCall_tops _ s [] t s1 vs1 hc
      rw [hc] at h
      simp only at h
      split at h
      · simp only [Option.some.injEq, Prod.mk.injEq] at h
        obtain ⟨rfl, rfl⟩ := h
        rw [maxT_cons, maxT_nil]
        simp only [List.length_nil] at h1; omega
      · split at h
        · split at h
          · cases hr : rGoals (s.length + 1) (s.length + 1) s1.tail.tail vs1 with
            | none => rw [hr] at h; cases h
            | some y =>
              obtain ⟨ts2, s2, vs2⟩ := y
              rw [hr] at h
              have := rGoals_tops _ _ _ _ _ _ _ hr
              cases s2 with
              | nil =>
                simp only [Option.some.injEq, Prod.mk.injEq] at h
                obtain ⟨rfl, rfl⟩ := h
                rw [maxT_cons]
                simp only [List.length_nil] at h1; omega
              | cons a b => simp at h
          · cases h
        · cases h

/-! ### The arguments, as the model's loop meets them -/
/-- Behind n arguments ts: what the reading of the arguments comes to. -/
def finA (rec : List UInt8 → List UInt8 → Rd) (n : Nat) (ts : List Tm) (r vs : List UInt8) : Rds :=
  if hd r = 44 then
    match rArgs rec (3 - n) r.tail vs with
    | none => none
    | some (ts2, s2, vs2) => some (ts ++ ts2, s2, vs2)
  else if hd r = 41 then (if n ≤ 3 then some (ts, r.tail, vs) else none) else none

theorem finA_first {rec : List UInt8 → List UInt8 → Rd} {s vs : List UInt8} {t : Tm} {s1 vs1 : List UInt8} (h : rTerm rec s vs = some (t, s1, vs1)) : rArgs rec 3 s vs = finA rec 1 [t] s1 vs1 := by
  show rArgs rec (2 + 1) s vs = _
  unfold rArgs finA
  rw [h]
  simp only
  split
  · show _ = match rArgs rec 2 s1.tail vs1 with
      | none => none
      | some (ts2, s2, vs2) => some ([t] ++ ts2, s2, vs2)
    split <;> rename_i hx <;> rw [hx] <;> rfl
  · rfl
theorem finA_next {rec : List UInt8 → List UInt8 → Rd} {n : Nat} {ts : List Tm} {r vs : List UInt8} {t : Tm} {s1 vs1 : List UInt8} (hn : 1 ≤ n) (hc : hd r = 44) (h : rTerm rec r.tail vs = some (t, s1, vs1)) : finA rec n ts r vs = finA rec (n + 1) (ts ++ [t]) s1 vs1 := by
  by_cases h3 : n < 3
  · obtain ⟨j, hj⟩ : ∃ j, 3 - n = j + 1 := ⟨2 - n, by omega⟩
    have hj' : 3 - (n + 1) = j := by omega
    unfold finA
    rw [if_pos hc, hj, hj', rArgs, h]
    simp only
    by_cases h1 : hd s1 = 44
    · rw [if_pos h1, if_pos h1]
      cases rArgs rec j s1.tail vs1 with
      | none => rfl
      | some y => simp
    · rw [if_neg h1, if_neg h1]
      by_cases h2 : hd s1 = 41
      · rw [if_pos h2, if_pos h2, if_pos (by omega)]
      · rw [if_neg h2, if_neg h2]
  · have e1 : 3 - n = 0 := by omega
    have e2 : 3 - (n + 1) = 0 := by omega
    unfold finA
    rw [if_pos hc, e1, e2]
    simp only [rArgs]
    by_cases h1 : hd s1 = 44
    · rw [if_pos h1]
    · rw [if_neg h1, if_neg (show ¬ n + 1 ≤ 3 by omega)]; simp
theorem finA_bad0 {rec : List UInt8 → List UInt8 → Rd} {s vs : List UInt8} (h : rTerm rec s vs = none) : rArgs rec 3 s vs = none := by
  show rArgs rec (2 + 1) s vs = _
  unfold rArgs
  rw [h]
theorem finA_bad {rec : List UInt8 → List UInt8 → Rd} {n : Nat} {ts : List Tm} {r vs : List UInt8} (hc : hd r = 44) (h : rTerm rec r.tail vs = none) : finA rec n ts r vs = none := by
  unfold finA
  rw [if_pos hc]
  cases hk : 3 - n with
  | zero => rfl
  | succ j => rw [rArgs, h]
theorem finA_end {rec : List UInt8 → List UInt8 → Rd} {n : Nat} {ts : List Tm} {r vs : List UInt8} (hc : hd r = 41) : finA rec n ts r vs = if n ≤ 3 then some (ts, r.tail, vs) else none := by
  unfold finA
  rw [if_neg (by rw [hc]; decide), if_pos hc]
theorem finA_none {rec : List UInt8 → List UInt8 → Rd} {n : Nat} {ts : List Tm} {r vs : List UInt8} (hc : ¬ hd r = 44) (hd' : ¬ hd r = 41) : finA rec n ts r vs = none := by
  unfold finA
  rw [if_neg hc, if_neg hd']

/-- A reading that meets too many letters: so do all that go on from it. -/
theorem finA_many {rec : List UInt8 → List UInt8 → Rd} (h : Tops rec) {n : Nat} {ts : List Tm} {r vs : List UInt8} {ts' : List Tm} {s' vs' : List UInt8} (e : finA rec n ts r vs = some (ts', s', vs')) : vs.length ≤ vs'.length := by
  unfold finA at e
  split at e
  · cases hr : rArgs rec (3 - n) r.tail vs with
    | none => rw [hr] at e; cases e
    | some y =>
      obtain ⟨ts2, s2, vs2⟩ := y
      rw [hr] at e
      simp only [Option.some.injEq, Prod.mk.injEq] at e
      obtain ⟨_, _, rfl⟩ := e
      have := rArgs_tops h _ _ _ _ _ _ hr
      omega
  · split at e
    · split at e
      · simp only [Option.some.injEq, Prod.mk.injEq] at e
        obtain ⟨_, _, rfl⟩ := e
        omega
      · cases e
    · cases e
end Go.Proofs.Qxb6500302a
