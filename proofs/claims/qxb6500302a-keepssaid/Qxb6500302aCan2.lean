import Derived.Test.Qxb6500302aCan1
import Derived.Test.Qxb6500302aPlain2
namespace Go.Proofs.Qxb6500302a
set_option linter.unusedSimpArgs false
set_option linter.unusedVariables false

/-- A tree as a text gives them, to a depth of m: B bounds the variables' numbers. -/
def Good (B : Nat) : Nat → Tm → Prop
  | 0, _ => False
  | m + 1, t => (t.kind = 0 ∧ t.kids = [] ∧ t.num < B) ∨ (t = tCut) ∨ (t.kind = 2 ∧ isLow t.letter = true ∧ t.kids.length ≤ 3 ∧ ∀ u ∈ t.kids, Good B m u)

theorem Good.up {B : Nat} : ∀ {n m : Nat} {t : Tm}, n ≤ m → Good B n t → Good B m t
  | 0, _, _, _, h => h.elim
  | n + 1, 0, _, hm, _ => by omega
  | n + 1, m + 1, t, hm, h => by
    rcases h with h | h | ⟨h1, h2, h3, h4⟩
    · exact .inl h
    · exact .inr (.inl h)
    · exact .inr (.inr ⟨h1, h2, h3, fun u hu => Good.up (by omega) (h4 u hu)⟩)

/-- Of any reading: the numbers that a tree bears are those that it shows. -/
def Shp (m : Nat) (t : Tm) : Prop := ∀ B, topVar t ≤ B → Good B m t

def ShpR (m : Nat) (rec : List UInt8 → List UInt8 → Rd) : Prop := ∀ s vs t s' vs', rec s vs = some (t, s', vs') → Shp m t

theorem rTerm_shp {m : Nat} {rec : List UInt8 → List UInt8 → Rd} (h : ShpR (m + 1) rec) : ShpR (m + 1) (rTerm rec) := by
  intro s vs t s' vs' e
  unfold rTerm at e
  split at e
  · cases e
    intro B hB
    rw [topVar_var rfl] at hB
    exact .inl ⟨rfl, rfl, hB⟩
  · exact h _ _ _ _ _ e

theorem rArgs_shp {m : Nat} {rec : List UInt8 → List UInt8 → Rd} (h : ShpR (m + 1) rec) : ∀ k s vs ts s' vs', rArgs rec k s vs = some (ts, s', vs') → ts.length ≤ k ∧ ∀ u ∈ ts, Shp (m + 1) u
  | 0, s, vs, ts, s', vs', e => by cases e
  | k + 1, s, vs, ts, s', vs', e => by
    unfold rArgs at e
    split at e
    · cases e
    · rename_i t s1 vs1 ht
      have h1 := rTerm_shp h _ _ _ _ _ ht
      split at e
      · split at e
        · cases e
        · rename_i ts2 s2 vs2 hr
          cases e
          obtain ⟨h2, h3⟩ := rArgs_shp h k _ _ _ _ _ hr
          refine ⟨by simp; omega, fun u hu => ?_⟩
          rcases List.mem_cons.1 hu with rfl | hu
          · exact h1
          · exact h3 u hu
      · split at e
        · cases e
          refine ⟨by simp, fun u hu => ?_⟩
          simp at hu; subst hu; exact h1
        · cases e

theorem topVar_kid {t u : Tm} (hk : t.kind ≠ 0) (hu : u ∈ t.kids) : topVar u ≤ topVar t := by
  rw [topVar_other hk]
  generalize t.kids = ts at hu
  induction ts with
  | nil => cases hu
  | cons x ts ih =>
    simp only [List.map_cons, List.foldl_cons]
    rw [foldl_max]
    rcases List.mem_cons.1 hu with rfl | hu
    · omega
    · have := ih hu; omega

theorem call_shp {m : Nat} {c : UInt8} {ts : List Tm} (hc : isLow c = true) (hl : ts.length ≤ 3) (h : ∀ u ∈ ts, Shp m u) : Shp (m + 1) (tCall c ts) := by
  intro B hB
  refine .inr (.inr ⟨rfl, hc, hl, fun u hu => h u hu B ?_⟩)
  have := topVar_kid (t := tCall c ts) (u := u) (by simp [tCall]) hu
  omega

theorem rCall_shp : ∀ n, ShpR (n + 1) (rCall n)
  | 0 => by intro s vs t s' vs' e; cases e
  | n + 1 => by
    intro s vs t s' vs' e
    unfold rCall at e
    split at e
    · rename_i hl
      split at e
      · split at e
        · cases e
        · rename_i ts s2 vs2 hr
          cases e
          obtain ⟨h2, h3⟩ := rArgs_shp (rCall_shp n) _ _ _ _ _ _ hr
          exact call_shp hl h2 h3
      · cases e
        exact call_shp hl (by simp) (fun u hu => by cases hu)
    · cases e

theorem rGoal_shp (n : Nat) : ShpR (n + 1) (rGoal n) := by
  intro s vs t s' vs' e
  unfold rGoal at e
  split at e
  · cases e
    intro B _
    exact .inr (.inl rfl)
  · exact rCall_shp n _ _ _ _ _ e

theorem rGoals_shp (n : Nat) : ∀ k s vs ts s' vs', rGoals n k s vs = some (ts, s', vs') → ∀ u ∈ ts, Shp (n + 1) u
  | 0, s, vs, ts, s', vs', e => by cases e
  | k + 1, s, vs, ts, s', vs', e => by
    unfold rGoals at e
    split at e
    · cases e
    · rename_i t s1 vs1 ht
      have h1 := rGoal_shp n _ _ _ _ _ ht
      split at e
      · split at e
        · cases e
        · rename_i ts2 s2 vs2 hr
          cases e
          have h3 := rGoals_shp n k _ _ _ _ _ hr
          intro u hu
          rcases List.mem_cons.1 hu with rfl | hu
          · exact h1
          · exact h3 u hu
      · cases e
        intro u hu
        simp at hu; subst hu; exact h1

theorem rRead_shp {q : Bool} {s : List UInt8} {ts : List Tm} {vs : List UInt8} (h : rRead q s = some (ts, vs)) : ∀ u ∈ ts, Shp (s.length + 2) u := by
  unfold rRead at h
  cases q with
  | true =>
    simp only [if_true] at h
    split at h
    · rename_i ts' vs' hr
      cases h
      exact rGoals_shp _ _ _ _ _ _ _ hr
    · cases h
  | false =>
    simp only [Bool.false_eq_true, if_false] at h
    split at h
    · cases h
    · rename_i hh s1 vs1 hc
      have h0 := rCall_shp _ _ _ _ _ _ hc
      split at h
      · cases h
        intro u hu
        simp at hu; subst hu; exact h0
      · split at h
        · split at h
          · split at h
            · rename_i ts' vs' hr
              cases h
              have h4 := rGoals_shp _ _ _ _ _ _ _ hr
              intro u hu
              rcases List.mem_cons.1 hu with rfl | hu
              · exact h0
              · exact h4 u hu
            · cases h
          · cases h
        · cases h

theorem parse_good {q : Bool} {s : List UInt8} {t : Tm} (h : parseOf q s = some t) : ∃ ts, t = tCall (rootOf q) ts ∧ ts ≠ [] ∧ ts.length ≤ 4 ∧ ∀ u ∈ ts, Good 6 (s.length + 2) u := by
  obtain ⟨ts, vs, hr, rfl, hl, h6⟩ := parse_read h
  have hs := rRead_shp hr
  refine ⟨ts, rfl, ?_, ?_, fun u hu => hs u hu 6 ?_⟩
  · rintro rfl
    unfold rRead at hr
    cases q with
    | true =>
      simp only [if_true] at hr
      split at hr
      · rename_i ts' vs' hr'
        cases hr
        exact absurd rfl (rGoals_back _ _ _ _ _ _ _ hr').1
      · cases hr
    | false =>
      simp only [Bool.false_eq_true, if_false] at hr
      repeat' split at hr
      all_goals cases hr
  · cases q with
    | true => simp at hl; omega
    | false => simp at hl; omega
  · have := topVar_kid (t := tCall (rootOf q) ts) (u := u) (by simp [tCall]) hu
    omega
end Go.Proofs.Qxb6500302a
