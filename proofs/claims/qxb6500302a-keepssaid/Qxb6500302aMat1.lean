import Derived.Test.Qxb6500302aSho1
namespace Go.Proofs.Qxb6500302a
set_option linter.unusedSimpArgs false
set_option linter.unusedVariables false

/-- MATCH, by the clause itself. -/
def keyList (k : K2) : List UInt8 := [k.1, k.2]
def wantP (p f : List UInt8) (t : Tm) : Bool :=
  decide (keyList (predOf t) = p) && (decide (f = []) || (match keyOf t with
    | none => true
    | some k => decide (keyList k = f)))

theorem keyList_pair {p : List UInt8} (h : p.length = 2) (k : K2) : keyList k = p ↔ k = pair p := by
  match p, h with
  | [a, b], _ =>
    obtain ⟨x, y⟩ := k
    simp [keyList, pair]
theorem keyList_len (k : K2) : (keyList k).length = 2 := rfl

theorem match_want (cs : List Tm) (p f : List UInt8) : matchOf cs p f = spellOf (idsF (wantP p f) 0 cs) := by
  unfold matchOf
  by_cases hp : p.length = 2
  · rw [if_neg (by omega)]
    by_cases hf : f = []
    · rw [if_pos hf]
      unfold fAll
      rw [optL_getD]
      congr 1
      apply idsF_congr
      intro t _
      unfold wantP
      simp only [hf, decide_true, Bool.true_or, Bool.and_true]
      exact decide_eq_decide.2 (keyList_pair hp _).symm
    · rw [if_neg hf]
      by_cases hf2 : f.length = 2
      · rw [if_pos hf2]
        unfold fKey fOpen
        rw [optL_getD]
        split
        · congr 1
          simp only [Option.getD_some]
          apply idsF_congr
          intro t _
          unfold wantP
          have h1 : decide (keyList (predOf t) = p) = decide (predOf t = pair p) := decide_eq_decide.2 (keyList_pair hp _)
          rw [h1]
          congr 1
          simp only [hf, decide_false, Bool.false_or]
          cases hk : keyOf t with
          | none => simp
          | some k =>
            simp only [Option.some.injEq, reduceCtorEq, decide_false, Bool.or_false]
            exact decide_eq_decide.2 (keyList_pair hf2 _).symm
        · rename_i hany
          congr 1
          simp only [Option.getD_none]
          apply idsF_congr
          intro t ht
          unfold wantP
          have h1 : decide (keyList (predOf t) = p) = decide (predOf t = pair p) := decide_eq_decide.2 (keyList_pair hp _)
          rw [h1]
          simp only [hf, decide_false, Bool.false_or]
          cases hk : keyOf t with
          | none => simp
          | some k =>
            simp only [reduceCtorEq, decide_false, Bool.and_false]
            symm
            rw [Bool.and_eq_false_iff]
            by_cases hpt : predOf t = pair p
            · right
              rw [decide_eq_false_iff_not, keyList_pair hf2]
              intro e
              apply hany
              rw [List.any_eq_true]
              exact ⟨t, ht, by simp [hpt, hk, e]⟩
            · left; simp [hpt]
      · rw [if_neg hf2]
        unfold fOpen
        rw [optL_getD]
        congr 1
        apply idsF_congr
        intro t _
        unfold wantP
        have h1 : decide (keyList (predOf t) = p) = decide (predOf t = pair p) := decide_eq_decide.2 (keyList_pair hp _)
        rw [h1]
        congr 1
        simp only [hf, decide_false, Bool.false_or]
        cases hk : keyOf t with
        | none => simp
        | some k =>
          have : ¬ keyList k = f := fun e => hf2 (by rw [← e]; rfl)
          simp [this]
  · rw [if_pos hp]
    have : idsF (wantP p f) 0 cs = [] := by
      have hq : ∀ (cs : List Tm) (i : Nat), idsF (wantP p f) i cs = [] := by
        intro cs
        induction cs with
        | nil => intro i; rfl
        | cons t cs ih =>
          intro i
          have : wantP p f t = false := by
            unfold wantP
            have : ¬ keyList (predOf t) = p := fun e => hp (by rw [← e]; rfl)
            simp [this]
          simp only [idsF, this, Bool.false_eq_true, if_false]
          exact ih _
      exact hq cs 0
    rw [this]; rfl
end Go.Proofs.Qxb6500302a
