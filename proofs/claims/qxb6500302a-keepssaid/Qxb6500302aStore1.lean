import Derived.Test.Qxb6500302aEnter2
namespace Go.Proofs.Qxb6500302a
set_option linter.unusedSimpArgs false
set_option linter.unusedVariables false

/-! ### The index, as plain functions of the clauses -/
def headOf (t : Tm) : Tm := t.kids.headD tCut
def predOf (t : Tm) : K2 := ((headOf t).letter, digit (headOf t).kids.length)
def keyOf (t : Tm) : Option K2 := ownKeyOf (headOf t)

def idsF (p : Tm → Bool) : Nat → List Tm → List Nat
  | _, [] => []
  | i, t :: ts => if p t then i :: idsF p (i + 1) ts else idsF p (i + 1) ts
theorem idsF_snoc (p : Tm → Bool) (t : Tm) : ∀ (cs : List Tm) (i : Nat), idsF p i (cs ++ [t]) = idsF p i cs ++ if p t then [i + cs.length] else []
  | [], i => by simp [idsF]
  | x :: cs, i => by
    have e : i + 1 + cs.length = i + (x :: cs).length := by simp; omega
    simp only [List.cons_append, idsF, idsF_snoc p t cs (i + 1), e]
    split <;> simp
theorem idsF_congr {p q : Tm → Bool} : ∀ {cs : List Tm} {i : Nat}, (∀ t ∈ cs, p t = q t) → idsF p i cs = idsF q i cs
  | [], _, _ => rfl
  | x :: cs, i, h => by
    simp only [idsF, h x (by simp), idsF_congr (cs := cs) (i := i + 1) (fun t ht => h t (by simp [ht]))]
theorem idsF_length (p : Tm → Bool) : ∀ (cs : List Tm) (i : Nat), (idsF p i cs).length ≤ cs.length
  | [], _ => by simp [idsF]
  | x :: cs, i => by
    have := idsF_length p cs (i + 1)
    simp only [idsF]
    split <;> simp <;> omega

def optL (l : List Nat) : Option (List Nat) := if l = [] then none else some l
theorem optL_getD (l : List Nat) : (optL l).getD [] = l := by
  unfold optL; split
  · rename_i h; simp [h]
  · rfl

def fAll (cs : List Tm) : K2 → Option (List Nat) := fun k => optL (idsF (fun t => decide (predOf t = k)) 0 cs)
def fOpen (cs : List Tm) : K2 → Option (List Nat) := fun k => optL (idsF (fun t => decide (predOf t = k) && decide (keyOf t = none)) 0 cs)
def fKey (cs : List Tm) : K4 → Option (List Nat) := fun k =>
  if cs.any (fun t => decide (predOf t = k.1) && decide (keyOf t = some k.2)) then some (idsF (fun t => decide (predOf t = k.1) && (decide (keyOf t = some k.2) || decide (keyOf t = none))) 0 cs) else none

theorem optL_snoc (l : List Nat) (i : Nat) : optL (l ++ [i]) = some (l ++ [i]) := by unfold optL; simp

theorem fAll_add (cs : List Tm) (t : Tm) : bump (fAll cs) (predOf t) cs.length = fAll (cs ++ [t]) := by
  funext k
  unfold bump fAll
  simp only [idsF_snoc, optL_getD]
  by_cases h : k = predOf t
  · subst h
    simp [optL_snoc]
  · have : ¬ predOf t = k := fun e => h e.symm
    simp [h, this]
theorem fOpen_add (cs : List Tm) (t : Tm) (hk : keyOf t = none) : bump (fOpen cs) (predOf t) cs.length = fOpen (cs ++ [t]) := by
  funext k
  unfold bump fOpen
  simp only [idsF_snoc, optL_getD]
  by_cases h : k = predOf t
  · subst h
    simp [optL_snoc, hk]
  · have : ¬ predOf t = k := fun e => h e.symm
    simp [h, this]
theorem fOpen_keyed (cs : List Tm) (t : Tm) {f : K2} (hk : keyOf t = some f) : fOpen cs = fOpen (cs ++ [t]) := by
  funext k
  unfold fOpen
  simp [idsF_snoc, hk]
theorem fKey_open (cs : List Tm) (t : Tm) (hk : keyOf t = none) :
    (fun k' => if k'.1 = predOf t then (fKey cs k').map (· ++ [cs.length]) else fKey cs k') = fKey (cs ++ [t]) := by
  funext k
  unfold fKey
  simp only [idsF_snoc, List.any_append, List.any_cons, List.any_nil, hk]
  by_cases h : k.1 = predOf t
  · simp [h]
  · have : ¬ predOf t = k.1 := fun e => h e.symm
    simp [h, this]
theorem fKey_keyed (cs : List Tm) (t : Tm) {f : K2} (hk : keyOf t = some f) :
    (fun k' => if k' = (predOf t, f) then some ((fKey cs (predOf t, f)).getD ((fOpen cs (predOf t)).getD []) ++ [cs.length]) else fKey cs k') = fKey (cs ++ [t]) := by
  funext k
  by_cases h : k = (predOf t, f)
  · subst h
    unfold fKey fOpen
    simp only [idsF_snoc, List.any_append, List.any_cons, List.any_nil, hk, optL_getD]
    simp
    cases hany : cs.any (fun t_1 => decide (predOf t_1 = predOf t) && decide (keyOf t_1 = some f)) with
    | true =>
      rw [if_pos (by simpa using hany)]
      rfl
    | false =>
      rw [if_neg (by simpa using hany)]
      simp only [Option.getD_none]
      apply idsF_congr
      intro x hx
      rw [List.any_eq_false] at hany
      have := hany x hx
      by_cases h1 : predOf x = predOf t
      · have h2 : ¬ keyOf x = some f := fun e => this (by simp [h1, e])
        simp [h1, h2]
      · simp [h1]
  · rw [if_neg h]
    unfold fKey
    simp only [idsF_snoc, List.any_append, List.any_cons, List.any_nil, hk]
    have h2 : ¬ (predOf t = k.1 ∧ f = k.2) := fun e => h (by rw [e.1, e.2])
    have h3 : (decide (predOf t = k.1) && decide (some f = some k.2)) = false := by
      rw [Bool.and_eq_false_iff]
      by_cases e : predOf t = k.1
      · right; simp; exact fun e' => h2 ⟨e, e'⟩
      · left; simp [e]
    have h4 : (decide (predOf t = k.1) && (decide (some f = some k.2) || decide (some f = none))) = false := by simpa using h3
    simp [h2]

theorem fAll_len (cs : List Tm) (k : K2) : ((fAll cs k).getD []).length ≤ cs.length := by unfold fAll; rw [optL_getD]; exact idsF_length _ _ _
theorem fOpen_len (cs : List Tm) (k : K2) : ((fOpen cs k).getD []).length ≤ cs.length := by unfold fOpen; rw [optL_getD]; exact idsF_length _ _ _
theorem fKey_len (cs : List Tm) (k : K4) : ((fKey cs k).getD []).length ≤ cs.length := by
  unfold fKey; split
  · exact idsF_length _ _ _
  · simp

/-- What a clause's tree looks like. -/
theorem rCall_kind : ∀ {n : Nat} {s vs : List UInt8} {t : Tm} {s' vs' : List UInt8}, rCall n s vs = some (t, s', vs') → t.kind = 2
  | 0, _, _, _, _, _, h => by cases h
  | n + 1, s, vs, t, s', vs', h => by
    unfold rCall at h
    split at h
    · split at h
      · split at h
        · cases h
        · cases h; rfl
      · cases h; rfl
    · cases h
theorem parse_shape {s : List UInt8} {t : Tm} (h : parseOf false s = some t) : ∃ hd ts, t = tCall 58 (hd :: ts) ∧ hd.kind = 2 := by
  unfold parseOf at h
  split at h
  · cases h
  · rename_i ts vs hr
    have h' : (if (if false = true then ts else ts.tail).length ≤ 3 ∧ topVar (tCall (rootOf false) ts) ≤ 6 then some (tCall (rootOf false) ts) else none) = some t := h
    simp only [Bool.false_eq_true, if_false] at h'
    split at h'
    · have h2 := Option.some.inj h'
      subst h2
      unfold rRead at hr
      simp only [Bool.false_eq_true, if_false] at hr
      split at hr
      · cases hr
      · rename_i hh s1 vs1 hc
        have hk := rCall_kind hc
        split at hr
        · cases hr; exact ⟨hh, [], rfl, hk⟩
        · split at hr
          · split at hr
            · split at hr
              · cases hr; exact ⟨hh, _, rfl, hk⟩
              · cases hr
            · cases hr
          · cases hr
    · cases h'
end Go.Proofs.Qxb6500302a
