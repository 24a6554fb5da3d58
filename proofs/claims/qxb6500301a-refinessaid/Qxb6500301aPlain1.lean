/-
  The plain side of seat b6500301a: nodes, dereferencing, the occurs check, unification. No Go in sight.
-/
namespace Go.Proofs.Qxb6500301a
set_option linter.unusedVariables false

/-- A node: a variable (what it is bound to), or a structure (its letter, its arity's digit, its arguments). -/
inductive Nd where
  | v (r : Option Nat)
  | s (c d : UInt8) (as : List Nat)

def derefN : Nat → List Nd → Nat → Nat
  | 0, _, a => a
  | f + 1, ns, a => match ns[a]? with
    | some (.v (some r)) => derefN f ns r
    | _ => a
def deref (ns : List Nd) (a : Nat) : Nat := derefN (ns.length + 2) ns a
def kidsOf (ns : List Nd) (a : Nat) : List Nat := match ns[a]? with
  | some (.s _ _ as) => as
  | _ => []

structure WfN (ns : List Nd) : Prop where
  ref : ∀ (i r : Nat), ns[i]? = some (Nd.v (some r)) → r < ns.length ∧ ∀ q : Option Nat, ns[r]? = some (Nd.v q) → r < i
  arg : ∀ (i : Nat) (c d : UInt8) (as : List Nat), ns[i]? = some (Nd.s c d as) → 48 ≤ d.toNat ∧ d.toNat ≤ 52 ∧ as.length = d.toNat - 48 ∧ ∀ k ∈ as, k < ns.length

section
variable {ns : List Nd}

theorem lt_of_some {i : Nat} {x : Nd} (h : ns[i]? = some x) : i < ns.length := (List.getElem?_eq_some_iff.1 h).1

theorem derefN_stable (h : WfN ns) : ∀ (a f g : Nat), a + 2 ≤ f → a + 2 ≤ g → derefN f ns a = derefN g ns a := by
  intro a
  induction a using Nat.strongRecOn with
  | _ a ih =>
    intro f g hf hg
    obtain ⟨f', rfl⟩ : ∃ f', f = f' + 1 := ⟨f - 1, by omega⟩
    obtain ⟨g', rfl⟩ : ∃ g', g = g' + 1 := ⟨g - 1, by omega⟩
    cases hx : ns[a]? with
    | none => simp [derefN, hx]
    | some x =>
      cases x with
      | s c d as => simp [derefN, hx]
      | v q =>
        cases q with
        | none => simp [derefN, hx]
        | some r =>
          obtain ⟨h1, h2⟩ := h.ref a r hx
          simp only [derefN, hx]
          cases hr : ns[r]? with
          | none => exact absurd (List.getElem?_eq_none_iff.1 hr) (by omega)
          | some y =>
            cases y with
            | v q => exact ih r (h2 q hr) f' g' (by have := h2 q hr; omega) (by have := h2 q hr; omega)
            | s c d as =>
              obtain ⟨f'', rfl⟩ : ∃ f'', f' = f'' + 1 := ⟨f' - 1, by omega⟩
              obtain ⟨g'', rfl⟩ : ∃ g'', g' = g'' + 1 := ⟨g' - 1, by omega⟩
              simp [derefN, hr]

theorem deref_bound (h : WfN ns) {a r : Nat} (ha : ns[a]? = some (.v (some r))) : deref ns a = deref ns r := by
  have h1 := h.ref a r ha
  have e : deref ns a = derefN (ns.length + 1) ns r := by
    unfold deref
    simp [derefN, ha]
  rw [e]
  exact derefN_stable h r _ _ (by omega) (by omega)
theorem deref_free {a : Nat} (ha : ∀ r, ns[a]? ≠ some (.v (some r))) : deref ns a = a := by
  unfold deref
  show derefN ((ns.length + 1) + 1) ns a = a
  unfold derefN
  split
  · rename_i r hr; exact absurd hr (ha r)
  · rfl
/-- What a dereferenced address holds: no bound variable. -/
theorem deref_end (h : WfN ns) : ∀ (a : Nat), a < ns.length → deref ns a < ns.length ∧ (ns[deref ns a]? = some (.v none) ∨ ∃ c d as, ns[deref ns a]? = some (.s c d as)) := by
  intro a
  induction a using Nat.strongRecOn with
  | _ a ih =>
    intro ha
    cases hx : ns[a]? with
    | none => exact absurd (List.getElem?_eq_none_iff.1 hx) (by omega)
    | some x =>
      cases x with
      | s c d as => rw [deref_free (fun r e => by rw [hx] at e; cases e)]; exact ⟨ha, .inr ⟨c, d, as, hx⟩⟩
      | v q =>
        cases q with
        | none => rw [deref_free (fun r e => by rw [hx] at e; cases e)]; exact ⟨ha, .inl hx⟩
        | some r =>
          obtain ⟨h1, h2⟩ := h.ref a r hx
          rw [deref_bound h hx]
          cases hr : ns[r]? with
          | none => exact absurd (List.getElem?_eq_none_iff.1 hr) (by omega)
          | some y =>
            cases y with
            | v q => exact ih r (h2 q hr) h1
            | s c d as => rw [deref_free (fun r e => by rw [hr] at e; cases e)]; exact ⟨h1, .inr ⟨c, d, as, hr⟩⟩
theorem kids_lt (h : WfN ns) (a : Nat) : ∀ k ∈ kidsOf ns a, k < ns.length := by
  intro k hk
  unfold kidsOf at hk
  split at hk
  · rename_i c d as ha; exact (h.arg a c d as ha).2.2.2 k hk
  · cases hk
theorem kids_len (h : WfN ns) (a : Nat) : (kidsOf ns a).length ≤ 4 := by
  unfold kidsOf
  split
  · rename_i c d as ha; have := h.arg a c d as ha; omega
  · simp
end

/-! ### The occurs check: f: the steps that are left -/
def occ : Nat → List Nd → Nat → List Nat → Nat × Nat
  | f, _, _, [] => (f, 0)
  | 0, _, _, _ :: _ => (0, 8)
  | f + 1, ns, v, t :: rest => if deref ns t = v then (f, 7) else occ f ns v (kidsOf ns (deref ns t) ++ rest)

theorem occ_nil (f : Nat) (ns : List Nd) (v : Nat) : occ f ns v [] = (f, 0) := by cases f <;> rfl
theorem occ_zero (ns : List Nd) (v t : Nat) (rest : List Nat) : occ 0 ns v (t :: rest) = (0, 8) := rfl
theorem occ_met {f : Nat} {ns : List Nd} {v t : Nat} {rest : List Nat} (h : deref ns t = v) : occ (f + 1) ns v (t :: rest) = (f, 7) := by
  show (if deref ns t = v then _ else _) = _
  rw [if_pos h]
theorem occ_on {f : Nat} {ns : List Nd} {v t : Nat} {rest : List Nat} (h : ¬ deref ns t = v) : occ (f + 1) ns v (t :: rest) = occ f ns v (kidsOf ns (deref ns t) ++ rest) := by
  show (if deref ns t = v then _ else _) = _
  rw [if_neg h]

theorem occ_append (ns : List Nd) (v : Nat) : ∀ (f : Nat) (l1 l2 : List Nat), occ f ns v (l1 ++ l2) = if (occ f ns v l1).2 = 0 then occ (occ f ns v l1).1 ns v l2 else occ f ns v l1 := by
  intro f
  induction f with
  | zero =>
    intro l1 l2
    cases l1 with
    | nil => rw [occ_nil]; rfl
    | cons t r => rw [List.cons_append, occ_zero, occ_zero, if_neg (by simp)]
  | succ f ih =>
    intro l1 l2
    cases l1 with
    | nil => rw [occ_nil]; rfl
    | cons t r =>
      rw [List.cons_append]
      by_cases h : deref ns t = v
      · rw [occ_met h, occ_met h, if_neg (by simp)]
      · rw [occ_on h, occ_on h, ← List.append_assoc, ih]
theorem occ_le (ns : List Nd) (v : Nat) : ∀ (f : Nat) (l : List Nat), (occ f ns v l).1 ≤ f := by
  intro f
  induction f with
  | zero =>
    intro l
    cases l with
    | nil => rw [occ_nil]; exact Nat.le_refl _
    | cons t r => rw [occ_zero]; exact Nat.le_refl _
  | succ f ih =>
    intro l
    cases l with
    | nil => rw [occ_nil]; exact Nat.le_refl _
    | cons t r =>
      by_cases h : deref ns t = v
      · rw [occ_met h]; simp
      · rw [occ_on h]; have := ih (kidsOf ns (deref ns t) ++ r); omega
theorem occ_err (ns : List Nd) (v : Nat) : ∀ (f : Nat) (l : List Nat), (occ f ns v l).2 = 0 ∨ (occ f ns v l).2 = 7 ∨ (occ f ns v l).2 = 8 := by
  intro f
  induction f with
  | zero =>
    intro l
    cases l with
    | nil => rw [occ_nil]; simp
    | cons t r => rw [occ_zero]; simp
  | succ f ih =>
    intro l
    cases l with
    | nil => rw [occ_nil]; simp
    | cons t r =>
      by_cases h : deref ns t = v
      · rw [occ_met h]; simp
      · rw [occ_on h]; exact ih _

/-! ### Unification -/
inductive SR where
  | err (e : Nat)
  | done (f : Nat) (ns : List Nd) (bs : List Nat)
  | more (ps : List (Nat × Nat))

def bnd (f : Nat) (ns : List Nd) (v t : Nat) : SR := if (occ f ns v [t]).2 = 0 then .done (occ f ns v [t]).1 (ns.set v (.v (some t))) [v] else .err (occ f ns v [t]).2

/-- One pair; f: the steps that are left behind this one. -/
def stp (f : Nat) (ns : List Nd) (a b : Nat) : SR :=
  if deref ns a = deref ns b then .done f ns []
  else match ns[deref ns a]?, ns[deref ns b]? with
    | some (.s c d as), some (.s c' d' as') => if c = c' ∧ d = d' then .more (as.zip as') else .err 7
    | some (.s _ _ _), _ => bnd f ns (deref ns b) (deref ns a)
    | _, some (.s _ _ _) => bnd f ns (deref ns a) (deref ns b)
    | _, _ => .done f (ns.set (max (deref ns a) (deref ns b)) (.v (some (min (deref ns a) (deref ns b))))) [max (deref ns a) (deref ns b)]

/-- An error, or: the steps that are left, the nodes, what was bound. -/
abbrev UR : Type := Nat ⊕ (Nat × List Nd × List Nat)
def app (bs : List Nat) : UR → UR
  | .inl e => .inl e
  | .inr (f, ns, bs') => .inr (f, ns, bs ++ bs')

def uni : Nat → Nat → List Nd → List (Nat × Nat) → UR
  | _, f, ns, [] => .inr (f, ns, [])
  | 0, _, _, _ :: _ => .inl 8
  | _ + 1, 0, _, _ :: _ => .inl 8
  | g + 1, f + 1, ns, (a, b) :: rest => match stp f ns a b with
    | .err e => .inl e
    | .done f' ns' bs => app bs (uni g f' ns' rest)
    | .more ps => uni g f ns (ps ++ rest)
def U (f : Nat) (ns : List Nd) (l : List (Nat × Nat)) : UR := uni f f ns l

theorem stp_le {f : Nat} {ns : List Nd} {a b f' : Nat} {ns' : List Nd} {bs : List Nat} (h : stp f ns a b = .done f' ns' bs) : f' ≤ f := by
  unfold stp at h
  split at h
  · simp only [SR.done.injEq] at h; omega
  · split at h
    · split at h <;> simp at h
    · unfold bnd at h
      split at h
      · simp only [SR.done.injEq] at h; have := occ_le ns (deref ns b) f [deref ns a]; omega
      · simp at h
    · unfold bnd at h
      split at h
      · simp only [SR.done.injEq] at h; have := occ_le ns (deref ns a) f [deref ns b]; omega
      · simp at h
    · simp only [SR.done.injEq] at h; omega

theorem uni_fuel : ∀ (f g : Nat) (ns : List Nd) (l : List (Nat × Nat)), f ≤ g → uni g f ns l = uni f f ns l := by
  intro f
  induction f using Nat.strongRecOn with
  | _ f ih =>
    intro g ns l hg
    cases l with
    | nil => cases g <;> cases f <;> rfl
    | cons p rest =>
      cases f with
      | zero => cases g <;> rfl
      | succ f =>
        obtain ⟨g', rfl⟩ : ∃ g', g = g' + 1 := ⟨g - 1, by omega⟩
        obtain ⟨a, b⟩ := p
        simp only [uni]
        cases hs : stp f ns a b with
        | err e => rfl
        | done f' ns' bs =>
          have hle := stp_le hs
          simp only
          rw [ih f' (by omega) g' _ _ (by omega), ih f' (by omega) f _ _ hle]
        | more ps =>
          simp only
          rw [ih f (by omega) g' _ _ (by omega)]
theorem U_nil (f : Nat) (ns : List Nd) : U f ns [] = .inr (f, ns, []) := by unfold U; cases f <;> rfl
theorem U_zero (ns : List Nd) (p : Nat × Nat) (rest : List (Nat × Nat)) : U 0 ns (p :: rest) = .inl 8 := rfl
theorem U_cons (f : Nat) (ns : List Nd) (a b : Nat) (rest : List (Nat × Nat)) : U (f + 1) ns ((a, b) :: rest) = match stp f ns a b with
    | .err e => .inl e
    | .done f' ns' bs => app bs (U f' ns' rest)
    | .more ps => U f ns (ps ++ rest) := by
  unfold U
  conv => lhs; unfold uni
  cases hs : stp f ns a b with
  | err e => rfl
  | done f' ns' bs =>
    simp only
    rw [uni_fuel f' f _ _ (stp_le hs)]
  | more ps => rfl
theorem app_app (a b : List Nat) (r : UR) : app a (app b r) = app (a ++ b) r := by
  cases r with
  | inl e => rfl
  | inr x => simp [app]
theorem app_nil (r : UR) : app [] r = r := by
  cases r with
  | inl e => rfl
  | inr x => rfl
/-- One list of pairs, then another. -/
def thn (r : UR) (l : List (Nat × Nat)) : UR := match r with
  | .inl e => .inl e
  | .inr (f, ns, bs) => app bs (U f ns l)
theorem thn_app (bs : List Nat) (r : UR) (l : List (Nat × Nat)) : thn (app bs r) l = app bs (thn r l) := by
  cases r with
  | inl e => rfl
  | inr x => show app (bs ++ x.2.2) (U x.1 x.2.1 l) = app bs (app x.2.2 (U x.1 x.2.1 l)); rw [app_app]
theorem U_seq : ∀ (f : Nat) (ns : List Nd) (l1 l2 : List (Nat × Nat)), U f ns (l1 ++ l2) = thn (U f ns l1) l2 := by
  intro f
  induction f using Nat.strongRecOn with
  | _ f ih =>
    intro ns l1 l2
    cases l1 with
    | nil => rw [U_nil, List.nil_append]; simp only [thn]; rw [app_nil]
    | cons p rest =>
      cases f with
      | zero => rfl
      | succ f =>
        obtain ⟨a, b⟩ := p
        rw [List.cons_append, U_cons, U_cons]
        cases hs : stp f ns a b with
        | err e => rfl
        | done f' ns' bs =>
          simp only
          rw [thn_app, ih f' (by have := stp_le hs; omega)]
        | more ps =>
          simp only
          rw [← List.append_assoc, ih f (by omega)]
end Go.Proofs.Qxb6500301a
