import Derived.Test.Qxb6500301aPlain2
namespace Go.Proofs.Qxb6500301a
set_option linter.unusedVariables false
set_option linter.unusedSimpArgs false

def isVarC (c : UInt8) : Bool := 65 ≤ c.toNat && c.toNat ≤ 70
def isFun (c : UInt8) : Bool := (97 ≤ c.toNat && c.toNat ≤ 122) || c.toNat == 33 || c.toNat == 58 || c.toNat == 63
def okD (d : UInt8) : Bool := 48 ≤ d.toNat && d.toNat ≤ 52

/-- How many nodes the code takes; none: it is no code. -/
def scanL : List UInt8 → Nat → List Bool → Nat → Option Nat
  | code, 0, _, n => if code = [] then some n else none
  | [], _ + 1, _, _ => none
  | [c], want + 1, seen, n => if isVarC c then scanL [] want (seen.set (c.toNat - 65) true) (if seen.getD (c.toNat - 65) false then n else n + 1) else none
  | c :: d :: r, want + 1, seen, n =>
    if isVarC c then scanL (d :: r) want (seen.set (c.toNat - 65) true) (if seen.getD (c.toNat - 65) false then n else n + 1)
    else if isFun c && okD d then scanL r (want + (d.toNat - 48)) seen (n + 1) else none

abbrev At : Type := List (Option Nat)
abbrev KR : Type := Option (List Nat × List UInt8 × List Nd × At)

/-- The nodes of so many terms: their addresses, the rest of the code, the new nodes, where the variables lie. -/
def kids : Nat → Nat → List UInt8 → Nat → At → KR
  | _, 0, code, _, at' => some ([], code, [], at')
  | 0, _ + 1, _, _, _ => none
  | _ + 1, _ + 1, [], _, _ => none
  | f + 1, w + 1, c :: r, len, at' =>
    if isVarC c then
      match at'.getD (c.toNat - 65) none with
      | some a => (kids f w r len at').map fun x => (a :: x.1, x.2)
      | none => (kids f w r (len + 1) (at'.set (c.toNat - 65) (some len))).map fun x => (len :: x.1, x.2.1, .v none :: x.2.2.1, x.2.2.2)
    else match r with
      | [] => none
      | d :: r' =>
        if isFun c && okD d then
          (kids f (d.toNat - 48) r' (len + 1) at').bind fun x => (kids f w x.2.1 (len + 1 + x.2.2.1.length) x.2.2.2).map fun y => (len :: y.1, y.2.1, .s c d x.1 :: (x.2.2.1 ++ y.2.2.1), y.2.2.2)
        else none

theorem kids_rest : ∀ (f w : Nat) (code : List UInt8) (len : Nat) (a : At) (x : List Nat × List UInt8 × List Nd × At), kids f w code len a = some x → x.2.1.length ≤ code.length ∧ x.1.length = w := by
  intro f
  induction f with
  | zero =>
    intro w code len a x h
    cases w with
    | zero => simp only [kids, Option.some.injEq] at h; subst h; simp
    | succ w => simp [kids] at h
  | succ f ih =>
    intro w code len a x h
    cases w with
    | zero => simp only [kids, Option.some.injEq] at h; subst h; simp
    | succ w =>
      cases code with
      | nil => simp [kids] at h
      | cons c r =>
        simp only [kids] at h
        split at h
        · split at h
          · simp only [Option.map_eq_some_iff] at h
            obtain ⟨y, hy, rfl⟩ := h
            have := ih _ _ _ _ _ hy
            simp; omega
          · simp only [Option.map_eq_some_iff] at h
            obtain ⟨y, hy, rfl⟩ := h
            have := ih _ _ _ _ _ hy
            simp; omega
        · cases r with
          | nil => simp at h
          | cons d r' =>
            simp only at h
            split at h
            · simp only [Option.bind_eq_some_iff, Option.map_eq_some_iff] at h
              obtain ⟨y, hy, z, hz, rfl⟩ := h
              have h1 := ih _ _ _ _ _ hy
              have h2 := ih _ _ _ _ _ hz
              simp; omega
            · simp at h

theorem kids_fuel : ∀ (n f g w : Nat) (code : List UInt8) (len : Nat) (a : At), code.length ≤ n → n < f → n < g → kids f w code len a = kids g w code len a := by
  intro n
  induction n with
  | zero =>
    intro f g w code len a hn hf hg
    obtain ⟨f', rfl⟩ : ∃ f', f = f' + 1 := ⟨f - 1, by omega⟩
    obtain ⟨g', rfl⟩ : ∃ g', g = g' + 1 := ⟨g - 1, by omega⟩
    cases code with
    | nil => cases w <;> rfl
    | cons c r => simp at hn
  | succ n ih =>
    intro f g w code len a hn hf hg
    obtain ⟨f', rfl⟩ : ∃ f', f = f' + 1 := ⟨f - 1, by omega⟩
    obtain ⟨g', rfl⟩ : ∃ g', g = g' + 1 := ⟨g - 1, by omega⟩
    cases w with
    | zero => rfl
    | succ w =>
      cases code with
      | nil => rfl
      | cons c r =>
        have hr : r.length ≤ n := by simp at hn; omega
        simp only [kids]
        split
        · split
          · rw [ih f' g' w r len a hr (by omega) (by omega)]
          · rw [ih f' g' w r _ _ hr (by omega) (by omega)]
        · cases r with
          | nil => rfl
          | cons d r' =>
            simp only
            split
            · have hr' : r'.length ≤ n := by simp at hr; omega
              rw [ih f' g' _ r' (len + 1) a hr' (by omega) (by omega)]
              cases hk : kids g' (d.toNat - 48) r' (len + 1) a with
              | none => rfl
              | some x =>
                have h1 := kids_rest _ _ _ _ _ _ hk
                simp only [Option.bind_some]
                rw [ih f' g' w x.2.1 _ _ (by omega) (by omega) (by omega)]
            · rfl

def K (w : Nat) (code : List UInt8) (len : Nat) (a : At) : KR := kids (code.length + 1) w code len a
theorem K_zero (code : List UInt8) (len : Nat) (a : At) : K 0 code len a = some ([], code, [], a) := rfl
theorem K_nil (w : Nat) (len : Nat) (a : At) : K (w + 1) [] len a = none := rfl
theorem K_known {w : Nat} {c : UInt8} {r : List UInt8} {len : Nat} {a : At} {x : Nat} (hc : isVarC c = true) (hx : a.getD (c.toNat - 65) none = some x) : K (w + 1) (c :: r) len a = (K w r len a).map fun y => (x :: y.1, y.2) := by
  unfold K
  rw [List.length_cons]
  conv => lhs; unfold kids
  simp only [hc, if_true, hx]
theorem K_new {w : Nat} {c : UInt8} {r : List UInt8} {len : Nat} {a : At} (hc : isVarC c = true) (hx : a.getD (c.toNat - 65) none = none) :
    K (w + 1) (c :: r) len a = (K w r (len + 1) (a.set (c.toNat - 65) (some len))).map fun x => (len :: x.1, x.2.1, .v none :: x.2.2.1, x.2.2.2) := by
  unfold K
  rw [List.length_cons]
  conv => lhs; unfold kids
  simp only [hc, if_true, hx]
theorem K_one {w : Nat} {c : UInt8} {len : Nat} {a : At} (hc : isVarC c = false) : K (w + 1) [c] len a = none := by
  unfold K
  rw [List.length_cons]
  unfold kids
  simp [hc]
theorem K_bad {w : Nat} {c d : UInt8} {r : List UInt8} {len : Nat} {a : At} (hc : isVarC c = false) (hf : (isFun c && okD d) = false) : K (w + 1) (c :: d :: r) len a = none := by
  unfold K
  rw [List.length_cons]
  unfold kids
  simp [hc, hf]
theorem K_fun {w : Nat} {c d : UInt8} {r : List UInt8} {len : Nat} {a : At} (hc : isVarC c = false) (hf : (isFun c && okD d) = true) :
    K (w + 1) (c :: d :: r) len a = (K (d.toNat - 48) r (len + 1) a).bind fun x => (K w x.2.1 (len + 1 + x.2.2.1.length) x.2.2.2).map fun y => (len :: y.1, y.2.1, .s c d x.1 :: (x.2.2.1 ++ y.2.2.1), y.2.2.2) := by
  unfold K
  rw [List.length_cons, List.length_cons]
  conv => lhs; unfold kids
  simp only [hc, Bool.false_eq_true, if_false, hf, if_true]
  rw [kids_fuel r.length (r.length + 1 + 1) (r.length + 1) _ r _ _ (Nat.le_refl _) (by omega) (by omega)]
  cases hk : kids (r.length + 1) (d.toNat - 48) r (len + 1) a with
  | none => rfl
  | some x =>
    have h1 := kids_rest _ _ _ _ _ _ hk
    simp only [Option.bind_some]
    rw [kids_fuel x.2.1.length (r.length + 1 + 1) (x.2.1.length + 1) w x.2.1 _ _ (Nat.le_refl _) (by omega) (by omega)]
theorem K_rest {w : Nat} {code : List UInt8} {len : Nat} {a : At} {x : List Nat × List UInt8 × List Nd × At} (h : K w code len a = some x) : x.2.1.length ≤ code.length ∧ x.1.length = w := kids_rest _ _ _ _ _ _ h

/-- So many terms, then so many. -/
def K2 (x : KR) (n len : Nat) : KR := x.bind fun x => (K n x.2.1 (len + x.2.2.1.length) x.2.2.2).map fun y => (x.1 ++ y.1, y.2.1, x.2.2.1 ++ y.2.2.1, y.2.2.2)

theorem K_add : ∀ (l m n : Nat) (code : List UInt8) (len : Nat) (a : At), code.length ≤ l → K (m + n) code len a = K2 (K m code len a) n len := by
  intro l
  induction l with
  | zero =>
    intro m n code len a hl
    have hc : code = [] := List.eq_nil_of_length_eq_zero (by omega)
    subst hc
    cases m with
    | zero =>
      rw [Nat.zero_add, K_zero]
      simp only [K2, Option.bind_some, List.length_nil, Nat.add_zero, List.nil_append]
      cases K n [] len a with
      | none => rfl
      | some y => rfl
    | succ m => rw [show m + 1 + n = (m + n) + 1 by omega, K_nil, K_nil]; rfl
  | succ l ih =>
    intro m n code len a hl
    cases m with
    | zero =>
      rw [Nat.zero_add, K_zero]
      simp only [K2, Option.bind_some, List.length_nil, Nat.add_zero, List.nil_append]
      cases K n code len a with
      | none => rfl
      | some y => rfl
    | succ m =>
      rw [show m + 1 + n = (m + n) + 1 by omega]
      cases code with
      | nil => rw [K_nil, K_nil]; rfl
      | cons c r =>
        have hr : r.length ≤ l := by simp at hl; omega
        by_cases hc : isVarC c = true
        · cases hx : a.getD (c.toNat - 65) none with
          | some x =>
            rw [K_known hc hx, K_known hc hx, ih m n r len a hr]
            simp only [K2]
            cases K m r len a with
            | none => rfl
            | some y =>
              simp only [Option.bind_some, Option.map_some]
              cases K n y.2.1 (len + y.2.2.1.length) y.2.2.2 with
              | none => rfl
              | some z => rfl
          | none =>
            rw [K_new hc hx, K_new hc hx, ih m n r _ _ hr]
            simp only [K2]
            cases K m r (len + 1) (a.set (c.toNat - 65) (some len)) with
            | none => rfl
            | some y =>
              simp only [Option.bind_some, Option.map_some, List.length_cons]
              rw [show len + (y.2.2.1.length + 1) = len + 1 + y.2.2.1.length by omega]
              cases K n y.2.1 (len + 1 + y.2.2.1.length) y.2.2.2 with
              | none => rfl
              | some z => rfl
        · have hc' : isVarC c = false := by simpa using hc
          cases r with
          | nil => rw [K_one hc', K_one hc']; rfl
          | cons d r' =>
            by_cases hf : (isFun c && okD d) = true
            · rw [K_fun hc' hf, K_fun hc' hf]
              cases hk : K (d.toNat - 48) r' (len + 1) a with
              | none => rfl
              | some x =>
                have h1 := (K_rest hk).1
                simp only [Option.bind_some]
                rw [ih m n x.2.1 _ _ (by simp at hr; omega)]
                simp only [K2]
                cases K m x.2.1 (len + 1 + x.2.2.1.length) x.2.2.2 with
                | none => rfl
                | some y =>
                  simp only [Option.bind_some, Option.map_some, List.length_cons, List.length_append]
                  rw [show len + 1 + x.2.2.1.length + y.2.2.1.length = len + (x.2.2.1.length + y.2.2.1.length + 1) by omega]
                  cases K n y.2.1 (len + (x.2.2.1.length + y.2.2.1.length + 1)) y.2.2.2 with
                  | none => rfl
                  | some z => simp
            · rw [K_bad hc' (by simpa using hf), K_bad hc' (by simpa using hf)]; rfl

/-- What the letters met say of where they lie. -/
def Seen (seen : List Bool) (a : At) : Prop := seen.length = 6 ∧ a.length = 6 ∧ ∀ k : Nat, k < 6 → seen.getD k false = (a.getD k none).isSome
theorem varC_ix {c : UInt8} (h : isVarC c = true) : c.toNat - 65 < 6 := by
  have : 65 ≤ c.toNat ∧ c.toNat ≤ 70 := by simpa [isVarC] using h
  omega
theorem Seen.set {seen : List Bool} {a : At} (h : Seen seen a) {k x : Nat} (hk : k < 6) : Seen (seen.set k true) (a.set k (some x)) := by
  refine ⟨by simp [h.1], by simp [h.2.1], fun j hj => ?_⟩
  have h1 := h.1
  have h2 := h.2.1
  by_cases e : k = j
  · subst e
    simp [List.getD, hk, h1, h2]
  · have := h.2.2 j hj
    simpa [List.getD, e] using this
theorem Seen.again {seen : List Bool} {a : At} (h : Seen seen a) {k : Nat} (hk : k < 6) (hs : (a.getD k none).isSome = true) : Seen (seen.set k true) a := by
  refine ⟨by simp [h.1], h.2.1, fun j hj => ?_⟩
  have h1 := h.1
  by_cases e : k = j
  · subst e
    rw [hs]
    simp [List.getD, hk, h1]
  · have := h.2.2 j hj
    simpa [List.getD, e] using this

theorem scan_kids : ∀ (l : Nat) (code : List UInt8) (want : Nat) (seen : List Bool) (n : Nat) (len : Nat) (a : At) (N : Nat), code.length ≤ l → Seen seen a → scanL code want seen n = some N →
    ∃ ks news at', K want code len a = some (ks, [], news, at') ∧ N = n + news.length := by
  intro l
  induction l with
  | zero =>
    intro code want seen n len a N hl hs h
    have hc : code = [] := List.eq_nil_of_length_eq_zero (by omega)
    subst hc
    cases want with
    | zero => simp [scanL] at h; exact ⟨[], [], a, rfl, by simp [h]⟩
    | succ w => simp [scanL] at h
  | succ l ih =>
    intro code want seen n len a N hl hs h
    cases want with
    | zero =>
      cases code with
      | nil => simp [scanL] at h; exact ⟨[], [], a, rfl, by simp [h]⟩
      | cons c r => simp [scanL] at h
    | succ w =>
      have hvar : ∀ (c : UInt8) (r : List UInt8), r.length ≤ l → isVarC c = true → scanL r w (seen.set (c.toNat - 65) true) (if seen.getD (c.toNat - 65) false then n else n + 1) = some N →
          ∃ ks news at', K (w + 1) (c :: r) len a = some (ks, [], news, at') ∧ N = n + news.length := by
        intro c r hr hc h'
        have hk := varC_ix hc
        have hsk := hs.2.2 _ hk
        cases hx : a.getD (c.toNat - 65) none with
        | some x =>
          rw [hx] at hsk
          rw [hsk] at h'
          obtain ⟨ks, news, at', h1, h2⟩ := ih r w _ n len a N hr (hs.again hk (by rw [hx]; rfl)) (by simpa using h')
          exact ⟨x :: ks, news, at', by rw [K_known hc hx, h1]; rfl, h2⟩
        | none =>
          rw [hx] at hsk
          rw [hsk] at h'
          obtain ⟨ks, news, at', h1, h2⟩ := ih r w _ (n + 1) (len + 1) (a.set (c.toNat - 65) (some len)) N hr (hs.set hk) (by simpa using h')
          exact ⟨len :: ks, .v none :: news, at', by rw [K_new hc hx, h1]; rfl, by simp; omega⟩
      match code, hl, h with
      | [], _, h => simp [scanL] at h
      | [c], hl, h =>
        simp only [scanL] at h
        split at h
        · rename_i hc; exact hvar c [] (by simp) hc h
        · cases h
      | c :: d :: r, hl, h =>
        simp only [scanL] at h
        split at h
        · rename_i hc; exact hvar c (d :: r) (by simp at hl ⊢; omega) hc h
        · rename_i hc
          have hc' : isVarC c = false := by simpa using hc
          split at h
          · rename_i hf
            obtain ⟨ks, news, at', h1, h2⟩ := ih r (w + (d.toNat - 48)) seen (n + 1) (len + 1) a N (by simp at hl; omega) hs h
            rw [Nat.add_comm, K_add r.length _ _ r _ _ (Nat.le_refl _)] at h1
            rw [K_fun hc' hf]
            cases hk : K (d.toNat - 48) r (len + 1) a with
            | none => rw [hk] at h1; cases h1
            | some x =>
              rw [hk] at h1
              simp only [K2, Option.bind_some] at h1 ⊢
              cases hk2 : K w x.2.1 (len + 1 + x.2.2.1.length) x.2.2.2 with
              | none => rw [hk2] at h1; cases h1
              | some y =>
                rw [hk2] at h1
                simp only [Option.map_some, Option.some.injEq, Prod.mk.injEq] at h1 ⊢
                obtain ⟨e1, e2, e3, e4⟩ := h1
                refine ⟨len :: y.1, .s c d x.1 :: (x.2.2.1 ++ y.2.2.1), y.2.2.2, ⟨rfl, e2, rfl, rfl⟩, ?_⟩
                rw [e3]; simp; omega
          · cases h
end Go.Proofs.Qxb6500301a
