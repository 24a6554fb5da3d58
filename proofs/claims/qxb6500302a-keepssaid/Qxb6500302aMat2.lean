import Derived.Test.Qxb6500302aMat1
namespace Go.Proofs.Qxb6500302a
set_option linter.unusedSimpArgs false
set_option linter.unusedVariables false

theorem codeOf_call {t : Tm} (h : t.kind = 2) : codeOf t = t.letter :: digit t.kids.length :: (t.kids.map codeOf).flatten := by
  obtain ⟨k, a, n, ts⟩ := t
  simp only at h
  rw [codeOf_eq, if_neg (by omega), if_neg (by omega)]; rfl

theorem code_match {s : List UInt8} {t : Tm} (h : parseOf false s = some t) :
    4 ≤ (codeOf t).length ∧ (codeOf t)[3]? = some (digit (headOf t).kids.length) ∧ (headOf t).kids.length ≤ 3 ∧ ((codeOf t).drop 2).take 2 = keyList (predOf t) ∧
    (((headOf t).kids.length = 0 ∧ keyOf t = none) ∨ ((headOf t).kids.length ≠ 0 ∧ ∃ x, (codeOf t)[4]? = some x ∧ ((x.toNat < 97 ∧ keyOf t = none) ∨ (97 ≤ x.toNat ∧ ∃ k, keyOf t = some k ∧ ((codeOf t).drop 4).take 2 = keyList k ∧ 6 ≤ (codeOf t).length)))) := by
  obtain ⟨hd, ts, ht, hk⟩ := parse_shape h
  obtain ⟨ts', ht', _, _, hg⟩ := parse_good h
  have hgood : Good 6 (s.length + 2) hd := by
    have e : ts' = hd :: ts := by
      have e := ht'.symm.trans ht
      have := congrArg Tm.kids e
      exact this
    exact hg hd (by rw [e]; simp)
  have hho : headOf t = hd := by rw [ht]; rfl
  have hko : keyOf t = ownKeyOf hd := by rw [ht]; rfl
  have hpr : predOf t = (hd.letter, digit hd.kids.length) := by rw [ht]; rfl
  have hc : codeOf t = 58 :: digit (ts.length + 1) :: hd.letter :: digit hd.kids.length :: ((hd.kids.map codeOf).flatten ++ (ts.map codeOf).flatten) := by
    have h1 : t.kind = 2 := by rw [ht]; rfl
    rw [codeOf_call h1, ht]
    show (58 : UInt8) :: digit (hd :: ts).length :: ((hd :: ts).map codeOf).flatten = _
    rw [List.map_cons, List.flatten_cons, codeOf_call hk]
    simp
  have hk3 : hd.kids.length ≤ 3 := by
    rcases hgood with ⟨h1, _⟩ | h1 | ⟨_, _, h3, _⟩
    · omega
    · rw [h1] at hk; simp [tCut] at hk
    · exact h3
  refine ⟨by rw [hc]; simp, by rw [hc, hho]; rfl, by rw [hho]; exact hk3, by rw [hc, hpr]; rfl, ?_⟩
  rw [hho, hko]
  cases hkids : hd.kids with
  | nil => left; exact ⟨rfl, by unfold ownKeyOf; rw [hkids]⟩
  | cons u us =>
    right
    refine ⟨by simp, ?_⟩
    have hu : Good 6 (s.length + 1) u := by
      rcases hgood with ⟨h1, _⟩ | h1 | ⟨_, _, _, h4⟩
      · omega
      · rw [h1] at hk; simp [tCut] at hk
      · exact h4 u (by rw [hkids]; simp)
    rw [hkids] at hc
    simp only [List.map_cons, List.flatten_cons] at hc
    have hok : ownKeyOf hd = if u.kind = 2 then some (u.letter, digit u.kids.length) else none := by unfold ownKeyOf; rw [hkids]
    rcases hu with ⟨h1, h2, h3⟩ | h1 | ⟨h1, h2, h3, h4⟩
    · have hcu : codeOf u = [65 + u.num.toUInt8] := by obtain ⟨k, a, n, us'⟩ := u; simp only at h1; rw [codeOf_eq, if_pos h1]
      rw [hcu] at hc
      refine ⟨65 + u.num.toUInt8, by rw [hc]; rfl, .inl ⟨?_, by rw [hok, if_neg (by omega)]⟩⟩
      have := var_toNat (n := u.num) (by omega)
      omega
    · have hcu : codeOf u = [33, 48] := by rw [h1]; unfold tCut; rw [codeOf_eq]; simp
      rw [hcu] at hc
      refine ⟨33, by rw [hc]; rfl, .inl ⟨by decide, by rw [hok, if_neg (by rw [h1]; simp [tCut])]⟩⟩
    · have hcu := codeOf_call h1
      rw [hcu] at hc
      have hl : 97 ≤ u.letter.toNat := by have : 97 ≤ u.letter.toNat ∧ u.letter.toNat ≤ 122 := by simpa [isLow] using h2
                                          exact this.1
      exact ⟨u.letter, by rw [hc]; rfl, .inr ⟨hl, (u.letter, digit u.kids.length), by rw [hok, if_pos h1], by rw [hc]; rfl, by rw [hc]; simp⟩⟩
end Go.Proofs.Qxb6500302a
