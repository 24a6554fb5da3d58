import Derived.Test.Qxb6500302aMod3
namespace Go.Proofs.Qxb6500302a.M
open Go.RowKit
set_option linter.unusedSimpArgs false
set_option linter.unusedVariables false
attribute [local go_sem ↓] Go.wp_at_zero Go.wp_at_succ
attribute [-go_sem] Go.run_string_add_if Go.run_index_string Go.run_slice_string_if

/-- What stands where the arguments' loop comes round, unless the flag is up. -/
def ArgGood (n : Nat) (s vs : List UInt8) (p : Nat) (out : List UInt8) (nn p1 : Nat) (sep : UInt8) (vs1 : List UInt8) : Prop :=
  (nn = 0 ∧ sep = 40 ∧ out = [] ∧ p1 = p + 1 ∧ vs1 = vs) ∨
  (1 ≤ nn ∧ sep = 44 ∧ ∃ ts : List Tm, ts.length = nn ∧ out = (ts.map codeOf).flatten ∧ rArgs (rCall n) 3 (s.drop (p + 2)) vs = finA (rCall n) nn ts (s.drop p1) vs1)
def ArgBad (n : Nat) (s vs : List UInt8) (p : Nat) : Prop := ∀ ts r' v', rArgs (rCall n) 3 (s.drop (p + 2)) vs = some (ts, r', v') → 6 < v'.length

theorem ArgGood.step {n : Nat} {s vs : List UInt8} {p : Nat} {out : List UInt8} {nn p1 : Nat} {sep : UInt8} {vs1 : List UInt8} (h : ArgGood n s vs p out nn p1 sep vs1) (hsep : hd (s.drop p1) = sep) {t : Tm} {p2 : Nat} {vs2 : List UInt8}
    (ht : rTerm (rCall n) (s.drop (p1 + 1)) vs1 = some (t, s.drop p2, vs2)) : ArgGood n s vs p (out ++ codeOf t) (nn + 1) p2 44 vs2 := by
  rcases h with ⟨rfl, rfl, rfl, rfl, rfl⟩ | ⟨hn, rfl, ts, hts, ho, hr⟩
  · exact .inr ⟨by omega, rfl, [t], rfl, by simp, finA_first ht⟩
  · refine .inr ⟨by omega, rfl, ts ++ [t], by simp [hts], by rw [ho]; simp, ?_⟩
    rw [hr]
    rw [drop_next] at ht
    exact finA_next hn hsep ht
theorem ArgGood.fail {n : Nat} {s vs : List UInt8} {p : Nat} {out : List UInt8} {nn p1 : Nat} {sep : UInt8} {vs1 : List UInt8} (h : ArgGood n s vs p out nn p1 sep vs1) (hsep : hd (s.drop p1) = sep)
    (ht : ∀ t r' v', rTerm (rCall n) (s.drop (p1 + 1)) vs1 = some (t, r', v') → 6 < v'.length) : ArgBad n s vs p := by
  intro ts r' v' e
  rcases h with ⟨rfl, rfl, rfl, rfl, rfl⟩ | ⟨hn, rfl, ts0, hts, ho, hr⟩
  · cases hx : rTerm (rCall n) (s.drop (p + 1 + 1)) vs1 with
    | none => rw [finA_bad0 hx] at e; cases e
    | some x =>
      obtain ⟨t, s1, v1⟩ := x
      have h1 := ht t s1 v1 hx
      rw [finA_first hx] at e
      have := finA_many (rCall_tops n) e
      omega
  · rw [hr] at e
    cases hx : rTerm (rCall n) (s.drop (p1 + 1)) vs1 with
    | none =>
      rw [drop_next] at hx
      rw [finA_bad hsep hx] at e; cases e
    | some x =>
      obtain ⟨t, s1, v1⟩ := x
      have h1 := ht t s1 v1 hx
      rw [drop_next] at hx
      rw [finA_next hn hsep hx] at e
      have := finA_many (rCall_tops n) e
      omega
theorem ArgGood.none {n : Nat} {s vs : List UInt8} {p : Nat} {out : List UInt8} {nn p1 : Nat} {sep : UInt8} {vs1 : List UInt8} (h : ArgGood n s vs p out nn p1 sep vs1) (h40 : hd (s.drop (p + 1)) = 40) (hsep : ¬ hd (s.drop p1) = sep)
    (h41 : ¬ hd (s.drop p1) = 41) : ArgBad n s vs p := by
  intro ts r' v' e
  rcases h with ⟨rfl, rfl, rfl, rfl, rfl⟩ | ⟨hn, rfl, ts0, hts, ho, hr⟩
  · exact absurd h40 hsep
  · rw [hr, finA_none hsep h41] at e; cases e
theorem ArgGood.many {n : Nat} {s vs : List UInt8} {p : Nat} {out : List UInt8} {nn p1 : Nat} {sep : UInt8} {vs1 : List UInt8} (h : ArgGood n s vs p out nn p1 sep vs1) (h41 : hd (s.drop p1) = 41) (h3 : 3 < nn) : ArgBad n s vs p := by
  intro ts r' v' e
  rcases h with ⟨rfl, rfl, rfl, rfl, rfl⟩ | ⟨hn, rfl, ts0, hts, ho, hr⟩
  · omega
  · rw [hr, finA_end h41, if_neg (by omega)] at e; cases e
theorem ArgGood.done {n : Nat} {s vs : List UInt8} {p : Nat} {out : List UInt8} {nn p1 : Nat} {sep : UInt8} {vs1 : List UInt8} (h : ArgGood n s vs p out nn p1 sep vs1) (h40 : hd (s.drop (p + 1)) = 40) (hsep : ¬ hd (s.drop p1) = sep)
    (h41 : hd (s.drop p1) = 41) (h3 : nn ≤ 3) : ∃ ts : List Tm, ts.length = nn ∧ out = (ts.map codeOf).flatten ∧ rArgs (rCall n) 3 (s.drop (p + 2)) vs = some (ts, s.drop (p1 + 1), vs1) := by
  rcases h with ⟨rfl, rfl, rfl, rfl, rfl⟩ | ⟨hn, rfl, ts0, hts, ho, hr⟩
  · exact absurd h40 hsep
  · exact ⟨ts0, hts, ho, by rw [hr, finA_end h41, if_pos h3, drop_next]⟩

/-- The world where the loop comes round. -/
def ArgRel (n b : Nat) (s vs : List UInt8) (p : Nat) (w : World) (gk : Nat) (v8 v9 v10 : Value) (wr : World) : Prop :=
  ∃ (out : List UInt8) (nn p1 : Nat) (sep : UInt8) (vs1 : List UInt8) (bad1 : Bool), v8 = .string (S out) ∧ v9 = .int .i64 (nn : Int) ∧ v10 = .int .u8 (sep.toNat : Int) ∧ RdAt wr b s p1 vs1 bad1 ∧ Fr (fun k => k = b) w wr ∧
    ((bad1 = false ∧ gk = (s.drop p1).length + 1 ∧ p1 ≤ s.length ∧ vs1.length ≤ 6 ∧ out.length + 2 * (s.drop p1).length ≤ 2 * (s.drop (p + 1)).length ∧ nn + (s.drop p1).length ≤ 41 ∧ (sep = 40 ∨ sep = 44) ∧ Hid (ArgGood n s vs p out nn p1 sep vs1))
     ∨ (bad1 = true ∧ gk = 0 ∧ p1 ≤ s.length + n ∧ vs1.length ≤ 7 ∧ out.length ≤ 2 * (s.drop p).length ∧ nn ≤ 41 ∧ Hid (ArgBad n s vs p)))

theorem toNat_eqI (a b : UInt8) : (((a.toNat : Int) == (b.toNat : Int)) = decide (a = b)) := by
  by_cases h : a = b
  · subst h; simp
  · rw [decide_eq_false h, beq_eq_false_iff_ne]
    intro e
    exact h (UInt8.toNat.inj (by omega))

section
variable {w : World} {b p n : Nat} {s vs : List UInt8}

set_option maxRecDepth 40000 in
set_option maxHeartbeats 4000000 in
theorem term_args (HI : Hid (TermSaid n)) (hn : n ≤ 100) (h : RdAt w b s p vs false) (hs : s.length ≤ 40) (hv : vs.length ≤ 6) (hlen : (s.drop p).length < n + 1) {c : UInt8} (hc : hd (s.drop p) = c) (hlow : isLow c = true) (h40 : hd (s.drop (p + 1)) = 40) {top : Bool} :
    Calls Try.prog 67 #[.pointer (some ⟨b, 0, none⟩), .bool top] w (TermPost (n + 1) b s (s.drop p) (rCall (n + 1) (s.drop p) vs) w) := by
  have hp : p < s.length := drop_lt hc (isLow_ne hlow)
  have hp1 : p + 1 < s.length := drop_lt h40 (by decide)
  obtain ⟨g1, g2⟩ := low_facts hlow
  have HR : Hid (rCall (n + 1) (s.drop p) vs = match rArgs (rCall n) 3 (s.drop (p + 2)) vs with
      | none => none
      | some (ts, s2, vs2) => some (tCall c ts, s2, vs2)) := by
    have := rCall_args (r := s.drop p) (vs := vs) (n := n) (by rw [hc]; exact hlow) (by rw [← drop_next]; exact h40)
    rw [hc, ← drop_next, ← drop_next] at this
    exact this
  have hD : (s.drop p).length = (s.drop (p + 1)).length + 1 := by simp; omega
  have HP : Hid (Calls Try.prog 68 #[.pointer (some ⟨b, 0, none⟩)] w fun e w'' => e = .returned (.int .u8 (c.toNat : Int)) ∧ Fr No w w'') := by
    have := peek_any h (by omega) hs
    rw [hc] at this
    exact this
  have HP2 : Hid (∀ w' bad vs, RdAt w' b s (p + 1) vs bad → Calls Try.prog 68 #[.pointer (some ⟨b, 0, none⟩)] w' fun e w'' => e = .returned (.int .u8 40) ∧ Fr No w' w'') := by
    intro w' bad vs h'
    have := peek_any h' (by omega) hs
    rw [h40] at this
    exact this
  have H40 : Hid (hd (s.drop (p + 1)) = 40) := h40
  have hsl := fun w => slice_one (l := s) (i := p) (c := c) (by rw [at_drop s p hp, hc]) w
  have d1 : decide ((65 : Int) ≤ (c.toNat : Int)) = true := decide_eq_true (by omega)
  have d1' : decide (65 ≤ c.toNat) = true := decide_eq_true (by omega)
  have d2 : decide ((c.toNat : Int) ≤ 90) = false := decide_eq_false (by omega)
  have d2' : decide (c.toNat ≤ 90) = false := decide_eq_false (by omega)
  have d3 : decide ((c.toNat : Int) < 97) = false := decide_eq_false (by omega)
  have d3' : decide (c.toNat < 97) = false := decide_eq_false (by omega)
  have d4 : decide ((122 : Int) < (c.toNat : Int)) = false := decide_eq_false (by omega)
  have d4' : decide (122 < c.toNat) = false := decide_eq_false (by omega)
  -- the ends
  have FB : Hid (∀ (out : List UInt8) (p' : Nat) (vs' : List UInt8) (w' : World), RdAt w' b s p' vs' true → Fr (fun k => k = b) w w' → out.length ≤ 2 * (s.drop p).length + 2 → p' ≤ s.length + (n + 1) → vs'.length ≤ 7 → ArgBad n s vs p →
      TermPost (n + 1) b s (s.drop p) (rCall (n + 1) (s.drop p) vs) w (.returned (.string (S out))) w') := by
    intro out p' vs' w' h' F' ho hp' hv' hb
    refine ⟨out, p', vs', true, rfl, h', F', ho, .inr ⟨rfl, hp', hv', ?_⟩⟩
    intro t r' v' e
    rw [HR.out] at e
    cases hr : rArgs (rCall n) 3 (s.drop (p + 2)) vs with
    | none => rw [hr] at e; cases e
    | some x =>
      obtain ⟨ts, s2, v2⟩ := x
      rw [hr] at e
      simp only [Option.some.injEq, Prod.mk.injEq] at e
      rw [← e.2.2]
      exact hb _ _ _ hr
  have HH : Hid (RdAt w b s p vs false) := h
  clear hc h40 h
  go_enter Try.func67, Try.ntmps67
  go_wp2_with fail
  refine HP.out.mono ?_
  rintro e w1 ⟨rfl, F1⟩
  have h1 := HH.out.keep F1 (fun h => h)
  have c0 := h1.c0
  have c1 := h1.c1
  have z1 := h1.z1
  go_wp2_with fail
  go_quiet (fail)
  generalize hW : World.drewN w1 _ = W2
  have F2 : Fr No w1 W2 := hW ▸ (Fr.refl No w1).drewN _
  have h2 := h1.keep F2 (fun h => h)
  have c20 := h2.c0
  have c21 := h2.c1
  have z21 := h2.z1
  have F12 := F1.trans F2 (fun _ _ h => h)
  clear hW
  go_wp2_with fail
  refine (HP2.out _ _ _ h2.pos).mono ?_
  rintro e w3 ⟨rfl, F3⟩
  have h3 := h2.pos.keep F3 (fun h => h)
  have F03 : Fr (fun k => k = b) w w3 := (setB (noB F12) _ _).trans F3 (fun _ _ h => h.elim)
  clear F3 F12 c20 c21 z21 h2 F2 c0 c1 z1 h1 F1
  go_wp2_with fail
  go_loopg [8, 9, 10] ((s.drop (p + 1)).length + 1) (ArgRel n b s vs p w)
  case atStart => exact ⟨[], 0, p + 1, 40, vs, false, rfl, rfl, rfl, h3, F03, .inl ⟨rfl, rfl, by omega, hv, by simp, by simp; omega, .inl rfl, .inl ⟨rfl, rfl, rfl, rfl, rfl⟩⟩⟩
  case round =>
    clear h3 F03
    obtain ⟨out, nn, p1, sep, vs1, bad1, rfl, rfl, rfl, h1, F1, ⟨rfl, hgk, hp1', hv1, hol, hnl, hsp, HG⟩ | ⟨rfl, hgk, hp1', hv1, hol, hnl, HB⟩⟩ := hrel
    · by_cases hsep : hd (s.drop p1) = sep
      · have hp1l : p1 < s.length := drop_lt hsep (by rcases hsp with rfl | rfl <;> decide)
        have hdd : (s.drop p1).length = (s.drop (p1 + 1)).length + 1 := by simp; omega
        have q1 : (((hd (s.drop p1)).toNat : Int) == (sep.toNat : Int)) = true := by rw [hsep]; simp
        have HS : Hid (hd (s.drop p1) = sep) := hsep
        clear hsep
        have c3 := h1.c3
        go_wp2_with fail
        refine (peek_any h1 (by omega) hs).mono ?_
        rintro e w2 ⟨rfl, F2⟩
        have h2 := h1.keep F2 (fun h => h)
        have c21 := h2.c1
        have z21 := h2.z1
        go_wp2_with fail
        refine (HI.out _ b s (p1 + 1) vs1 false h2.pos hs (by omega) hv1 (by omega)).mono ?_
        rintro e w3 ⟨out2, p2, vs2, bad2, rfl, h3, F3, hl2, H2⟩
        have F13 : Fr (fun k => k = b) w w3 := ((F1.trans F2 (fun _ _ h => h.elim)).setCell (fun _ => rfl) _).trans F3 (fun _ _ h => h)
        have a1 := fun w => add_S out out2 (by omega) w
        rcases H2 with ⟨rfl, hp2, hv2, hl3, t, ht, ho2⟩ | ⟨rfl, hp2, hv2, hb2⟩
        · have HN : Hid (ArgGood n s vs p (out ++ out2) (nn + 1) p2 44 vs2) := by
            rw [ho2]
            exact HG.out.step HS.out (by simpa using ht)
          clear ht ho2
          go_wp2_with fail
          go_roundg ((s.drop p2).length + 1)
          case measure => omega
          case rel => exact ⟨out ++ out2, nn + 1, p2, 44, vs2, false, rfl, by go_num, rfl, h3, F13, .inl ⟨rfl, rfl, hp2, hv2, by rw [List.length_append]; omega, by omega, .inr rfl, HN.out⟩⟩
        · have HN : Hid (ArgBad n s vs p) := HG.out.fail HS.out (by simpa using hb2)
          clear hb2
          go_wp2_with fail
          go_roundg 0
          case measure => omega
          case rel => exact ⟨out ++ out2, nn + 1, p2, 44, vs2, true, rfl, by go_num, rfl, h3, F13, .inr ⟨rfl, rfl, hp2, hv2, by rw [List.length_append]; omega, by omega, HN.out⟩⟩
      · have q1 : (((hd (s.drop p1)).toNat : Int) == (sep.toNat : Int)) = false := by rw [toNat_eqI, decide_eq_false hsep]
        have HS : Hid (¬ hd (s.drop p1) = sep) := hsep
        clear hsep
        have c3 := h1.c3
        by_cases h41 : hd (s.drop p1) = 41
        · have hp1l : p1 < s.length := drop_lt h41 (by decide)
          have hdd : (s.drop p1).length = (s.drop (p1 + 1)).length + 1 := by simp; omega
          have r1 : (((hd (s.drop p1)).toNat : Int) == 41) = true := by rw [h41]; rfl
          have r1' : (((hd (s.drop p1)).toNat : Int) != 41) = false := by rw [h41]; rfl
          have H41 : Hid (hd (s.drop p1) = 41) := h41
          clear h41
          by_cases hn3 : nn ≤ 3
          · have e3 : decide ((3 : Int) < (nn : Int)) = false := decide_eq_false (by omega)
            have e3' : decide (3 < nn) = false := decide_eq_false (by omega)
            obtain ⟨ts, hts, hout, hra⟩ := HG.out.done H40.out HS.out H41.out hn3
            have HO : Hid (c :: digit nn :: out = codeOf (tCall c ts)) := by show _ = _; rw [codeOf_tCall, hts, hout]
            have HRR : Hid (rCall (n + 1) (s.drop p) vs = some (tCall c ts, s.drop (p1 + 1), vs1)) := by show _ = _; rw [HR.out, hra]
            clear hts hout hra
            have dg := fun w => dig_slice (k := nn) (by omega) w
            have a1 := fun w => add_S [c] [digit nn] (by simp) w
            have a2 := fun w => add_S [c, digit nn] out (by simp; omega) w
            go_wp2_with fail
            refine (peek_any h1 (by omega) hs).mono ?_
            rintro e w2 ⟨rfl, F2⟩
            have h2 := h1.keep F2 (fun h => h)
            go_wp2_with fail
            refine (peek_any h2 (by omega) hs).mono ?_
            rintro e w3 ⟨rfl, F3⟩
            have h3 := h2.keep F3 (fun h => h)
            have c31 := h3.c1
            have z31 := h3.z1
            go_wp2_with fail
            go_ret
            exact ⟨c :: digit nn :: out, p1 + 1, vs1, false, rfl, h3.pos, ((F1.trans F2 (fun _ _ h => h.elim)).trans F3 (fun _ _ h => h.elim)).setCell (fun _ => rfl) _, by simp only [List.length_cons]; omega, .inl ⟨rfl, by omega, hv1, by simp only [List.length_cons]; omega, tCall c ts, HRR.out, HO.out⟩⟩
          · have e3 : decide ((3 : Int) < (nn : Int)) = true := decide_eq_true (by omega)
            have e3' : decide (3 < nn) = true := decide_eq_true (by omega)
            have HN : Hid (ArgBad n s vs p) := HG.out.many H41.out (by omega)
            go_wp2_with fail
            refine (peek_any h1 (by omega) hs).mono ?_
            rintro e w2 ⟨rfl, F2⟩
            have h2 := h1.keep F2 (fun h => h)
            go_wp2_with fail
            refine (peek_any h2 (by omega) hs).mono ?_
            rintro e w3 ⟨rfl, F3⟩
            have h3 := h2.keep F3 (fun h => h)
            have c31 := h3.c1
            have z31 := h3.z1
            have c33 := h3.c3
            have z33 := h3.z3
            go_wp2_with fail
            go_ret
            exact FB.out [] (p1 + 1) vs1 _ h3.pos.fail ((((F1.trans F2 (fun _ _ h => h.elim)).trans F3 (fun _ _ h => h.elim)).setCell (fun _ => rfl) _).setCell (fun _ => rfl) _) (by simp) (by omega) (by omega) HN.out
        · have r1 : (((hd (s.drop p1)).toNat : Int) == 41) = false := by have := toNat_eqI (hd (s.drop p1)) 41; rw [decide_eq_false h41] at this; exact this
          have r1' : (((hd (s.drop p1)).toNat : Int) != 41) = true := by show (!_) = true; rw [r1]; rfl
          have HN : Hid (ArgBad n s vs p) := HG.out.none H40.out HS.out h41
          clear h41
          by_cases hn3 : nn ≤ 3
          · have e3 : decide ((3 : Int) < (nn : Int)) = false := decide_eq_false (by omega)
            have e3' : decide (3 < nn) = false := decide_eq_false (by omega)
            have dg := fun w => dig_slice (k := nn) (by omega) w
            have a1 := fun w => add_S [c] [digit nn] (by simp) w
            have a2 := fun w => add_S [c, digit nn] out (by simp; omega) w
            go_wp2_with fail
            refine (peek_any h1 (by omega) hs).mono ?_
            rintro e w2 ⟨rfl, F2⟩
            have h2 := h1.keep F2 (fun h => h)
            go_wp2_with fail
            refine (peek_any h2 (by omega) hs).mono ?_
            rintro e w3 ⟨rfl, F3⟩
            have h3 := h2.keep F3 (fun h => h)
            have c31 := h3.c1
            have z31 := h3.z1
            have c33 := h3.c3
            have z33 := h3.z3
            go_wp2_with fail
            go_ret
            exact FB.out (c :: digit nn :: out) (p1 + 1) vs1 _ h3.fail.pos ((((F1.trans F2 (fun _ _ h => h.elim)).trans F3 (fun _ _ h => h.elim)).setCell (fun _ => rfl) _).setCell (fun _ => rfl) _) (by simp only [List.length_cons]; omega) (by omega) (by omega) HN.out
          · have e3 : decide ((3 : Int) < (nn : Int)) = true := decide_eq_true (by omega)
            have e3' : decide (3 < nn) = true := decide_eq_true (by omega)
            go_wp2_with fail
            refine (peek_any h1 (by omega) hs).mono ?_
            rintro e w2 ⟨rfl, F2⟩
            have h2 := h1.keep F2 (fun h => h)
            go_wp2_with fail
            refine (peek_any h2 (by omega) hs).mono ?_
            rintro e w3 ⟨rfl, F3⟩
            have h3 := h2.keep F3 (fun h => h)
            have c31 := h3.c1
            have z31 := h3.z1
            have c33 := h3.c3
            have z33 := h3.z3
            go_wp2_with fail
            go_ret
            exact FB.out [] (p1 + 1) vs1 _ h3.fail.pos.fail (((((F1.trans F2 (fun _ _ h => h.elim)).trans F3 (fun _ _ h => h.elim)).setCell (fun _ => rfl) _).setCell (fun _ => rfl) _).setCell (fun _ => rfl) _) (by simp) (by omega) (by omega) HN.out
    · have c3 := h1.c3
      by_cases h41 : hd (s.drop p1) = 41
      · have r1 : (((hd (s.drop p1)).toNat : Int) == 41) = true := by rw [h41]; rfl
        have r1' : (((hd (s.drop p1)).toNat : Int) != 41) = false := by rw [h41]; rfl
        clear h41
        by_cases hn3 : nn ≤ 3
        · have e3 : decide ((3 : Int) < (nn : Int)) = false := decide_eq_false (by omega)
          have e3' : decide (3 < nn) = false := decide_eq_false (by omega)
          have dg := fun w => dig_slice (k := nn) (by omega) w
          have a1 := fun w => add_S [c] [digit nn] (by simp) w
          have a2 := fun w => add_S [c, digit nn] out (by simp; omega) w
          go_wp2_with fail
          refine (peek_any h1 (by omega) hs).mono ?_
          rintro e w2 ⟨rfl, F2⟩
          have h2 := h1.keep F2 (fun h => h)
          have c31 := h2.c1
          have z31 := h2.z1
          go_wp2_with fail
          go_ret
          exact FB.out (c :: digit nn :: out) (p1 + 1) vs1 _ h2.pos ((F1.trans F2 (fun _ _ h => h.elim)).setCell (fun _ => rfl) _) (by simp only [List.length_cons]; omega) (by omega) (by omega) HB.out
        · have e3 : decide ((3 : Int) < (nn : Int)) = true := decide_eq_true (by omega)
          have e3' : decide (3 < nn) = true := decide_eq_true (by omega)
          go_wp2_with fail
          refine (peek_any h1 (by omega) hs).mono ?_
          rintro e w2 ⟨rfl, F2⟩
          have h2 := h1.keep F2 (fun h => h)
          have c31 := h2.c1
          have z31 := h2.z1
          have c33 := h2.c3
          have z33 := h2.z3
          go_wp2_with fail
          go_ret
          exact FB.out [] (p1 + 1) vs1 _ h2.pos.fail (((F1.trans F2 (fun _ _ h => h.elim)).setCell (fun _ => rfl) _).setCell (fun _ => rfl) _) (by simp) (by omega) (by omega) HB.out
      · have r1 : (((hd (s.drop p1)).toNat : Int) == 41) = false := by have := toNat_eqI (hd (s.drop p1)) 41; rw [decide_eq_false h41] at this; exact this
        have r1' : (((hd (s.drop p1)).toNat : Int) != 41) = true := by show (!_) = true; rw [r1]; rfl
        clear h41
        by_cases hn3 : nn ≤ 3
        · have e3 : decide ((3 : Int) < (nn : Int)) = false := decide_eq_false (by omega)
          have e3' : decide (3 < nn) = false := decide_eq_false (by omega)
          have dg := fun w => dig_slice (k := nn) (by omega) w
          have a1 := fun w => add_S [c] [digit nn] (by simp) w
          have a2 := fun w => add_S [c, digit nn] out (by simp; omega) w
          go_wp2_with fail
          refine (peek_any h1 (by omega) hs).mono ?_
          rintro e w2 ⟨rfl, F2⟩
          have h2 := h1.keep F2 (fun h => h)
          have c31 := h2.c1
          have z31 := h2.z1
          have c33 := h2.c3
          have z33 := h2.z3
          go_wp2_with fail
          go_ret
          exact FB.out (c :: digit nn :: out) (p1 + 1) vs1 _ h2.fail.pos (((F1.trans F2 (fun _ _ h => h.elim)).setCell (fun _ => rfl) _).setCell (fun _ => rfl) _) (by simp only [List.length_cons]; omega) (by omega) (by omega) HB.out
        · have e3 : decide ((3 : Int) < (nn : Int)) = true := decide_eq_true (by omega)
          have e3' : decide (3 < nn) = true := decide_eq_true (by omega)
          go_wp2_with fail
          refine (peek_any h1 (by omega) hs).mono ?_
          rintro e w2 ⟨rfl, F2⟩
          have h2 := h1.keep F2 (fun h => h)
          have c31 := h2.c1
          have z31 := h2.z1
          have c33 := h2.c3
          have z33 := h2.z3
          go_wp2_with fail
          go_ret
          exact FB.out [] (p1 + 1) vs1 _ h2.fail.pos.fail ((((F1.trans F2 (fun _ _ h => h.elim)).setCell (fun _ => rfl) _).setCell (fun _ => rfl) _).setCell (fun _ => rfl) _) (by simp) (by omega) (by omega) HB.out
end

/-- The model's reader reads as the plain one does. -/
theorem term_any : ∀ n, n ≤ 100 → TermSaid n
  | 0, _ => fun w b s p vs top h hs hp hv hl => by omega
  | n + 1, hn => fun w b s p vs top h hs hp hv hl => by
    have ih : Hid (TermSaid n) := term_any n (by omega)
    generalize hc : hd (s.drop p) = c
    by_cases hv' : (isCap c && !top) = true
    · have hcap : isCap c = true := by simp at hv'; exact hv'.1
      have htop : top = false := by simp at hv'; exact hv'.2
      subst htop
      have := term_var (n := n + 1) h hs hv (by omega) hc hcap (rCall (n + 1))
      simpa using this
    · have hv'' : (isCap c && !top) = false := by simpa using hv'
      have hR : (if top = true then rCall (n + 1) (s.drop p) vs else rTerm (rCall (n + 1)) (s.drop p) vs) = rCall (n + 1) (s.drop p) vs := by
        cases top with
        | true => rfl
        | false =>
          have hnc : isCap c = false := by simpa using hv''
          simp only [Bool.false_eq_true, if_false]
          unfold rTerm
          rw [hc, hnc]
          simp
      rw [hR]
      by_cases hlow : isLow c = true
      · by_cases h40 : hd (s.drop (p + 1)) = 40
        · exact term_args ih (by omega) h hs hv hl hc hlow h40
        · exact term_atom h hs hv hc hlow h40
      · exact term_notLow h hs hp hv hc (by simpa using hlow) hv''
end Go.Proofs.Qxb6500302a.M
