import Derived.Test.Qxb6500302aMod5
namespace Go.Proofs.Qxb6500302a.M
open Go.RowKit
set_option linter.unusedSimpArgs false
set_option linter.unusedVariables false
attribute [local go_sem ↓] Go.wp_at_zero Go.wp_at_succ
attribute [-go_sem] Go.run_string_add_if Go.run_index_string Go.run_slice_string_if

/-- Behind the goals ts: what the reading of the goals comes to. -/
def contG (n k : Nat) (ts : List Tm) (r vs : List UInt8) : Rds := match rGoals n k r vs with
  | none => none
  | some (ts2, s2, v2) => some (ts ++ ts2, s2, v2)
theorem contG_start (n k : Nat) (r vs : List UInt8) : rGoals n k r vs = contG n k [] r vs := by
  unfold contG
  cases rGoals n k r vs with
  | none => rfl
  | some x => rfl
theorem contG_comma {n k : Nat} {ts : List Tm} {r vs s1 v1 : List UInt8} {t : Tm} (h : rGoal n r vs = some (t, s1, v1)) (hc : hd s1 = 44) : contG n (k + 1) ts r vs = contG n k (ts ++ [t]) s1.tail v1 := by
  unfold contG
  rw [rGoals, h]
  simp only [hc, if_true]
  cases rGoals n k s1.tail v1 with
  | none => rfl
  | some x => simp
theorem contG_end {n k : Nat} {ts : List Tm} {r vs s1 v1 : List UInt8} {t : Tm} (h : rGoal n r vs = some (t, s1, v1)) (hc : ¬ hd s1 = 44) : contG n (k + 1) ts r vs = some (ts ++ [t], s1, v1) := by
  unfold contG
  rw [rGoals, h]
  simp only [hc, if_false]
theorem contG_none {n k : Nat} {ts : List Tm} {r vs : List UInt8} (h : rGoal n r vs = none) : contG n (k + 1) ts r vs = none := by
  unfold contG
  rw [rGoals, h]
theorem contG_many {n k : Nat} {ts : List Tm} {r vs : List UInt8} {ts' : List Tm} {s' v' : List UInt8} (e : contG n k ts r vs = some (ts', s', v')) : vs.length ≤ v'.length := by
  unfold contG at e
  cases hr : rGoals n k r vs with
  | none => rw [hr] at e; cases e
  | some x =>
    obtain ⟨ts2, s2, v2⟩ := x
    rw [hr] at e
    simp only [Option.some.injEq, Prod.mk.injEq] at e
    obtain ⟨_, _, rfl⟩ := e
    have := rGoals_tops n k _ _ _ _ _ hr
    omega
theorem contG_fail {n k : Nat} {ts : List Tm} {r vs : List UInt8} (h : ∀ t r' v', rGoal n r vs = some (t, r', v') → 6 < v'.length) : ∀ ts' s' v', contG n (k + 1) ts r vs = some (ts', s', v') → 6 < v'.length := by
  intro ts' s' v' e
  cases hg : rGoal n r vs with
  | none => rw [contG_none hg] at e; cases e
  | some x =>
    obtain ⟨t, s1, v1⟩ := x
    have h1 := h t s1 v1 hg
    by_cases hc : hd s1 = 44
    · rw [contG_comma hg hc] at e
      have := contG_many e
      omega
    · rw [contG_end hg hc] at e
      simp only [Option.some.injEq, Prod.mk.injEq] at e
      rw [← e.2.2]
      exact h1

def GoalsBad (n k : Nat) (s vs : List UInt8) (p : Nat) : Prop := ∀ ts r' v', rGoals n k (s.drop p) vs = some (ts, r', v') → 6 < v'.length

def GoalsPost (n k b : Nat) (s vs : List UInt8) (p : Nat) (w : World) (e : Ending) (w' : World) : Prop :=
  ∃ (out : List UInt8) (nn p' : Nat) (vs' : List UInt8) (bad' : Bool), e = .returned (.tuple #[.string (S out), .int .i64 (nn : Int)]) ∧ RdAt w' b s p' vs' bad' ∧ Fr (fun k => k = b) w w' ∧ out.length ≤ 200 ∧ nn ≤ 100 ∧
    ((bad' = false ∧ p' ≤ s.length ∧ vs'.length ≤ 6 ∧ ∃ ts, rGoals n k (s.drop p) vs = some (ts, s.drop p', vs') ∧ out = (ts.map codeOf).flatten ∧ nn = ts.length)
     ∨ (bad' = true ∧ GoalsBad n k s vs p))

/-- The world where the goals' loop comes round. -/
def GoalRel (n k b : Nat) (s vs : List UInt8) (p : Nat) (w : World) (gk : Nat) (v4 v5 : Value) (wr : World) : Prop :=
  ∃ (out : List UInt8) (nn p1 : Nat) (vs1 : List UInt8), v4 = .string (S out) ∧ v5 = .int .i64 (nn : Int) ∧ RdAt wr b s p1 vs1 false ∧ Fr (fun k => k = b) w wr ∧
    gk = (s.drop p1).length + 1 ∧ p1 ≤ s.length ∧ vs1.length ≤ 6 ∧ out.length + 2 * (s.drop p1).length ≤ 2 * (s.drop p).length ∧ nn + (s.drop p1).length ≤ 41 ∧ (s.drop p1).length ≤ (s.drop p).length ∧
    Hid (∃ ts k1, nn = ts.length ∧ out = (ts.map codeOf).flatten ∧ (s.drop p1).length < k1 ∧ rGoals n k (s.drop p) vs = contG n k1 ts (s.drop p1) vs1)

theorem neq44 {x : UInt8} (h : ¬ x = 44) : (((x.toNat : Int) != 44) = true) ∧ (((x.toNat : Int) == 44) = false) := by
  have r : ((x.toNat : Int) == 44) = false := by have := toNat_eqI x 44; rw [decide_eq_false h] at this; exact this
  exact ⟨by show (!_) = true; rw [r]; rfl, r⟩
theorem eq44 {x : UInt8} (h : x = 44) : (((x.toNat : Int) != 44) = false) ∧ (((x.toNat : Int) == 44) = true) := by subst h; exact ⟨rfl, rfl⟩

section
variable {w : World} {b p n k : Nat} {s vs : List UInt8}

set_option maxRecDepth 40000 in
set_option maxHeartbeats 4000000 in
theorem goals_any (hn : n ≤ 100) (h : RdAt w b s p vs false) (hs : s.length ≤ 40) (hp : p ≤ s.length) (hv : vs.length ≤ 6) (hlen : (s.drop p).length < n) (hk : (s.drop p).length < k) :
    Calls Try.prog 69 #[.pointer (some ⟨b, 0, none⟩)] w (GoalsPost n k b s vs p w) := by
  have HI : Hid (TermSaid n) := term_any n hn
  have hpl : (s.drop p).length ≤ 40 := by simp; omega
  go_enter Try.func69, Try.ntmps69
  go_wp2_with fail
  go_loopg [4, 5] ((s.drop p).length + 1) (GoalRel n k b s vs p w)
  case atStart => exact ⟨[], 0, p, vs, rfl, rfl, h, Fr.refl _ _, rfl, hp, hv, by simp, by omega, Nat.le_refl _, ⟨[], k, rfl, rfl, hk, contG_start _ _ _ _⟩⟩
  case round =>
    obtain ⟨out, nn, p1, vs1, rfl, rfl, h1, F1, hgk, hp1, hv1, hol, hnl, hle, HG⟩ := hrel
    have H1 : Hid (RdAt wr b s p1 vs1 false) := h1
    clear h h1
    by_cases h33 : hd (s.drop p1) = 33
    · have hp1l : p1 < s.length := drop_lt h33 (by decide)
      have hdd : (s.drop p1).length = (s.drop (p1 + 1)).length + 1 := by simp; omega
      have q1 : (((hd (s.drop p1)).toNat : Int) == 33) = true := by rw [h33]; rfl
      have hg : rGoal n (s.drop p1) vs1 = some (tCut, s.drop (p1 + 1), vs1) := by unfold rGoal; rw [if_pos h33, drop_next]
      have HGo : Hid (rGoal n (s.drop p1) vs1 = some (tCut, s.drop (p1 + 1), vs1)) := hg
      have HCC : Hid (codeOf tCut = [33, 48]) := by show _ = _; unfold tCut; rw [codeOf_eq]; simp
      have a1 := fun w => add_S' out (b := { data := #[33, 48] }) [33, 48] rfl (by simp; omega) w
      clear h33 hg
      by_cases h44 : hd (s.drop (p1 + 1)) = 44
      · obtain ⟨r1, r1'⟩ := eq44 h44
        have hp2l : p1 + 1 < s.length := drop_lt h44 (by decide)
        have hdd2 : (s.drop (p1 + 1)).length = (s.drop (p1 + 1 + 1)).length + 1 := by simp; omega
        have HN : Hid (∃ ts k1, nn + 1 = ts.length ∧ out ++ [33, 48] = (ts.map codeOf).flatten ∧ (s.drop (p1 + 1 + 1)).length < k1 ∧ rGoals n k (s.drop p) vs = contG n k1 ts (s.drop (p1 + 1 + 1)) vs1) := by
          obtain ⟨ts, k1, e1, e2, e3, e4⟩ := HG.out
          obtain ⟨j, rfl⟩ : ∃ j, k1 = j + 1 := ⟨k1 - 1, by omega⟩
          refine ⟨ts ++ [tCut], j, by simp [e1], by rw [e2]; simp [HCC.out], by omega, ?_⟩
          rw [e4, contG_comma HGo.out h44, ← drop_next]
        clear h44
        go_wp2_with fail
        refine (peek_any H1.out (by omega) hs).mono ?_
        rintro e w2 ⟨rfl, F2⟩
        have h2 := H1.out.keep F2 (fun h => h)
        have c21 := h2.c1
        have z21 := h2.z1
        have c23 := h2.c3
        go_wp2_with fail
        refine (peek_any h2.pos (by omega) hs).mono ?_
        rintro e w3 ⟨rfl, F3⟩
        have h3 := h2.pos.keep F3 (fun h => h)
        have c31 := h3.c1
        have z31 := h3.z1
        have F13 : Fr (fun k => k = b) w w3 := ((F1.trans F2 (fun _ _ h => h.elim)).setCell (fun _ => rfl) _).trans F3 (fun _ _ h => h.elim)
        go_wp2_with fail
        go_roundg ((s.drop (p1 + 1 + 1)).length + 1)
        case measure => omega
        case rel => exact ⟨out ++ [33, 48], nn + 1, p1 + 1 + 1, vs1, rfl, by go_num, h3.pos, F13.setCell (fun _ => rfl) _, rfl, by omega, hv1, by rw [List.length_append]; simp only [List.length_cons, List.length_nil]; omega, by omega, by omega, HN.out⟩
      · obtain ⟨r1, r1'⟩ := neq44 h44
        have HN : Hid (∃ ts, rGoals n k (s.drop p) vs = some (ts, s.drop (p1 + 1), vs1) ∧ out ++ [33, 48] = (ts.map codeOf).flatten ∧ nn + 1 = ts.length) := by
          obtain ⟨ts, k1, e1, e2, e3, e4⟩ := HG.out
          obtain ⟨j, rfl⟩ : ∃ j, k1 = j + 1 := ⟨k1 - 1, by omega⟩
          refine ⟨ts ++ [tCut], ?_, by rw [e2]; simp [HCC.out], by simp [e1]⟩
          rw [e4, contG_end HGo.out h44]
        clear h44
        go_wp2_with fail
        refine (peek_any H1.out (by omega) hs).mono ?_
        rintro e w2 ⟨rfl, F2⟩
        have h2 := H1.out.keep F2 (fun h => h)
        have c21 := h2.c1
        have z21 := h2.z1
        have c23 := h2.c3
        go_wp2_with fail
        refine (peek_any h2.pos (by omega) hs).mono ?_
        rintro e w3 ⟨rfl, F3⟩
        have h3 := h2.pos.keep F3 (fun h => h)
        have F13 : Fr (fun k => k = b) w w3 := ((F1.trans F2 (fun _ _ h => h.elim)).setCell (fun _ => rfl) _).trans F3 (fun _ _ h => h.elim)
        go_wp2_with fail
        go_ret2
        exact ⟨out ++ [33, 48], nn + 1, p1 + 1, vs1, false, rfl, h3, F13, by rw [List.length_append]; simp only [List.length_cons, List.length_nil]; omega, by omega, .inl ⟨rfl, by omega, hv1, HN.out⟩⟩
    · have q1 : (((hd (s.drop p1)).toNat : Int) == 33) = false := by have := toNat_eqI (hd (s.drop p1)) 33; rw [decide_eq_false h33] at this; exact this
      have HGo : Hid (rGoal n (s.drop p1) vs1 = rCall n (s.drop p1) vs1) := by show _ = _; unfold rGoal; rw [if_neg h33]
      clear h33
      go_wp2_with fail
      refine (peek_any H1.out (by omega) hs).mono ?_
      rintro e w2 ⟨rfl, F2⟩
      have h2 := H1.out.keep F2 (fun h => h)
      go_wp2_with fail
      refine (HI.out _ b s p1 vs1 true h2 hs (by omega) hv1 (by omega)).mono ?_
      rintro e w3 ⟨out2, p2, vs2, bad2, rfl, h3, F3, hl2, H2⟩
      have F13 : Fr (fun k => k = b) w w3 := (F1.trans F2 (fun _ _ h => h.elim)).trans F3 (fun _ _ h => h)
      have a1 := fun w => add_S out out2 (by omega) w
      have c33 := h3.c3
      have c31 := h3.c1
      have z31 := h3.z1
      rcases H2 with ⟨rfl, hp2, hv2, hl3, t, ht, ho2⟩ | ⟨rfl, hp2, hv2, hb2⟩
      · have HT : Hid (rGoal n (s.drop p1) vs1 = some (t, s.drop p2, vs2)) := by show _ = _; rw [HGo.out]; simpa using ht
        have HO : Hid (out2 = codeOf t) := ho2
        clear ht ho2
        by_cases h44 : hd (s.drop p2) = 44
        · obtain ⟨r1, r1'⟩ := eq44 h44
          have hp2l : p2 < s.length := drop_lt h44 (by decide)
          have hdd2 : (s.drop p2).length = (s.drop (p2 + 1)).length + 1 := by simp; omega
          have HN : Hid (∃ ts k1, nn + 1 = ts.length ∧ out ++ out2 = (ts.map codeOf).flatten ∧ (s.drop (p2 + 1)).length < k1 ∧ rGoals n k (s.drop p) vs = contG n k1 ts (s.drop (p2 + 1)) vs2) := by
            obtain ⟨ts, k1, e1, e2, e3, e4⟩ := HG.out
            obtain ⟨j, rfl⟩ : ∃ j, k1 = j + 1 := ⟨k1 - 1, by omega⟩
            refine ⟨ts ++ [t], j, by simp [e1], by rw [e2, HO.out]; simp, by omega, ?_⟩
            rw [e4, contG_comma HT.out h44, ← drop_next]
          clear h44
          go_wp2_with fail
          refine (peek_any h3 (by omega) hs).mono ?_
          rintro e w4 ⟨rfl, F4⟩
          have h4 := h3.keep F4 (fun h => h)
          have c41 := h4.c1
          have z41 := h4.z1
          go_wp2_with fail
          go_roundg ((s.drop (p2 + 1)).length + 1)
          case measure => omega
          case rel => exact ⟨out ++ out2, nn + 1, p2 + 1, vs2, rfl, by go_num, h4.pos, (F13.trans F4 (fun _ _ h => h.elim)).setCell (fun _ => rfl) _, rfl, by omega, hv2, by rw [List.length_append]; omega, by omega, by omega, HN.out⟩
        · obtain ⟨r1, r1'⟩ := neq44 h44
          have HN : Hid (∃ ts, rGoals n k (s.drop p) vs = some (ts, s.drop p2, vs2) ∧ out ++ out2 = (ts.map codeOf).flatten ∧ nn + 1 = ts.length) := by
            obtain ⟨ts, k1, e1, e2, e3, e4⟩ := HG.out
            obtain ⟨j, rfl⟩ : ∃ j, k1 = j + 1 := ⟨k1 - 1, by omega⟩
            refine ⟨ts ++ [t], ?_, by rw [e2, HO.out]; simp, by simp [e1]⟩
            rw [e4, contG_end HT.out h44]
          clear h44
          go_wp2_with fail
          refine (peek_any h3 (by omega) hs).mono ?_
          rintro e w4 ⟨rfl, F4⟩
          have h4 := h3.keep F4 (fun h => h)
          go_wp2_with fail
          go_ret2
          exact ⟨out ++ out2, nn + 1, p2, vs2, false, rfl, h4, F13.trans F4 (fun _ _ h => h.elim), by rw [List.length_append]; omega, by omega, .inl ⟨rfl, hp2, hv2, HN.out⟩⟩
      · have HN : Hid (GoalsBad n k s vs p) := by
          obtain ⟨ts, k1, e1, e2, e3, e4⟩ := HG.out
          obtain ⟨j, rfl⟩ : ∃ j, k1 = j + 1 := ⟨k1 - 1, by omega⟩
          intro ts' r' v' e
          rw [e4] at e
          refine contG_fail (fun t r'' v'' e'' => ?_) _ _ _ e
          rw [HGo.out] at e''
          exact hb2 t r'' v'' (by simpa using e'')
        clear hb2
        go_wp2_with fail
        go_ret2
        exact ⟨out ++ out2, nn + 1, p2, vs2, true, rfl, h3, F13, by rw [List.length_append]; omega, by omega, .inr ⟨rfl, HN.out⟩⟩

set_option maxRecDepth 40000 in
set_option maxHeartbeats 4000000 in
theorem goals_bad (h : RdAt w b s p vs true) (hs : s.length ≤ 40) (hp : p ≤ 400) :
    Calls Try.prog 69 #[.pointer (some ⟨b, 0, none⟩)] w fun e w' => ∃ (out : List UInt8) (nn p' : Nat), e = .returned (.tuple #[.string (S out), .int .i64 (nn : Int)]) ∧ RdAt w' b s p' vs true ∧ Fr (fun k => k = b) w w' := by
  have a0 := fun w => add_S' [] (b := { data := #[33, 48] }) [33, 48] rfl (by simp) w
  rw [S_nil] at a0
  simp only [List.nil_append] at a0
  go_enter Try.func69, Try.ntmps69
  go_wp2_with fail
  go_loopg [4, 5] 1 (fun gk v4 v5 wr => v4 = .string { data := #[] } ∧ v5 = .int .i64 0 ∧ wr = w)
  case atStart => exact ⟨rfl, rfl, rfl⟩
  case round =>
    obtain ⟨rfl, rfl, rfl⟩ := hrel
    by_cases h33 : hd (s.drop p) = 33
    · have q1 : (((hd (s.drop p)).toNat : Int) == 33) = true := by rw [h33]; rfl
      clear h33
      go_wp2_with fail
      refine (peek_any h (by omega) hs).mono ?_
      rintro e w2 ⟨rfl, F2⟩
      have h2 := h.keep F2 (fun h => h)
      have c21 := h2.c1
      have z21 := h2.z1
      have c23 := h2.c3
      go_wp2_with fail
      go_ret2
      exact ⟨[33, 48], 1, p + 1, rfl, h2.pos, setB (noB F2) _ _⟩
    · have q1 : (((hd (s.drop p)).toNat : Int) == 33) = false := by have := toNat_eqI (hd (s.drop p)) 33; rw [decide_eq_false h33] at this; exact this
      clear h33
      go_wp2_with fail
      refine (peek_any h (by omega) hs).mono ?_
      rintro e w2 ⟨rfl, F2⟩
      have h2 := h.keep F2 (fun h => h)
      go_wp2_with fail
      refine (bad_term h2 hs (by omega)).mono ?_
      rintro e w3 ⟨out2, p2, rfl, h3, F3, hl2, hp2⟩
      have a1 := fun w => add_S [] out2 (by simp; omega) w
      rw [S_nil] at a1
      simp only [List.nil_append] at a1
      have c33 := h3.c3
      go_wp2_with fail
      go_ret2
      exact ⟨out2, 1, p2, rfl, h3, (noB F2).trans F3 (fun _ _ h => h)⟩
end
end Go.Proofs.Qxb6500302a.M
