import Derived.Test.Qxb6500302aMod6
namespace Go.Proofs.Qxb6500302a.M
open Go.RowKit
set_option linter.unusedSimpArgs false
set_option linter.unusedVariables false
attribute [local go_sem ↓] Go.wp_at_zero Go.wp_at_succ
attribute [-go_sem] Go.run_string_add_if Go.run_index_string Go.run_slice_string_if

/-- What 'compile' answers. -/
def compOf (q : Bool) (s : List UInt8) : List UInt8 × Bool := match parseOf q s with
  | none => ([], false)
  | some t => (codeOf t, true)

theorem parse_by {q : Bool} {s : List UInt8} : parseOf q s = match rRead q s with
    | none => none
    | some (ts, vs) => if (if q then ts else ts.tail).length ≤ 3 ∧ vs.length ≤ 6 then some (tCall (rootOf q) ts) else none := by
  unfold parseOf
  cases h : rRead q s with
  | none => rfl
  | some x =>
    obtain ⟨ts, vs⟩ := x
    have e : topVar (tCall (rootOf q) ts) = vs.length := by rw [topVar_tCall, rRead_tops h]
    simp only [e]

section
variable {s : List UInt8}
theorem readQ : rRead true s = match rGoals (s.length + 1) (s.length + 1) s [] with
    | some (ts, [], vs) => some (ts, vs)
    | _ => none := by unfold rRead; simp; rfl
theorem parseQ_some {ts : List Tm} {vs : List UInt8} (h : rGoals (s.length + 1) (s.length + 1) s [] = some (ts, [], vs)) (hv : vs.length ≤ 6) (hl : ts.length ≤ 3) : parseOf true s = some (tCall 63 ts) := by
  have : rRead true s = some (ts, vs) := by rw [readQ, h]
  rw [parse_by, this]
  simp only [if_true]
  rw [if_pos ⟨hl, hv⟩]; rfl
theorem parseQ_none (h : ∀ ts vs, rGoals (s.length + 1) (s.length + 1) s [] = some (ts, [], vs) → 6 < vs.length ∨ 3 < ts.length) : parseOf true s = none := by
  rw [parse_by, readQ]
  cases hr : rGoals (s.length + 1) (s.length + 1) s [] with
  | none => rfl
  | some x =>
    obtain ⟨ts, r, vs⟩ := x
    cases r with
    | nil =>
      have := h ts vs hr
      simp only [if_true]
      rw [if_neg (by omega)]
    | cons a b => rfl
theorem readC : rRead false s = match rCall (s.length + 1) s [] with
    | none => none
    | some (h, s1, vs1) =>
      if s1 = [] then some ([h], vs1)
      else if hd s1 = 58 then
        if hd s1.tail = 45 then
          match rGoals (s.length + 1) (s.length + 1) s1.tail.tail vs1 with
          | some (ts, [], vs) => some (h :: ts, vs)
          | _ => none
        else none
      else none := by unfold rRead; simp; rfl
theorem parseC_fact {h : Tm} {vs : List UInt8} (hc : rCall (s.length + 1) s [] = some (h, [], vs)) (hv : vs.length ≤ 6) : parseOf false s = some (tCall 58 [h]) := by
  have : rRead false s = some ([h], vs) := by rw [readC, hc]; simp
  rw [parse_by, this]
  simp only [Bool.false_eq_true, if_false]
  rw [if_pos ⟨by simp, hv⟩]; rfl
theorem parseC_rule {h : Tm} {s1 vs1 : List UInt8} {ts : List Tm} {vs : List UInt8} (hc : rCall (s.length + 1) s [] = some (h, s1, vs1)) (hn : ¬ s1 = []) (h58 : hd s1 = 58) (h45 : hd s1.tail = 45)
    (hg : rGoals (s.length + 1) (s.length + 1) s1.tail.tail vs1 = some (ts, [], vs)) (hv : vs.length ≤ 6) (hl : ts.length ≤ 3) : parseOf false s = some (tCall 58 (h :: ts)) := by
  have : rRead false s = some (h :: ts, vs) := by rw [readC, hc]; simp only [hn, h58, h45, hg, if_true, if_false]
  rw [parse_by, this]
  simp only [Bool.false_eq_true, if_false]
  rw [if_pos ⟨by simpa using hl, hv⟩]; rfl
theorem parseC_none1 (hb : ∀ h s1 v1, rCall (s.length + 1) s [] = some (h, s1, v1) → 6 < v1.length) : parseOf false s = none := by
  rw [parse_by]
  cases hr : rRead false s with
  | none => rfl
  | some x =>
    obtain ⟨ts, vs⟩ := x
    have h1 := rRead_tops hr
    rw [readC] at hr
    cases hc : rCall (s.length + 1) s [] with
    | none => rw [hc] at hr; cases hr
    | some y =>
      obtain ⟨h, s1, v1⟩ := y
      have h2 := hb h s1 v1 hc
      have h3 : v1.length ≤ vs.length := by
        rw [hc] at hr
        simp only at hr
        split at hr
        · simp only [Option.some.injEq, Prod.mk.injEq] at hr
          rw [← hr.2]; exact Nat.le_refl _
        · split at hr
          · split at hr
            · cases hg : rGoals (s.length + 1) (s.length + 1) s1.tail.tail v1 with
              | none => rw [hg] at hr; cases hr
              | some z =>
                obtain ⟨ts2, s2, v2⟩ := z
                have h4 := rGoals_tops _ _ _ _ _ _ _ hg
                rw [hg] at hr
                cases s2 with
                | nil =>
                  simp only [Option.some.injEq, Prod.mk.injEq] at hr
                  rw [← hr.2]; omega
                | cons a b => simp at hr
            · cases hr
          · cases hr
      simp only
      rw [if_neg (by omega)]
theorem parseC_none2 {h : Tm} {s1 vs1 : List UInt8} (hc : rCall (s.length + 1) s [] = some (h, s1, vs1)) (hn : ¬ s1 = []) (hx : ¬ hd s1 = 58 ∨ ¬ hd s1.tail = 45) : parseOf false s = none := by
  have : rRead false s = none := by
    rw [readC, hc]
    simp only [hn, if_false]
    by_cases h58 : hd s1 = 58
    · rw [if_pos h58, if_neg (by rcases hx with hx | hx; exact absurd h58 hx; exact hx)]
    · rw [if_neg h58]
  rw [parse_by, this]
theorem parseC_none3 {h : Tm} {s1 vs1 : List UInt8} (hc : rCall (s.length + 1) s [] = some (h, s1, vs1)) (hn : ¬ s1 = []) (h58 : hd s1 = 58) (h45 : hd s1.tail = 45)
    (hg : ∀ ts vs, rGoals (s.length + 1) (s.length + 1) s1.tail.tail vs1 = some (ts, [], vs) → 6 < vs.length ∨ 3 < ts.length) : parseOf false s = none := by
  rw [parse_by, readC, hc]
  simp only [hn, h58, h45, if_true, if_false]
  cases hr : rGoals (s.length + 1) (s.length + 1) s1.tail.tail vs1 with
  | none => rfl
  | some x =>
    obtain ⟨ts, r, vs⟩ := x
    cases r with
    | nil =>
      have := hg ts vs hr
      simp only [Bool.false_eq_true, if_false]
      rw [if_neg (by simp only [List.tail_cons]; omega)]
    | cons a b => rfl
end
theorem drop_nil_iff {s : List UInt8} {p : Nat} (h : p ≤ s.length) : s.drop p = [] ↔ p = s.length := by
  rw [List.drop_eq_nil_iff]; omega

theorem dig5_at : ∀ k : Nat, k < 5 → ([48, 49, 50, 51, 52] : List UInt8)[k]? = some (digit k) := by decide
theorem dig5_slice {k : Nat} (h : k < 4) (w : World) : (Instr.slice 9 (.string { data := #[48, 49, 50, 51, 52] }) (some (.int .i64 ((k : Int) + 1))) (some (.int .i64 ((k : Int) + 2))) none).run Try.prog w = .ok (.string (S [digit (k + 1)])) w := by
  have := slice_one (l := [48, 49, 50, 51, 52]) (i := k + 1) (dig5_at (k + 1) (by omega)) w
  have e1 : (((k + 1 : Nat)) : Int) = (k : Int) + 1 := by omega
  rw [e1] at this
  have e2 : (k : Int) + 1 + 1 = (k : Int) + 2 := by omega
  rw [e2] at this
  exact this

section
variable {w : World} {s : List UInt8}

set_option maxRecDepth 40000 in
set_option maxHeartbeats 4000000 in
theorem compile_q (hs : s.length ≤ 40) : Calls Try.prog 65 #[.string (S s), .bool true] w fun e w' => e = .returned (.tuple #[.string (S (compOf true s).1), .bool (compOf true s).2]) ∧ Fr No w w' := by
  have hsz := S_size s
  go_enter Try.func65, Try.ntmps65
  go_wp2_with fail
  have h0 : RdAt (w.alloc (.cells #[.string (S s), .int .i64 0, .string { data := #[] }, .bool false] 119)) w.heap.size s 0 [] false := heap_alloc_same _ _
  have F0 : Fr No w (w.alloc (.cells #[.string (S s), .int .i64 0, .string { data := #[] }, .bool false] 119)) := (Fr.refl No w).alloc _
  generalize (w.alloc (.cells #[.string (S s), .int .i64 0, .string { data := #[] }, .bool false] 119)) = W0 at *
  refine (goals_any (n := s.length + 1) (k := s.length + 1) (by omega) h0 hs (by omega) (by simp) (by simp) (by simp)).mono ?_
  rintro e w1 ⟨out, nn, p', vs', bad', rfl, h1, F1, hol, hnn, H⟩
  have F01 : Fr No w w1 := F0.trans F1 (fun k hk e => by omega)
  have c1 := h1.c1
  have c3 := h1.c3
  rcases H with ⟨rfl, hp', hv', ts, hr, ho, hn⟩ | ⟨rfl, hb⟩
  · rw [List.drop_zero] at hr
    by_cases hend : p' = s.length
    · have q1 : ((p' : Int) != ((S s).size : Int)) = false := by rw [hsz, hend]; simp
      have q1' : ((p' : Int) == ((S s).size : Int)) = true := by rw [hsz, hend]; simp
      have q2 : ((p' : Int) != (s.length : Int)) = false := by rw [hend]; simp
      have q2' : ((p' : Int) == (s.length : Int)) = true := by rw [hend]; simp
      have hr' : rGoals (s.length + 1) (s.length + 1) s [] = some (ts, [], vs') := by rw [hr, (drop_nil_iff hp').2 hend]
      by_cases h3 : nn ≤ 3
      · have e3 : decide ((3 : Int) < (nn : Int)) = false := decide_eq_false (by omega)
        have e3' : decide (3 < nn) = false := decide_eq_false (by omega)
        have HC : Hid (compOf true s = (63 :: digit nn :: out, true)) := by
          show _ = _
          unfold compOf
          rw [parseQ_some hr' hv' (by omega)]
          simp only [codeOf_tCall, ho, hn]
        have dg := fun w => dig_slice (k := nn) (by omega) w
        have a1 : ∀ w, (Op.stringOp .add { data := #[63] } (S [digit nn])).run Try.prog w = .ok (.string (S [63, digit nn])) w := fun w => add_S [63] [digit nn] (by simp) w
        have a2 := fun w => add_S [63, digit nn] out (by simp; omega) w
        clear hr hr' ho hn hend
        go_wp2_with fail
        go_ret2
        rw [HC.out]
        exact ⟨rfl, F01⟩
      · have e3 : decide ((3 : Int) < (nn : Int)) = true := decide_eq_true (by omega)
        have e3' : decide (3 < nn) = true := decide_eq_true (by omega)
        have HC : Hid (compOf true s = ([], false)) := by
          show _ = _
          unfold compOf
          rw [parseQ_none (fun ts' vs'' e => by rw [hr'] at e; simp only [Option.some.injEq, Prod.mk.injEq] at e; rw [← e.1]; omega)]
        clear hr hr' ho hn hend
        go_wp2_with fail
        go_ret2
        rw [HC.out]
        exact ⟨rfl, F01⟩
    · have q1 : ((p' : Int) != ((S s).size : Int)) = true := by rw [hsz, bne_iff_ne]; omega
      have q1' : ((p' : Int) == ((S s).size : Int)) = false := by rw [hsz, beq_eq_false_iff_ne]; omega
      have q2 : ((p' : Int) != (s.length : Int)) = true := by rw [bne_iff_ne]; omega
      have q2' : ((p' : Int) == (s.length : Int)) = false := by rw [beq_eq_false_iff_ne]; omega
      have HC : Hid (compOf true s = ([], false)) := by
        show _ = _
        unfold compOf
        rw [parseQ_none (fun ts' vs'' e => by
          rw [hr] at e
          simp only [Option.some.injEq, Prod.mk.injEq] at e
          exact absurd ((drop_nil_iff hp').1 e.2.1) hend)]
      clear hr ho hn hend
      go_wp2_with fail
      go_ret2
      rw [HC.out]
      exact ⟨rfl, F01⟩
  · have HC : Hid (compOf true s = ([], false)) := by
      show _ = _
      unfold compOf
      unfold GoalsBad at hb
      rw [List.drop_zero] at hb
      rw [parseQ_none (fun ts' vs'' e => .inl (hb _ _ _ e))]
    clear hb
    go_wp2_with fail
    go_ret2
    rw [HC.out]
    exact ⟨rfl, F01⟩
end
end Go.Proofs.Qxb6500302a.M
