import Derived.Test.Qxb6500302aMod4
namespace Go.Proofs.Qxb6500302a.M
open Go.RowKit
set_option linter.unusedSimpArgs false
set_option linter.unusedVariables false
attribute [local go_sem ↓] Go.wp_at_zero Go.wp_at_succ
attribute [-go_sem] Go.run_string_add_if Go.run_index_string Go.run_slice_string_if

/-- A reading that begins with the flag up. -/
def BadPost (b : Nat) (s vs : List UInt8) (p : Nat) (w : World) (e : Ending) (w' : World) : Prop :=
  ∃ (out : List UInt8) (p' : Nat), e = .returned (.string (S out)) ∧ RdAt w' b s p' vs true ∧ Fr (fun k => k = b) w w' ∧ out.length ≤ 2 ∧ p' ≤ p + 2

section
variable {w : World} {b p : Nat} {s vs : List UInt8}
set_option maxRecDepth 40000 in
set_option maxHeartbeats 4000000 in
theorem bad_notLow (h : RdAt w b s p vs true) (hs : s.length ≤ 40) (hp : p ≤ 500) {c : UInt8} (hc : hd (s.drop p) = c) (hlow : isLow c = false) :
    Calls Try.prog 67 #[.pointer (some ⟨b, 0, none⟩), .bool true] w (BadPost b s vs p w) := by
  have HP : Hid (Calls Try.prog 68 #[.pointer (some ⟨b, 0, none⟩)] w fun e w'' => e = .returned (.int .u8 (c.toNat : Int)) ∧ Fr No w w'') := by
    have := peek_any h (by omega) hs
    rw [hc] at this
    exact this
  have hnl : c.toNat < 97 ∨ 122 < c.toNat := by
    have : ¬ (97 ≤ c.toNat ∧ c.toNat ≤ 122) := by simpa [isLow] using hlow
    omega
  have fin : ∀ w1 : World, Fr No w w1 → BadPost b s vs p w (.returned (.string { data := #[] })) (w1.setCell ⟨b, 3, none⟩ (.bool true)) := by
    intro w1 F1
    exact ⟨[], p, rfl, (h.keep F1 (fun h => h)).fail, setB (noB F1) _ _, by simp, by omega⟩
  have HF : Hid _ := fin
  clear fin hc hlow
  by_cases h65 : c.toNat < 65
  · have d1 : decide ((65 : Int) ≤ (c.toNat : Int)) = false := decide_eq_false (by omega)
    have d1' : decide (65 ≤ c.toNat) = false := decide_eq_false (by omega)
    have d3 : decide ((c.toNat : Int) < 97) = true := decide_eq_true (by omega)
    have d3' : decide (c.toNat < 97) = true := decide_eq_true (by omega)
    go_enter Try.func67, Try.ntmps67
    go_wp2_with fail
    refine HP.out.mono ?_
    rintro e w1 ⟨rfl, F1⟩
    have h1 := h.keep F1 (fun h => h)
    have c3 := h1.c3
    have z3 := h1.z3
    go_wp2_with fail
    go_ret
    exact HF.out w1 F1
  · have d1 : decide ((65 : Int) ≤ (c.toNat : Int)) = true := decide_eq_true (by omega)
    have d1' : decide (65 ≤ c.toNat) = true := decide_eq_true (by omega)
    by_cases h90 : c.toNat ≤ 90
    · have d2 : decide ((c.toNat : Int) ≤ 90) = true := decide_eq_true (by omega)
      have d2' : decide (c.toNat ≤ 90) = true := decide_eq_true (by omega)
      have d3 : decide ((c.toNat : Int) < 97) = true := decide_eq_true (by omega)
      have d3' : decide (c.toNat < 97) = true := decide_eq_true (by omega)
      go_enter Try.func67, Try.ntmps67
      go_wp2_with fail
      refine HP.out.mono ?_
      rintro e w1 ⟨rfl, F1⟩
      have h1 := h.keep F1 (fun h => h)
      have c3 := h1.c3
      have z3 := h1.z3
      go_wp2_with fail
      go_ret
      exact HF.out w1 F1
    · have d2 : decide ((c.toNat : Int) ≤ 90) = false := decide_eq_false (by omega)
      have d2' : decide (c.toNat ≤ 90) = false := decide_eq_false (by omega)
      by_cases h97 : c.toNat < 97
      · have d3 : decide ((c.toNat : Int) < 97) = true := decide_eq_true (by omega)
        have d3' : decide (c.toNat < 97) = true := decide_eq_true (by omega)
        go_enter Try.func67, Try.ntmps67
        go_wp2_with fail
        refine HP.out.mono ?_
        rintro e w1 ⟨rfl, F1⟩
        have h1 := h.keep F1 (fun h => h)
        have c3 := h1.c3
        have z3 := h1.z3
        go_wp2_with fail
        go_ret
        exact HF.out w1 F1
      · have d3 : decide ((c.toNat : Int) < 97) = false := decide_eq_false (by omega)
        have d3' : decide (c.toNat < 97) = false := decide_eq_false (by omega)
        have d4 : decide ((122 : Int) < (c.toNat : Int)) = true := decide_eq_true (by omega)
        have d4' : decide (122 < c.toNat) = true := decide_eq_true (by omega)
        go_enter Try.func67, Try.ntmps67
        go_wp2_with fail
        refine HP.out.mono ?_
        rintro e w1 ⟨rfl, F1⟩
        have h1 := h.keep F1 (fun h => h)
        have c3 := h1.c3
        have z3 := h1.z3
        go_wp2_with fail
        go_ret
        exact HF.out w1 F1

set_option maxRecDepth 40000 in
set_option maxHeartbeats 4000000 in
theorem bad_atom (h : RdAt w b s p vs true) (hs : s.length ≤ 40) {c : UInt8} (hc : hd (s.drop p) = c) (hlow : isLow c = true) (hd2 : ¬ hd (s.drop (p + 1)) = 40) :
    Calls Try.prog 67 #[.pointer (some ⟨b, 0, none⟩), .bool true] w (BadPost b s vs p w) := by
  have hp : p < s.length := drop_lt hc (isLow_ne hlow)
  obtain ⟨g1, g2⟩ := low_facts hlow
  have HP : Hid (Calls Try.prog 68 #[.pointer (some ⟨b, 0, none⟩)] w fun e w'' => e = .returned (.int .u8 (c.toNat : Int)) ∧ Fr No w w'') := by
    have := peek_any h (by omega) hs
    rw [hc] at this
    exact this
  have hsl := fun w => slice_one (l := s) (i := p) (c := c) (by rw [at_drop s p hp, hc]) w
  have d1 : decide ((65 : Int) ≤ (c.toNat : Int)) = true := decide_eq_true (by omega)
  have d1' : decide (65 ≤ c.toNat) = true := decide_eq_true (by omega)
  have d2 : decide ((c.toNat : Int) ≤ 90) = false := decide_eq_false (by omega)
  have d2' : decide (c.toNat ≤ 90) = false := decide_eq_false (by omega)
  have d3 : decide ((c.toNat : Int) < 97) = false := decide_eq_false (by omega)
  have d3' : decide (c.toNat < 97) = false := decide_eq_false (by omega)
  have d4 : decide ((122 : Int) < (c.toNat : Int)) = false := decide_eq_false (by omega)
  have d4' : decide (122 < c.toNat) = false := decide_eq_false (by omega)
  have q40 : (((hd (s.drop (p + 1))).toNat : Int) == 40) = false := by
    rw [beq_eq_false_iff_ne]
    intro e
    apply hd2
    have : (hd (s.drop (p + 1))).toNat = 40 := by omega
    exact UInt8.toNat.inj this
  have a1 := fun w => add_S [c] [digit 0] (by simp) w
  have a2 := fun w => add_S' [c, digit 0] (b := { data := #[] }) [] rfl (by simp) w
  have dg : ∀ w, (Instr.slice 9 (.string { data := #[48, 49, 50, 51] }) (some (.int .i64 0)) (some (.int .i64 1)) none).run Try.prog w = .ok (.string (S [digit 0])) w := fun w => dig_slice (k := 0) (by omega) w
  clear hc hd2
  go_enter Try.func67, Try.ntmps67
  go_wp2_with fail
  refine HP.out.mono ?_
  rintro e w1 ⟨rfl, F1⟩
  have h1 := h.keep F1 (fun h => h)
  have c0 := h1.c0
  have c1 := h1.c1
  have z1 := h1.z1
  go_wp2_with fail
  go_quiet (fail)
  generalize hW : World.drewN w1 _ = W2
  have F2 : Fr No w1 W2 := hW ▸ (Fr.refl No w1).drewN _
  have h2 := h1.keep F2 (fun h => h)
  have c20 := h2.c0
  have c21 := h2.c1
  have z21 := h2.z1
  have F12 := F1.trans F2 (fun _ _ h => h)
  clear hW
  go_wp2_with fail
  refine (peek_any h2.pos (by omega) hs).mono ?_
  rintro e w3 ⟨rfl, F3⟩
  go_wp2_with fail
  go_ret
  exact ⟨_, p + 1, rfl, h2.pos.keep F3 (fun h => h), (setB (noB F12) _ _).trans F3 (fun _ _ h => h.elim), by simp, by omega⟩

set_option maxRecDepth 40000 in
set_option maxHeartbeats 4000000 in
theorem bad_args (h : RdAt w b s p vs true) (hs : s.length ≤ 40) {c : UInt8} (hc : hd (s.drop p) = c) (hlow : isLow c = true) (hd2 : hd (s.drop (p + 1)) = 40) :
    Calls Try.prog 67 #[.pointer (some ⟨b, 0, none⟩), .bool true] w (BadPost b s vs p w) := by
  have hp : p < s.length := drop_lt hc (isLow_ne hlow)
  obtain ⟨g1, g2⟩ := low_facts hlow
  have HP : Hid (Calls Try.prog 68 #[.pointer (some ⟨b, 0, none⟩)] w fun e w'' => e = .returned (.int .u8 (c.toNat : Int)) ∧ Fr No w w'') := by
    have := peek_any h (by omega) hs
    rw [hc] at this
    exact this
  have hsl := fun w => slice_one (l := s) (i := p) (c := c) (by rw [at_drop s p hp, hc]) w
  have d1 : decide ((65 : Int) ≤ (c.toNat : Int)) = true := decide_eq_true (by omega)
  have d1' : decide (65 ≤ c.toNat) = true := decide_eq_true (by omega)
  have d2 : decide ((c.toNat : Int) ≤ 90) = false := decide_eq_false (by omega)
  have d2' : decide (c.toNat ≤ 90) = false := decide_eq_false (by omega)
  have d3 : decide ((c.toNat : Int) < 97) = false := decide_eq_false (by omega)
  have d3' : decide (c.toNat < 97) = false := decide_eq_false (by omega)
  have d4 : decide ((122 : Int) < (c.toNat : Int)) = false := decide_eq_false (by omega)
  have d4' : decide (122 < c.toNat) = false := decide_eq_false (by omega)
  have q40 : (((hd (s.drop (p + 1))).toNat : Int) == 40) = true := by rw [hd2]; rfl
  have q41 : (((hd (s.drop (p + 1))).toNat : Int) == 41) = false := by rw [hd2]; rfl
  have q41' : (((hd (s.drop (p + 1))).toNat : Int) != 41) = true := by rw [hd2]; rfl
  have a1 := fun w => add_S [c] [digit 0] (by simp) w
  have a2 := fun w => add_S' [c, digit 0] (b := { data := #[] }) [] rfl (by simp) w
  have dg : ∀ w, (Instr.slice 9 (.string { data := #[48, 49, 50, 51] }) (some (.int .i64 0)) (some (.int .i64 1)) none).run Try.prog w = .ok (.string (S [digit 0])) w := fun w => dig_slice (k := 0) (by omega) w
  clear hc hd2
  go_enter Try.func67, Try.ntmps67
  go_wp2_with fail
  refine HP.out.mono ?_
  rintro e w1 ⟨rfl, F1⟩
  have h1 := h.keep F1 (fun h => h)
  have c0 := h1.c0
  have c1 := h1.c1
  have z1 := h1.z1
  go_wp2_with fail
  go_quiet (fail)
  generalize hW : World.drewN w1 _ = W2
  have F2 : Fr No w1 W2 := hW ▸ (Fr.refl No w1).drewN _
  have h2 := h1.keep F2 (fun h => h)
  have c20 := h2.c0
  have c21 := h2.c1
  have z21 := h2.z1
  have F12 := F1.trans F2 (fun _ _ h => h)
  clear hW
  go_wp2_with fail
  refine (peek_any h2.pos (by omega) hs).mono ?_
  rintro e w3 ⟨rfl, F3⟩
  have h3 := h2.pos.keep F3 (fun h => h)
  have c33 := h3.c3
  have F03 : Fr (fun k => k = b) w w3 := (setB (noB F12) _ _).trans F3 (fun _ _ h => h.elim)
  clear F3 F12 c20 c21 z21 h2 F2 c0 c1 z1 h1 F1
  go_wp2_with fail
  go_loopg [8, 9, 10] 1 (fun gk v8 v9 v10 wr => v8 = .string { data := #[] } ∧ v9 = .int .i64 0 ∧ v10 = .int .u8 40 ∧ wr = w3)
  case atStart => exact ⟨rfl, rfl, rfl, rfl⟩
  case round =>
    obtain ⟨rfl, rfl, rfl, rfl⟩ := hrel
    go_wp2_with fail
    refine (peek_any h3 (by omega) hs).mono ?_
    rintro e w4 ⟨rfl, F4⟩
    have h4 := h3.keep F4 (fun h => h)
    have c41 := h4.c1
    have z41 := h4.z1
    have c43 := h4.c3
    have z43 := h4.z3
    go_wp2_with fail
    go_ret
    exact ⟨[c, digit 0], p + 1 + 1, rfl, h4.fail.pos, ((F03.trans F4 (fun _ _ h => h.elim)).setCell (fun _ => rfl) _).setCell (fun _ => rfl) _, by simp, by omega⟩

theorem bad_term (h : RdAt w b s p vs true) (hs : s.length ≤ 40) (hp : p ≤ 500) : Calls Try.prog 67 #[.pointer (some ⟨b, 0, none⟩), .bool true] w (BadPost b s vs p w) := by
  by_cases hlow : isLow (hd (s.drop p)) = true
  · by_cases h40 : hd (s.drop (p + 1)) = 40
    · exact bad_args h hs rfl hlow h40
    · exact bad_atom h hs rfl hlow h40
  · exact bad_notLow h hs hp rfl (by simpa using hlow)
end
end Go.Proofs.Qxb6500302a.M
