import Derived.Test.Qxb6500302aMod2
import Derived.Test.Qxb6500302aMat2
namespace Go.Proofs.Qxb6500302a.M
open Go.RowKit
set_option linter.unusedSimpArgs false
set_option linter.unusedVariables false
attribute [local go_sem ↓] Go.wp_at_zero Go.wp_at_succ
attribute [-go_sem] Go.run_string_add_if Go.run_index_string Go.run_slice_string_if

theorem dig_at : ∀ k : Nat, k < 4 → ([48, 49, 50, 51] : List UInt8)[k]? = some (digit k) := by decide
theorem dig_slice {k : Nat} (h : k < 4) (w : World) : (Instr.slice 9 (.string { data := #[48, 49, 50, 51] }) (some (.int .i64 (k : Int))) (some (.int .i64 ((k : Int) + 1))) none).run Try.prog w = .ok (.string (S [digit k])) w :=
  slice_one (l := [48, 49, 50, 51]) (dig_at k h) w
theorem codeOf_tCall (c : UInt8) (ts : List Tm) : codeOf (tCall c ts) = c :: digit ts.length :: (ts.map codeOf).flatten := codeOf_call rfl

def TermSaid (n : Nat) : Prop := ∀ (w : World) (b : Nat) (s : List UInt8) (p : Nat) (vs : List UInt8) (top : Bool), RdAt w b s p vs false → s.length ≤ 40 → p ≤ s.length → vs.length ≤ 6 → (s.drop p).length < n →
  Calls Try.prog 67 #[.pointer (some ⟨b, 0, none⟩), .bool top] w (TermPost n b s (s.drop p) (if top = true then rCall n (s.drop p) vs else rTerm (rCall n) (s.drop p) vs) w)

section
variable {w : World} {b p n : Nat} {s vs : List UInt8}

/-- No letter that will do. -/
theorem rCall_notLow {r vs : List UInt8} {n : Nat} (h : isLow (hd r) = false) : rCall (n + 1) r vs = none := by
  unfold rCall; rw [if_neg (by rw [h]; simp)]
theorem rCall_atom {r vs : List UInt8} {n : Nat} (h : isLow (hd r) = true) (h2 : ¬ hd r.tail = 40) : rCall (n + 1) r vs = some (tCall (hd r) [], r.tail, vs) := by
  unfold rCall; rw [if_pos h, if_neg h2]
theorem rCall_args {r vs : List UInt8} {n : Nat} (h : isLow (hd r) = true) (h2 : hd r.tail = 40) : rCall (n + 1) r vs = match rArgs (rCall n) 3 r.tail.tail vs with
    | none => none
    | some (ts, s2, vs2) => some (tCall (hd r) ts, s2, vs2) := by
  conv => lhs; unfold rCall
  rw [if_pos h, if_pos h2]
  rfl

set_option maxRecDepth 40000 in
set_option maxHeartbeats 4000000 in
theorem term_notLow (h : RdAt w b s p vs false) (hs : s.length ≤ 40) (hp : p ≤ s.length) (hv : vs.length ≤ 6) {c : UInt8} (hc : hd (s.drop p) = c) (hlow : isLow c = false) {top : Bool} (hnv : (isCap c && !top) = false) :
    Calls Try.prog 67 #[.pointer (some ⟨b, 0, none⟩), .bool top] w (TermPost (n + 1) b s (s.drop p) (rCall (n + 1) (s.drop p) vs) w) := by
  have HR : Hid (rCall (n + 1) (s.drop p) vs = none) := rCall_notLow (by rw [hc]; exact hlow)
  have HP : Hid (Calls Try.prog 68 #[.pointer (some ⟨b, 0, none⟩)] w fun e w'' => e = .returned (.int .u8 (c.toNat : Int)) ∧ Fr No w w'') := by
    have := peek_any h (by omega) hs
    rw [hc] at this
    exact this
  have hnl : c.toNat < 97 ∨ 122 < c.toNat := by
    have : ¬ (97 ≤ c.toNat ∧ c.toNat ≤ 122) := by simpa [isLow] using hlow
    omega
  have hnc : c.toNat < 65 ∨ 90 < c.toNat ∨ top = true := by
    cases top with
    | true => exact .inr (.inr rfl)
    | false =>
      have : ¬ (65 ≤ c.toNat ∧ c.toNat ≤ 90) := by simpa [isCap] using hnv
      omega
  have fin : ∀ w1 : World, Fr No w w1 → TermPost (n + 1) b s (s.drop p) (rCall (n + 1) (s.drop p) vs) w (.returned (.string { data := #[] })) (w1.setCell ⟨b, 3, none⟩ (.bool true)) := by
    intro w1 F1
    refine ⟨[], p, vs, true, rfl, (h.keep F1 (fun h => h)).fail, setB (noB F1) _ _, by simp, .inr ⟨rfl, by omega, by omega, ?_⟩⟩
    intro t r' v' e
    rw [HR.out] at e
    cases e
  have HF : Hid _ := fin
  clear fin hc hnv hlow
  by_cases h65 : c.toNat < 65
  · have d1 : decide ((65 : Int) ≤ (c.toNat : Int)) = false := decide_eq_false (by omega)
    have d1' : decide (65 ≤ c.toNat) = false := decide_eq_false (by omega)
    have d3 : decide ((c.toNat : Int) < 97) = true := decide_eq_true (by omega)
    have d3' : decide (c.toNat < 97) = true := decide_eq_true (by omega)
    go_enter Try.func67, Try.ntmps67
    go_wp2_with fail
    refine HP.out.mono ?_
    rintro e w1 ⟨rfl, F1⟩
    have h1 := h.keep F1 (fun h => h)
    have c3 := h1.c3
    have z3 := h1.z3
    go_wp2_with fail
    go_ret
    exact HF.out w1 F1
  · have d1 : decide ((65 : Int) ≤ (c.toNat : Int)) = true := decide_eq_true (by omega)
    have d1' : decide (65 ≤ c.toNat) = true := decide_eq_true (by omega)
    by_cases h90 : c.toNat ≤ 90
    · obtain rfl : top = true := by rcases hnc with h | h | h <;> first | omega | exact h
      have d2 : decide ((c.toNat : Int) ≤ 90) = true := decide_eq_true (by omega)
      have d2' : decide (c.toNat ≤ 90) = true := decide_eq_true (by omega)
      have d3 : decide ((c.toNat : Int) < 97) = true := decide_eq_true (by omega)
      have d3' : decide (c.toNat < 97) = true := decide_eq_true (by omega)
      go_enter Try.func67, Try.ntmps67
      go_wp2_with fail
      refine HP.out.mono ?_
      rintro e w1 ⟨rfl, F1⟩
      have h1 := h.keep F1 (fun h => h)
      have c3 := h1.c3
      have z3 := h1.z3
      go_wp2_with fail
      go_ret
      exact HF.out w1 F1
    · have d2 : decide ((c.toNat : Int) ≤ 90) = false := decide_eq_false (by omega)
      have d2' : decide (c.toNat ≤ 90) = false := decide_eq_false (by omega)
      by_cases h97 : c.toNat < 97
      · have d3 : decide ((c.toNat : Int) < 97) = true := decide_eq_true (by omega)
        have d3' : decide (c.toNat < 97) = true := decide_eq_true (by omega)
        go_enter Try.func67, Try.ntmps67
        go_wp2_with fail
        refine HP.out.mono ?_
        rintro e w1 ⟨rfl, F1⟩
        have h1 := h.keep F1 (fun h => h)
        have c3 := h1.c3
        have z3 := h1.z3
        go_wp2_with fail
        go_ret
        exact HF.out w1 F1
      · have d3 : decide ((c.toNat : Int) < 97) = false := decide_eq_false (by omega)
        have d3' : decide (c.toNat < 97) = false := decide_eq_false (by omega)
        have d4 : decide ((122 : Int) < (c.toNat : Int)) = true := decide_eq_true (by omega)
        have d4' : decide (122 < c.toNat) = true := decide_eq_true (by omega)
        go_enter Try.func67, Try.ntmps67
        go_wp2_with fail
        refine HP.out.mono ?_
        rintro e w1 ⟨rfl, F1⟩
        have h1 := h.keep F1 (fun h => h)
        have c3 := h1.c3
        have z3 := h1.z3
        go_wp2_with fail
        go_ret
        exact HF.out w1 F1

set_option maxRecDepth 40000 in
set_option maxHeartbeats 4000000 in
theorem term_atom (h : RdAt w b s p vs false) (hs : s.length ≤ 40) (hv : vs.length ≤ 6) {c : UInt8} (hc : hd (s.drop p) = c) (hlow : isLow c = true) (hd2 : ¬ hd (s.drop (p + 1)) = 40) {top : Bool} :
    Calls Try.prog 67 #[.pointer (some ⟨b, 0, none⟩), .bool top] w (TermPost (n + 1) b s (s.drop p) (rCall (n + 1) (s.drop p) vs) w) := by
  have hp : p < s.length := drop_lt hc (isLow_ne hlow)
  obtain ⟨g1, g2⟩ := low_facts hlow
  have HR : Hid (rCall (n + 1) (s.drop p) vs = some (tCall c [], s.drop (p + 1), vs)) := by
    have := rCall_atom (r := s.drop p) (vs := vs) (n := n) (by rw [hc]; exact hlow) (by rw [← drop_next]; exact hd2)
    rw [hc, ← drop_next] at this
    exact this
  have HD : Hid ((s.drop p).length = (s.drop (p + 1)).length + 1) := by show _ = _; simp; omega
  have HP : Hid (Calls Try.prog 68 #[.pointer (some ⟨b, 0, none⟩)] w fun e w'' => e = .returned (.int .u8 (c.toNat : Int)) ∧ Fr No w w'') := by
    have := peek_any h (by omega) hs
    rw [hc] at this
    exact this
  have hsl := fun w => slice_one (l := s) (i := p) (c := c) (by rw [at_drop s p hp, hc]) w
  have d1 : decide ((65 : Int) ≤ (c.toNat : Int)) = true := decide_eq_true (by omega)
  have d1' : decide (65 ≤ c.toNat) = true := decide_eq_true (by omega)
  have d2 : decide ((c.toNat : Int) ≤ 90) = false := decide_eq_false (by omega)
  have d2' : decide (c.toNat ≤ 90) = false := decide_eq_false (by omega)
  have d3 : decide ((c.toNat : Int) < 97) = false := decide_eq_false (by omega)
  have d3' : decide (c.toNat < 97) = false := decide_eq_false (by omega)
  have d4 : decide ((122 : Int) < (c.toNat : Int)) = false := decide_eq_false (by omega)
  have d4' : decide (122 < c.toNat) = false := decide_eq_false (by omega)
  have q40 : (((hd (s.drop (p + 1))).toNat : Int) == 40) = false := by
    rw [beq_eq_false_iff_ne]
    intro e
    apply hd2
    have : (hd (s.drop (p + 1))).toNat = 40 := by omega
    exact UInt8.toNat.inj this
  have a1 := fun w => add_S [c] [digit 0] (by simp) w
  have a2 := fun w => add_S' [c, digit 0] (b := { data := #[] }) [] rfl (by simp) w
  have dg : ∀ w, (Instr.slice 9 (.string { data := #[48, 49, 50, 51] }) (some (.int .i64 0)) (some (.int .i64 1)) none).run Try.prog w = .ok (.string (S [digit 0])) w := fun w => dig_slice (k := 0) (by omega) w
  have HC : Hid (codeOf (tCall c []) = [c, digit 0]) := by show _ = _; rw [codeOf_tCall]; rfl
  clear hc hd2
  go_enter Try.func67, Try.ntmps67
  go_wp2_with fail
  refine HP.out.mono ?_
  rintro e w1 ⟨rfl, F1⟩
  have h1 := h.keep F1 (fun h => h)
  have c0 := h1.c0
  have c1 := h1.c1
  have z1 := h1.z1
  go_wp2_with fail
  go_quiet (fail)
  generalize hW : World.drewN w1 _ = W2
  have F2 : Fr No w1 W2 := hW ▸ (Fr.refl No w1).drewN _
  have h2 := h1.keep F2 (fun h => h)
  have c20 := h2.c0
  have c21 := h2.c1
  have z21 := h2.z1
  have F12 := F1.trans F2 (fun _ _ h => h)
  clear hW
  go_wp2_with fail
  refine (peek_any h2.pos (by omega) hs).mono ?_
  rintro e w3 ⟨rfl, F3⟩
  go_wp2_with fail
  go_ret
  refine ⟨_, p + 1, vs, false, rfl, h2.pos.keep F3 (fun h => h), (setB (noB F12) _ _).trans F3 (fun _ _ h => h.elim), by simp, .inl ⟨rfl, by omega, hv, by have := HD.out; simp at this ⊢; omega, _, HR.out, HC.out.symm⟩⟩
end
end Go.Proofs.Qxb6500302a.M
