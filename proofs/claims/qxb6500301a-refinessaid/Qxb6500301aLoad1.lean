import Derived.Test.Qxb6500301aReal4
namespace Go.Proofs.Qxb6500301a
open Go.RowKit
set_option linter.unusedSimpArgs false
set_option linter.unusedVariables false
attribute [local go_sem ↓] Go.wp_at_zero Go.wp_at_succ
attribute [-go_sem] Go.run_string_add_if Go.run_index_string Go.run_slice_string_if

section
variable {w : World}
theorem isVar_any (c : UInt8) : Calls Try.prog 60 #[.int .u8 (c.toNat : Int)] w fun e w' => e = .returned (.bool (isVarC c)) ∧ w' = w := by
  by_cases h1 : 65 ≤ c.toNat
  · have d1 : decide ((65 : Int) ≤ (c.toNat : Int)) = true := decide_eq_true (by omega)
    have d1' : decide (65 ≤ c.toNat) = true := decide_eq_true (by omega)
    by_cases h2 : c.toNat < 71
    · have d2 : decide ((c.toNat : Int) < 71) = true := decide_eq_true (by omega)
      have d2' : decide (c.toNat < 71) = true := decide_eq_true (by omega)
      have HA : Hid (isVarC c = true) := by show _ = _; unfold isVarC; simp; omega
      go_enter Try.func60, Try.ntmps60
      go_wp2_with fail
      go_ret
      rw [HA.out]
      exact ⟨rfl, rfl⟩
    · have d2 : decide ((c.toNat : Int) < 71) = false := decide_eq_false (by omega)
      have d2' : decide (c.toNat < 71) = false := decide_eq_false (by omega)
      have HA : Hid (isVarC c = false) := by show _ = _; unfold isVarC; simp; omega
      go_enter Try.func60, Try.ntmps60
      go_wp2_with fail
      go_ret
      rw [HA.out]
      exact ⟨rfl, rfl⟩
  · have d1 : decide ((65 : Int) ≤ (c.toNat : Int)) = false := decide_eq_false (by omega)
    have d1' : decide (65 ≤ c.toNat) = false := decide_eq_false (by omega)
    have HA : Hid (isVarC c = false) := by show _ = _; unfold isVarC; simp; omega
    go_enter Try.func60, Try.ntmps60
    go_wp2_with fail
    go_ret
    rw [HA.out]
    exact ⟨rfl, rfl⟩

theorem isFun_any (c : UInt8) : Calls Try.prog 61 #[.int .u8 (c.toNat : Int)] w fun e w' => e = .returned (.bool (isFun c)) ∧ w' = w := by
  have fin : ∀ b, isFun c = b → ∀ w : World, (Ending.returned (.bool b) = .returned (.bool (isFun c)) ∧ w = w) := fun b hb w => ⟨by rw [hb], rfl⟩
  have q33 : ((c.toNat : Int) == 33) = (c.toNat == 33) := by rw [Bool.eq_iff_iff]; simp; omega
  have q58 : ((c.toNat : Int) == 58) = (c.toNat == 58) := by rw [Bool.eq_iff_iff]; simp; omega
  have q63 : ((c.toNat : Int) == 63) = (c.toNat == 63) := by rw [Bool.eq_iff_iff]; simp; omega
  by_cases hl : 97 ≤ c.toNat ∧ c.toNat ≤ 122
  · have d1 : decide ((97 : Int) ≤ (c.toNat : Int)) = true := decide_eq_true (by omega)
    have d1' : decide (97 ≤ c.toNat) = true := decide_eq_true (by omega)
    have d2 : decide ((c.toNat : Int) ≤ 122) = true := decide_eq_true (by omega)
    have d2' : decide (c.toNat ≤ 122) = true := decide_eq_true (by omega)
    have HA : Hid (isFun c = true) := by show _ = _; unfold isFun; simp; omega
    clear q33 q58 q63 fin
    go_enter Try.func61, Try.ntmps61
    go_wp2_with fail
    go_ret
    rw [HA.out]
    exact ⟨rfl, rfl⟩
  · have HF : Hid (isFun c = (c.toNat == 33 || c.toNat == 58 || c.toNat == 63)) := by
      show _ = _
      unfold isFun
      have : (decide (97 ≤ c.toNat) && decide (c.toNat ≤ 122)) = false := by simp; omega
      rw [this]; simp
    have key : ∀ (b1 b2 b3 : Bool), (c.toNat == 33) = b1 → (c.toNat == 58) = b2 → (c.toNat == 63) = b3 → Calls Try.prog 61 #[.int .u8 (c.toNat : Int)] w fun e w' => e = .returned (.bool (b1 || b2 || b3)) ∧ w' = w := by
      intro b1 b2 b3 h1 h2 h3
      rw [h1] at q33
      rw [h2] at q58
      rw [h3] at q63
      clear h1 h2 h3 HF fin
      by_cases h97 : 97 ≤ c.toNat
      · have d1 : decide ((97 : Int) ≤ (c.toNat : Int)) = true := decide_eq_true (by omega)
        have d1' : decide (97 ≤ c.toNat) = true := decide_eq_true (by omega)
        have d2 : decide ((c.toNat : Int) ≤ 122) = false := decide_eq_false (by omega)
        have d2' : decide (c.toNat ≤ 122) = false := decide_eq_false (by omega)
        cases b1 <;> cases b2 <;> cases b3 <;> (go_enter Try.func61, Try.ntmps61; go_wp2_with fail; go_ret; exact ⟨rfl, rfl⟩)
      · have d1 : decide ((97 : Int) ≤ (c.toNat : Int)) = false := decide_eq_false (by omega)
        have d1' : decide (97 ≤ c.toNat) = false := decide_eq_false (by omega)
        cases b1 <;> cases b2 <;> cases b3 <;> (go_enter Try.func61, Try.ntmps61; go_wp2_with fail; go_ret; exact ⟨rfl, rfl⟩)
    rw [HF.out]
    exact key _ _ _ rfl rfl rfl
end

/-- The set of the letters met, as the eight bits. -/
def maskOf : List Bool → Int
  | [] => 0
  | b :: r => (if b then 1 else 0) + 2 * maskOf r
theorem mask6 : ∀ (b0 b1 b2 b3 b4 b5 : Bool) (k : Fin 6), (bits BinOp.and IntKind.u8 (maskOf [b0, b1, b2, b3, b4, b5]) (2 ^ k.val % 256) == 0) = !([b0, b1, b2, b3, b4, b5].getD k.val false) ∧ bits BinOp.or IntKind.u8 (maskOf [b0, b1, b2, b3, b4, b5]) (2 ^ k.val % 256) = maskOf ([b0, b1, b2, b3, b4, b5].set k.val true) := by decide
end Go.Proofs.Qxb6500301a
