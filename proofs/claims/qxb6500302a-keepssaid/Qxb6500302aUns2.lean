import Derived.Test.Qxb6500302aUns1
namespace Go.Proofs.Qxb6500302a
open Go.RowKit
set_option linter.unusedSimpArgs false
set_option linter.unusedVariables false
attribute [local go_sem ↓] Go.wp_at_zero Go.wp_at_succ
attribute [-go_sem] Go.run_string_add_if Go.run_index_string Go.run_slice_string_if

/-- 'unspell', at the node t of the code. -/
def UnsSaid (tx : Tm → List UInt8) (t : Tm) : Prop :=
  ∀ (w : World) (pre post : List UInt8), pre.length + (codeOf t).length + post.length ≤ 100 →
    Calls Try.prog 31 #[.string (S (pre ++ codeOf t ++ post)), .int .i64 (pre.length : Int)] w fun e w' => e = .returned (.tuple #[.string (S (tx t)), .int .i64 ((pre.length : Int) + ((codeOf t).length : Int))]) ∧ w' = w

theorem at_pre (pre : List UInt8) (c : UInt8) (r : List UInt8) : (pre ++ c :: r)[pre.length]? = some c := by simp
theorem at_pre1 (pre : List UInt8) (c d : UInt8) (r : List UInt8) : (pre ++ c :: d :: r)[pre.length + 1]? = some d := by
  rw [List.getElem?_append_right (by omega)]; simp

set_option maxRecDepth 20000 in
theorem uns_var {t : Tm} (hk : t.kind = 0) (hn : t.num < 6) : UnsSaid textN t := by
  have hc : codeOf t = [65 + t.num.toUInt8] := by obtain ⟨k, a, n, ts⟩ := t; simp only at hk; rw [codeOf_eq, if_pos hk]
  have hx : textN t = [65 + t.num.toUInt8] := by obtain ⟨k, a, n, ts⟩ := t; simp only at hk; rw [textN_eq, if_pos hk]
  intro w pre post hl
  rw [hc] at hl ⊢
  rw [hx]
  have hv := var_toNat (n := t.num) (by omega)
  generalize (65 + t.num.toUInt8 : UInt8) = c at *
  have hL : pre ++ [c] ++ post = pre ++ c :: post := by simp
  rw [hL]
  have hg := at_pre pre c post
  have hsz : ((S (pre ++ c :: post)).size : Int) = (pre.length : Int) + 1 + (post.length : Int) := by rw [S_size]; simp; omega
  generalize pre ++ c :: post = L at *
  have d1 : decide ((pre.length : Int) < 0) = false := decide_eq_false (by omega)
  have d2 : decide (((S L).size : Int) ≤ (pre.length : Int)) = false := decide_eq_false (by omega)
  have d3 : decide ((65 : Int) ≤ (c.toNat : Int)) = true := decide_eq_true (by omega)
  have d4 : decide ((c.toNat : Int) < 71) = true := decide_eq_true (by omega)
  have i1 := idx_Int (l := L) (i := (pre.length : Int)) (by omega) (by simpa using hg)
  have s1 := slice_one hg
  simp only [List.length_cons, List.length_nil] at hl
  go_enter Try.func31, Try.ntmps31
  go_wp2_with fail
  go_ret2
  exact ⟨by simp, rfl⟩
end Go.Proofs.Qxb6500302a
