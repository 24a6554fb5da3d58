import Derived.Test.Qxb6500302aUns2
namespace Go.Proofs.Qxb6500302a
open Go.RowKit
set_option linter.unusedSimpArgs false
set_option linter.unusedVariables false
attribute [local go_sem ↓] Go.wp_at_zero Go.wp_at_succ
attribute [-go_sem] Go.run_string_add_if Go.run_index_string Go.run_slice_string_if

set_option maxRecDepth 20000 in
theorem uns_cut : UnsSaid textN tCut := by
  have hc : codeOf tCut = [33, 48] := by unfold tCut; rw [codeOf_eq]; simp
  intro w pre post hl
  rw [hc] at hl ⊢
  rw [textN_cut]
  have hL : pre ++ [33, 48] ++ post = pre ++ 33 :: 48 :: post := by simp
  rw [hL]
  have hg := at_pre pre 33 (48 :: post)
  have hg1 := at_pre1 pre 33 48 post
  have hsz : ((S (pre ++ 33 :: 48 :: post)).size : Int) = (pre.length : Int) + 2 + (post.length : Int) := by rw [S_size]; simp; omega
  generalize pre ++ (33 : UInt8) :: 48 :: post = L at *
  have d1 : decide ((pre.length : Int) < 0) = false := decide_eq_false (by omega)
  have d2 : decide (((S L).size : Int) ≤ (pre.length : Int)) = false := decide_eq_false (by omega)
  have d3 : decide (((S L).size : Int) ≤ (pre.length : Int) + 1) = false := decide_eq_false (by omega)
  have i1 := idx_Int (l := L) (i := (pre.length : Int)) (by omega) (by simpa using hg)
  have i2 := idx_Int (l := L) (i := (pre.length : Int) + 1) (by omega) (by rw [show ((pre.length : Int) + 1).toNat = pre.length + 1 by omega]; exact hg1)
  have s1 := slice_one hg
  simp only [List.length_cons, List.length_nil] at hl
  go_enter Try.func31, Try.ntmps31
  go_wp2_with fail
  go_loopg [1, 9, 10] 1 (fun _ v1 v9 u wr => v1 = .int .i64 ((pre.length : Int) + 2) ∧ v9 = .string (S [33]) ∧ u = .int .i64 0 ∧ wr = w)
  case atStart => exact ⟨rfl, rfl, rfl, rfl⟩
  case round =>
    obtain ⟨rfl, rfl, rfl, rfl⟩ := hrel
    go_wp2_with fail
    go_ret2
    exact ⟨by simp, rfl⟩
end Go.Proofs.Qxb6500302a
