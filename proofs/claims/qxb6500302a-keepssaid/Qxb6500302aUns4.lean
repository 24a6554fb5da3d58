import Derived.Test.Qxb6500302aUns3
namespace Go.Proofs.Qxb6500302a
open Go.RowKit
set_option linter.unusedSimpArgs false
set_option linter.unusedVariables false
attribute [local go_sem ↓] Go.wp_at_zero Go.wp_at_succ
attribute [-go_sem] Go.run_string_add_if Go.run_index_string Go.run_slice_string_if

theorem commas_zero {f : Tm → List UInt8} {ts : List Tm} {u : Tm} (h : ts[0]? = some u) : commas ((ts.take 1).map f) = f u := by
  cases ts with
  | nil => simp at h
  | cons t ts => simp at h; subst h; simp [commas]
theorem commas_succ {f : Tm → List UInt8} {ts : List Tm} {i : Nat} {u : Tm} (h : ts[i]? = some u) (hi : i ≠ 0) : commas ((ts.take (i + 1)).map f) = commas ((ts.take i).map f) ++ 44 :: f u := by
  rw [List.take_add_one, h]
  simp only [Option.toList_some, List.map_append, List.map_cons, List.map_nil]
  rw [commas_snoc]
  intro e
  have := congrArg List.length e
  have hlt := (List.getElem?_eq_some_iff.1 h).1
  simp at this
  rcases this with h | h
  · exact hi h
  · rw [h] at hlt; simp at hlt

/-- The code, parted at the i-th of the arguments. -/
theorem code_part {ts : List Tm} {i : Nat} {u : Tm} (h : ts[i]? = some u) (pre post : List UInt8) (a d : UInt8) :
    pre ++ a :: d :: (ts.map codeOf).flatten ++ post = (pre ++ a :: d :: ((ts.take i).map codeOf).flatten) ++ codeOf u ++ (((ts.drop (i + 1)).map codeOf).flatten ++ post) := by
  have hlt := (List.getElem?_eq_some_iff.1 h).1
  have h2 := (List.getElem?_eq_some_iff.1 h).2
  have e : ts = ts.take i ++ u :: ts.drop (i + 1) := by
    conv => lhs; rw [← List.take_append_drop i ts, List.drop_eq_getElem_cons hlt, h2]
  conv => lhs; rw [e]
  simp
theorem textN_le (n : Nat) : ∀ t : Tm, SizeOf.sizeOf t ≤ n → (textN t).length = (textOf t).length := by
  induction n with
  | zero => intro t h; cases t; simp at h
  | succ n ih =>
    intro t h
    obtain ⟨k, a, m, ts⟩ := t
    rw [textN_eq, textOf_eq]
    have hk : ∀ u ∈ ts, (textN u).length = (textOf u).length := fun u hu => ih u (by
      have := List.sizeOf_lt_of_mem hu
      simp at h; omega)
    split
    · simp
    · split
      · simp
      · split
        · simp
        · have : (commas (ts.map textN)).length = (commas (ts.map textOf)).length := by
            have hm : (ts.map textN).map List.length = (ts.map textOf).map List.length := by
              rw [List.map_map, List.map_map]
              exact List.map_congr_left (fun u hu => hk u hu)
            rcases commas_length (ts.map textN) with h1 | h1
            · rcases commas_length (ts.map textOf) with h2 | h2
              · rw [hm] at h1; simp at h1 h2; omega
              · simp at h2; subst h2; rfl
            · simp at h1; subst h1; rfl
          simp [this]
end Go.Proofs.Qxb6500302a
