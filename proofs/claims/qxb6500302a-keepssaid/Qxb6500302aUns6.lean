import Derived.Test.Qxb6500302aUns5
namespace Go.Proofs.Qxb6500302a
open Go.RowKit
set_option linter.unusedSimpArgs false
set_option linter.unusedVariables false
attribute [local go_sem ↓] Go.wp_at_zero Go.wp_at_succ
attribute [-go_sem] Go.run_string_add_if Go.run_index_string Go.run_slice_string_if

theorem uns_good : ∀ (m : Nat) (t : Tm), Good 6 m t → UnsSaid textN t
  | 0, _, h => h.elim
  | m + 1, t, h => by
    rcases h with ⟨h1, _, h3⟩ | h | ⟨h1, h2, h3, h4⟩
    · exact uns_var h1 h3
    · rw [h]; exact uns_cut
    · exact uns_call h1 h2 h3 (fun u hu => uns_good m u (h4 u hu))

/-- What stands of a clause's text when i of the root's arguments are spelt. -/
def outC (ts : List Tm) (i : Nat) : List UInt8 := if i = 0 then [] else textN (ts.headD tCut) ++ (if i = 1 then [] else 58 :: 45 :: commas ((ts.tail.take (i - 1)).map textN))
theorem outC_zero {ts : List Tm} {u : Tm} (h : ts[0]? = some u) : outC ts 1 = outC ts 0 ++ textN u := by
  cases ts with
  | nil => simp at h
  | cons t ts => simp at h; subst h; simp [outC]
theorem outC_one {ts : List Tm} {u : Tm} (h : ts[1]? = some u) : outC ts 2 = outC ts 1 ++ 58 :: 45 :: textN u := by
  cases ts with
  | nil => simp at h
  | cons t ts =>
    have h' : ts[0]? = some u := by simpa using h
    have := commas_zero (f := textN) h'
    simp only [outC]
    rw [if_neg (by omega), if_neg (by omega), if_neg (by omega), if_pos trivial]
    have e1 : (t :: ts).tail.take (2 - 1) = ts.take 1 := rfl
    rw [e1, this]
    simp
theorem outC_succ {ts : List Tm} {i : Nat} {u : Tm} (h : ts[i]? = some u) (h0 : i ≠ 0) (h1 : i ≠ 1) : outC ts (i + 1) = outC ts i ++ 44 :: textN u := by
  cases ts with
  | nil => simp at h
  | cons t ts =>
    obtain ⟨j, rfl⟩ : ∃ j, i = j + 2 := ⟨i - 2, by omega⟩
    have h' : ts[j + 1]? = some u := by simpa using h
    have := commas_succ (f := textN) h' (by omega)
    simp only [outC]
    rw [if_neg (by omega), if_neg (by omega), if_neg (by omega), if_neg (by omega)]
    have e1 : j + 2 + 1 - 1 = j + 1 + 1 := by omega
    have e2 : j + 2 - 1 = j + 1 := by omega
    rw [e1, e2, List.tail_cons, this]
    simp
theorem outC_all {ts : List Tm} (h : ts ≠ []) : outC ts ts.length = clauseTextN (tCall 58 ts) := by
  cases ts with
  | nil => exact absurd rfl h
  | cons t ts =>
    have hk : (tCall 58 (t :: ts)).kids = t :: ts := rfl
    have hl : (tCall 58 (t :: ts)).letter = 58 := rfl
    unfold outC clauseTextN
    rw [hk, hl]
    by_cases h0 : ts = []
    · subst h0; simp
    · have h1 : ¬ ts.length = 0 := fun e => h0 (List.length_eq_zero_iff.1 e)
      simp [h0]
theorem outC_len (ts : List Tm) (i : Nat) : (outC ts i).length ≤ (textN (ts.headD tCut)).length + 2 + (commas (ts.tail.map textN)).length := by
  unfold outC
  split
  · simp
  · split
    · simp; omega
    · have := commas_len (ts.tail.map textN) (i - 1)
      rw [← List.map_take] at this
      simp only [List.length_append, List.length_cons]
      omega
def outQ (ts : List Tm) (i : Nat) : List UInt8 := commas ((ts.take i).map textN)
theorem outQ_zero {ts : List Tm} {u : Tm} (h : ts[0]? = some u) : outQ ts 1 = outQ ts 0 ++ textN u := by
  unfold outQ; rw [commas_zero h]; simp [commas]
theorem outQ_succ {ts : List Tm} {i : Nat} {u : Tm} (h : ts[i]? = some u) (h0 : i ≠ 0) : outQ ts (i + 1) = outQ ts i ++ 44 :: textN u := commas_succ h h0
theorem outQ_all {ts : List Tm} : outQ ts ts.length = clauseTextN (tCall 63 ts) := by
  unfold outQ clauseTextN
  have hk : (tCall 63 ts).kids = ts := rfl
  have hl : (tCall 63 ts).letter = 63 := rfl
  rw [hk, hl, List.take_length, if_neg (by decide)]
end Go.Proofs.Qxb6500302a
