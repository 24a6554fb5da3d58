import Derived.Test.Qxb6500301aPrn2
import Derived.Test.Qxb6500301aMk1
import Derived.OwnWalk
namespace Go.Proofs.Qxb6500301a
open Go.RowKit
set_option linter.unusedSimpArgs false
set_option linter.unusedVariables false
attribute [local go_sem ↓] Go.wp_at_zero Go.wp_at_succ
attribute [-go_sem] Go.run_string_add_if Go.run_index_string Go.run_slice_string_if

theorem Try.info4 : (Try.prog.info? 4).map (fun i => (i.zero, i.size, i.bytes)) = some (some (.bool false), 1, 1) := by kernel_rfl

/-! ### The marks, one by one -/
theorem Inv.at {ns : List Nd} {tr : List Nat} {ms : List (Nat × Nat)} (h : Inv ns tr ms) {j top tm : Nat} (hj : ms[j]? = some (top, tm)) : top ≤ ns.length ∧ tm ≤ tr.length ∧ (savedOf ns tr ms)[j]? = some (restore ns (tr.drop tm) top) ∧ ∀ top' tm', ms[j + 1]? = some (top', tm') → tm' ≤ tm := by
  have hjl := (List.getElem?_eq_some_iff.1 hj).1
  obtain ⟨c1, c2⟩ := h.cut j
  have hd : ms.drop j = (top, tm) :: ms.drop (j + 1) := by
    rw [List.drop_eq_getElem_cons hjl]
    congr 1
    exact (List.getElem?_eq_some_iff.1 hj).2
  rw [hd] at c1 c2
  refine ⟨c1.2.1, c1.2.2.1, ?_, fun top' tm' hj' => ?_⟩
  · have : ((savedOf ns tr ms).drop j)[0]? = some (restore ns (tr.drop tm) top) := by rw [← c2]; rfl
    simpa using this
  · have hjl' := (List.getElem?_eq_some_iff.1 hj').1
    have hd' : ms.drop (j + 1) = (top', tm') :: ms.drop (j + 2) := by
      rw [List.drop_eq_getElem_cons hjl']
      congr 1
      exact (List.getElem?_eq_some_iff.1 hj').2
    rw [hd'] at c1
    have := c1.2.2.2.2.2.1
    simp at this
    omega
theorem marks_get {l : List (Nat × List Nd)} {k : Nat} {x : Nat × List Nd} (h : l[k]? = some x) (i : Nat) (hi : i < 3) : (l.flatMap markV)[k * 3 + i]? = (markV x)[i]? := by
  induction l generalizing k with
  | nil => simp at h
  | cons y l ih =>
    rw [List.flatMap_cons]
    have hy : (markV y).length = 3 := rfl
    cases k with
    | zero =>
      simp at h; subst h
      rw [Nat.zero_mul, Nat.zero_add, List.getElem?_append_left (by omega)]
    | succ k =>
      rw [List.getElem?_append_right (by omega), show (k + 1) * 3 + i - (markV y).length = k * 3 + i by omega]
      exact ih (by simpa using h)
theorem mark_cells {w : World} {g : Nat} {tms : List Nat} {saved : List (List Nd)} (hl : tms.length = saved.length) (h : w.ownsRow 0 60 3 (sl g tms.length 26) tms.length (marksV tms saved)) {j : Nat} {tm : Nat} {s : List Nd} (ht : tms[j]? = some tm) (hs : saved[j]? = some s) :
    w.cell? ⟨g, (saved.length - 1 - j) * 3, none⟩ = some (.int .i32 (s.length : Int)) ∧ w.cell? ⟨g, (saved.length - 1 - j) * 3 + 1, none⟩ = some (.int .i32 (aLen s : Int)) ∧ w.cell? ⟨g, (saved.length - 1 - j) * 3 + 2, none⟩ = some (.int .i32 (tm : Int)) := by
  have hj := (List.getElem?_eq_some_iff.1 hs).1
  have hz : (tms.zip saved).reverse[saved.length - 1 - j]? = some (tm, s) := by
    have hzl : (tms.zip saved).length = saved.length := by simp [hl]
    rw [List.getElem?_reverse (by omega), hzl, show saved.length - 1 - (saved.length - 1 - j) = j by omega, List.getElem?_zip_eq_some]
    exact ⟨ht, hs⟩
  have key : ∀ i, i < 3 → w.cell? ⟨g, (saved.length - 1 - j) * 3 + i, none⟩ = (markV (tm, s))[i]? := by
    intro i hi
    rw [h.cellAt _ (by omega)]
    exact marks_get hz i hi
  exact ⟨key 0 (by omega), key 1 (by omega), key 2 (by omega)⟩
theorem rowL_restore {ns : List Nd} (hw : WfN ns) {vs : List Nat} {top : Nat} (ht : top ≤ ns.length) : (rowL (restore ns vs top)).length ≤ 15 * top := by
  have hRl : (restore ns vs top).length = top := restore_len ht
  have h1 : ∀ x ∈ restore ns vs top, (ndL x).length ≤ 15 := by
    intro x hx
    obtain ⟨i, hi, e⟩ := List.getElem_of_mem hx
    have hit : i < top := by omega
    have hg : (restore ns vs top)[i]? = some x := by rw [List.getElem?_eq_getElem hi, e]
    rw [restore_at hit ht] at hg
    by_cases hm : i ∈ vs
    · rw [if_pos hm] at hg; cases hg; simp [ndL]
    · rw [if_neg hm] at hg; exact ndL_len hw hg
  have h2 : ∀ l : List Nd, (∀ x ∈ l, (ndL x).length ≤ 15) → (rowL l).length ≤ 15 * l.length := by
    intro l
    induction l with
    | nil => intro _; simp [rowL]
    | cons x l ih =>
      intro hx
      have h1 := hx x (by simp)
      have h2 := ih (fun y hy => hx y (by simp [hy]))
      unfold rowL at h2 ⊢
      rw [List.flatMap_cons, List.length_append, List.length_cons]; omega
  have := h2 _ h1
  omega
/-- The Booleans of a set of addresses. -/
def UndAt (w : World) (g n : Nat) (vs : List Nat) : Prop := w.heap[g]? = some (.cells ((List.range n).map (fun i => Value.bool (decide (i ∈ vs)))).toArray 4)
theorem UndAt.cell {w : World} {g n : Nat} {vs : List Nat} (h : UndAt w g n vs) {i : Nat} (hi : i < n) : w.cell? ⟨g, i, none⟩ = some (.bool (decide (i ∈ vs))) := by
  refine cell_of i h ?_
  simp [hi]
theorem UndAt.set {w : World} {g n : Nat} {vs : List Nat} (h : UndAt w g n vs) (v : Nat) : UndAt (w.setCell ⟨g, v, none⟩ (.bool true)) g n (v :: vs) := by
  unfold UndAt
  rw [heap_setCell_same _ h]
  congr 2
  apply Array.ext'
  simp only [Array.toList_setIfInBounds]
  apply List.ext_getElem?
  intro i
  by_cases hi : i < n
  · by_cases e : v = i
    · subst e; rw [List.getElem?_set_self (by simpa using hi)]; simp [hi]
    · rw [List.getElem?_set_ne e]; simp [hi, Ne.symm e, show ¬ i = v from fun e' => e e'.symm]
  · rw [List.getElem?_eq_none (by simp; omega), List.getElem?_eq_none (by simp; omega)]
theorem UndAt.keep {w w' : World} {g n : Nat} {vs : List Nat} (h : UndAt w g n vs) {T : Nat → Prop} (hf : Fr T w w') (hn : ¬ T g) : UndAt w' g n vs := hf.keep h hn
theorem oldL_snoc {saved : List (List Nd)} {j : Nat} {s : List Nd} (h : saved[j]? = some s) : oldL (saved.take (j + 1)) = oldL (saved.take j) ++ (124 :: rowL s) := by
  unfold oldL
  rw [List.take_add_one, h, List.flatMap_append]
  simp
end Go.Proofs.Qxb6500301a
