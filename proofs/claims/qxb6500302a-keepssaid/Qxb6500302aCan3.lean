import Derived.Test.Qxb6500302aUns7
namespace Go.Proofs.Qxb6500302a
open Go.RowKit
set_option linter.unusedSimpArgs false
set_option linter.unusedVariables false
attribute [local go_sem ↓] Go.wp_at_zero Go.wp_at_succ
attribute [-go_sem] Go.run_string_add_if Go.run_index_string Go.run_slice_string_if

theorem frozen_off {w : World} {b i lo hi : Nat} {cs : Array Value} {T : TypeId} (h : w.heap[b]? = some (.cells cs T (lo, hi))) (hi' : i < lo) : w.frozen? ⟨b, i, none⟩ = false := by
  simp [World.frozen?, h]; omega

theorem varIx_le (vs : List UInt8) (c : UInt8) : varIx vs c ≤ vs.length := by
  induction vs with
  | nil => simp [varIx]
  | cons x r ih => simp only [varIx]; split <;> simp; exact ih
theorem varIx_at {vs : List UInt8} {c : UInt8} (h : varIx vs c < vs.length) : vs[varIx vs c]? = some c := by
  induction vs with
  | nil => simp at h
  | cons x r ih =>
    simp only [varIx] at h ⊢
    split
    · rename_i hx; simp [hx]
    · rename_i hx
      rw [if_neg hx] at h
      simp at h ⊢
      exact ih h
theorem varIx_ne {vs : List UInt8} {c : UInt8} {k : Nat} (h : k < varIx vs c) : ∃ x, vs[k]? = some x ∧ x ≠ c := by
  induction vs generalizing k with
  | nil => simp [varIx] at h
  | cons x r ih =>
    simp only [varIx] at h
    split at h
    · omega
    · rename_i hx
      cases k with
      | zero => exact ⟨x, rfl, hx⟩
      | succ k => obtain ⟨y, h1, h2⟩ := ih (k := k) (by omega); exact ⟨y, by simpa using h1, h2⟩
theorem addVar_len (vs : List UInt8) (c : UInt8) : (addVar vs c).length ≤ vs.length + 1 := by
  unfold addVar; split <;> simp

/-- The row of bytes in the making: it reads zs. -/
def RowB (w : World) (g : Nat) (zs : List UInt8) : Prop :=
  ∃ (cur : Array Value) (hi : Nat), w.heap[g]? = some (.cells cur 5 (cur.size, hi)) ∧ zs.length ≤ cur.size ∧ ∀ (j : Nat) (b : UInt8), zs[j]? = some b → cur[j]? = some (Value.int .u8 (b.toNat : Int))
theorem RowB.cell {w : World} {g : Nat} {zs : List UInt8} (h : RowB w g zs) {j : Nat} {b : UInt8} (hb : zs[j]? = some b) : w.cell? ⟨g, j, none⟩ = some (.int .u8 (b.toNat : Int)) ∧ w.frozen? ⟨g, j, none⟩ = false := by
  obtain ⟨cur, hi, h1, h2, h3⟩ := h
  have hlt := (List.getElem?_eq_some_iff.1 hb).1
  exact ⟨cell_of j h1 (h3 j b hb), frozen_off h1 (by omega)⟩
theorem RowB.keep {S : Nat → Prop} {w w' : World} {g : Nat} {zs : List UInt8} (h : RowB w g zs) (hf : Fr S w w') (hg : ¬ S g) : RowB w' g zs := by
  obtain ⟨cur, hi, h1, h2⟩ := h
  exact ⟨cur, hi, hf.keep h1 hg, h2⟩
theorem RowB.set {w : World} {g : Nat} {zs zs' : List UInt8} (h : RowB w g zs) {i : Nat} {b : UInt8} (hi : i < zs.length) (hz : zs' = zs.set i b) {x : Int} (hx : x = (b.toNat : Int)) : RowB (w.setCell ⟨g, i, none⟩ (.int .u8 x)) g zs' := by
  obtain ⟨cur, hi', h1, h2, h3⟩ := h
  subst hz hx
  refine ⟨cur.setIfInBounds i (.int .u8 (b.toNat : Int)), hi', ?_, by simpa using h2, fun j c hc => ?_⟩
  · rw [heap_setCell_same _ h1, Array.size_setIfInBounds]
  · by_cases hji : j = i
    · subst hji
      rw [List.getElem?_set_self (by omega)] at hc
      have hcb := Option.some.inj hc
      subst hcb
      rw [Array.getElem?_setIfInBounds_self_of_lt (by omega)]
    · rw [List.getElem?_set_ne (by omega)] at hc
      rw [Array.getElem?_setIfInBounds_ne (by omega)]
      exact h3 j c hc
end Go.Proofs.Qxb6500302a
