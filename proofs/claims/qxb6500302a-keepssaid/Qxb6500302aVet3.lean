import Derived.Test.Qxb6500302aVet2
namespace Go.Proofs.Qxb6500302a
open Go.RowKit
set_option linter.unusedSimpArgs false
set_option linter.unusedVariables false
attribute [local go_sem] ta106_106 ta106_112 ta106_80 ta112_106 ta112_112 ta112_80 ta80_106 ta80_112 ta80_80 ta80_80'

/-- A window of trees: the slice sl reads as xs. -/
def WinIn (w : World) (D : Nat → Prop) (sl : Value) (xs : List Value) : Prop :=
  ∃ a cap, sl = .slice a xs.length cap ∧ xs.length ≤ 50 ∧ (xs ≠ [] → ∃ (g off : Nat) (cur : Array Value), a = some ⟨g, off, none⟩ ∧ D g ∧ w.heap[g]? = some (.cells cur 95) ∧ ∀ (i : Nat) x, xs[i]? = some x → cur[off + i]? = some x)

theorem RowIn.win {w : World} {D : Nat → Prop} {sl : Value} {xs : List Value} (h : RowIn w D 95 sl xs) (hl : xs.length ≤ 50) : WinIn w D sl xs := by
  rcases h.cases with ⟨rfl, rfl⟩ | ⟨g, cap, rfl, hDg, hlc, hcm, cur, hg, hcur⟩
  · exact ⟨none, 0, rfl, hl, fun h => absurd rfl h⟩
  · exact ⟨_, cap, rfl, hl, fun _ => ⟨g, 0, cur, rfl, hDg, hg, by simpa using hcur⟩⟩

set_option maxRecDepth 20000 in
theorem goals_clause {w : World} {D : Nat → Prop} {b rb : Nat} {sl : Value} {x : Value} {xs : List Value} (hb : w.heap[b]? = some (.cells #[.pointer (some ⟨rb, 0, none⟩)] 92)) (hr : w.heap[rb]? = some (.cells #[.int .u8 58, sl] 90))
    (hrow : RowIn w D 95 sl (x :: xs)) (hl : xs.length ≤ 50) :
    Calls Try.prog 42 #[.pointer (some ⟨b, 0, none⟩)] w fun e w' => ∃ sl', e = .returned sl' ∧ WinIn w D sl' xs ∧ w' = w := by
  have c0 : w.cell? ⟨b, 0, none⟩ = some (.pointer (some ⟨rb, 0, none⟩)) := cell_of 0 hb rfl
  have c1 : w.cell? ⟨rb, 0, none⟩ = some (.int .u8 58) := cell_of 0 hr rfl
  have c2 : w.cell? ⟨rb, 1, none⟩ = some sl := cell_of 1 hr rfl
  rcases hrow.cases with ⟨rfl, h⟩ | ⟨g, cap, rfl, hDg, hlc, hcm, cur, hg, hcur⟩
  · cases h
  rw [List.length_cons] at c2 hlc
  unfold maxLen at hcm
  have HC : Hid (∀ (i : Nat) y, (x :: xs)[i]? = some y → cur[i]? = some y) := hcur
  clear hrow hcur hr
  by_cases hcap : cap = 1
  · subst hcap
    have hx0 : xs = [] := List.eq_nil_of_length_eq_zero (by omega)
    subst hx0
    go_enter Try.func42, Try.ntmps42
    go_wp2
    go_ret
    exact ⟨_, rfl, ⟨_, _, rfl, hl, fun h => absurd rfl h⟩, rfl⟩
  · have hc1 : ¬ (cap = 1) := hcap
    go_enter Try.func42, Try.ntmps42
    go_wp2
    go_ret
    refine ⟨_, rfl, ⟨_, _, rfl, hl, fun _ => ⟨g, 1, cur, rfl, hDg, hg, fun i y hy => HC.out (1 + i) y ?_⟩⟩, rfl⟩
    rw [Nat.add_comm, List.getElem?_cons_succ]
    exact hy

theorem goals_query {w : World} {D : Nat → Prop} {b rb : Nat} {sl : Value} {xs : List Value} (hb : w.heap[b]? = some (.cells #[.pointer (some ⟨rb, 0, none⟩)] 92)) (hr : w.heap[rb]? = some (.cells #[.int .u8 63, sl] 90))
    (hrow : RowIn w D 95 sl xs) (hl : xs.length ≤ 50) :
    Calls Try.prog 42 #[.pointer (some ⟨b, 0, none⟩)] w fun e w' => ∃ sl', e = .returned sl' ∧ WinIn w D sl' xs ∧ w' = w := by
  have c0 : w.cell? ⟨b, 0, none⟩ = some (.pointer (some ⟨rb, 0, none⟩)) := cell_of 0 hb rfl
  have c1 : w.cell? ⟨rb, 0, none⟩ = some (.int .u8 63) := cell_of 0 hr rfl
  have c2 : w.cell? ⟨rb, 1, none⟩ = some sl := cell_of 1 hr rfl
  have hw := hrow.win hl
  obtain ⟨a, cap, hsl, _⟩ := hw
  subst hsl
  go_enter Try.func42, Try.ntmps42
  go_wp2
  go_ret
  exact ⟨_, rfl, hrow.win hl, rfl⟩
end Go.Proofs.Qxb6500302a
