import Derived.Test.Qxb6500302aChk3
namespace Go.Proofs.Qxb6500302a
open Go.RowKit
set_option linter.unusedSimpArgs false
set_option linter.unusedVariables false
attribute [local go_sem ↓] Go.wp_at_zero Go.wp_at_succ

theorem add_zero_addr (g i : Nat) : (⟨g, 0, none⟩ : Addr).add i = ⟨g, i, none⟩ := by
  by_cases h0 : i = 0
  · subst h0; rfl
  · simp [Addr.add, h0]

set_option maxRecDepth 20000 in
theorem same_any {w : World} {b1 b2 : Option Addr} {c1 c2 : Nat} {ids : List Nat} (h1 : w.ownsRow 0 32 1 (.slice b1 ids.length c1) ids.length (i8s ids)) (h2 : w.ownsRow 0 32 1 (.slice b2 ids.length c2) ids.length (i8s ids)) (hne : ids ≠ []) (hl : ids.length ≤ 100) :
    Calls Try.prog 64 #[.slice b1 ids.length c1, .slice b2 ids.length c2] w fun e w' => e = .returned (.bool true) ∧ Fr No w w' := by
  have hpos : 0 < ids.length := List.length_pos_iff.2 hne
  obtain ⟨g1, d1, hv1, _, _⟩ := h1.form hpos
  obtain ⟨g2, d2, hv2, _, _⟩ := h2.form hpos
  simp only [Value.slice.injEq, true_and] at hv1 hv2
  obtain ⟨rfl, rfl⟩ := hv1
  obtain ⟨rfl, rfl⟩ := hv2
  have hq : ((ids.length : Int) == 0) = false := by simp; omega
  have hq2 : ((ids.length : Int) != (ids.length : Int)) = false := by simp
  have H1 := owns_cell h1
  have H2 := owns_cell h2
  have HA : Hid (∀ j u, (i8s ids)[j]? = some u → w.cell? ⟨g1, j, none⟩ = some u ∧ w.cell? ⟨g2, j, none⟩ = some u) := fun j u hu => by
    have a := H1 j u hu
    have b := H2 j u hu
    rw [add_zero_addr] at a b
    exact ⟨a, b⟩
  clear H1 H2
  go_enter Try.func64, Try.ntmps64
  go_wp2_with fail
  go_loopg [18] (ids.length + 1) (fun gk u wr => ∃ i : Nat, u = .int .i64 (i : Int) ∧ i ≤ ids.length ∧ gk = ids.length + 1 - i ∧ Fr No w wr)
  case atStart => exact ⟨0, rfl, Nat.zero_le _, rfl, Fr.refl _ _⟩
  case round =>
    obtain ⟨i, rfl, hi, hgk, hf⟩ := hrel
    by_cases hlt : i < ids.length
    · obtain ⟨x, hx⟩ : ∃ x, ids[i]? = some x := ⟨_, List.getElem?_eq_getElem hlt⟩
      obtain ⟨ca, cb⟩ := HA.out i (.int .i8 (x : Int)) (by simp [i8s, hx])
      have ca' := hf.cellNo ca
      have cb' := hf.cellNo cb
      have hq3 : ((x : Int) != (x : Int)) = false := by simp
      go_wp2_with fail
      go_quiet (fail)
      go_wp2_with fail
      go_roundg (ids.length + 1 - (i + 1))
      case measure => omega
      case rel => exact ⟨i + 1, by go_num, by omega, rfl, hf.drewN _⟩
    · go_wp2_with fail
      go_ret
      exact ⟨rfl, hf⟩
end Go.Proofs.Qxb6500302a
