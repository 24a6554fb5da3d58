import Derived.Test.Qxb6500302aSpl1
namespace Go.Proofs.Qxb6500302a
open Go.RowKit
set_option linter.unusedSimpArgs false
set_option linter.unusedVariables false
attribute [local go_sem ↓] Go.wp_at_zero Go.wp_at_succ
attribute [-go_sem] Go.run_string_add_if Go.run_index_string Go.run_slice_string_if

/-- The law's ghost: the texts. -/
def strs (L : List (List UInt8)) : List Value := L.map (fun l => .string (S l))
def shownOf (L : List (List UInt8)) : List UInt8 := 80 :: (L.map (fun l => 32 :: l)).flatten

set_option maxRecDepth 20000 in
theorem shown_any {w : World} {bs : Option Addr} {cap : Nat} {L : List (List UInt8)} (h : w.ownsRow 0 9 1 (.slice bs L.length cap) L.length (strs L)) (hl : L.length ≤ 8) (hs : ∀ l ∈ L, l.length ≤ 40) :
    Calls Try.prog 18 #[.slice bs L.length cap] w fun e w' => e = .returned (.string (S (shownOf L))) ∧ w' = w := by
  go_enter Try.func18, Try.ntmps18
  go_wp2_with fail
  go_loopg [3, 4] (L.length + 1) (fun gk v3 u wr => ∃ (i : Nat) (zs : List UInt8), v3 = .string (S zs) ∧ u = .int .i64 (i : Int) ∧ i ≤ L.length ∧ gk = L.length + 1 - i ∧ zs.length ≤ 1 + 41 * i ∧ Hid (zs = 80 :: ((L.take i).map (fun l => 32 :: l)).flatten) ∧ wr = w)
  case atStart => exact ⟨0, [80], rfl, rfl, Nat.zero_le _, rfl, by simp, rfl, rfl⟩
  case round =>
    obtain ⟨i, zs, rfl, rfl, hi, hgk, hzl, HZ, rfl⟩ := hrel
    by_cases hlt : i < L.length
    · obtain ⟨x, hx⟩ : ∃ x, L[i]? = some x := ⟨_, List.getElem?_eq_getElem hlt⟩
      have hxl := hs x (List.mem_of_getElem? hx)
      obtain ⟨g0, cap0, hv0, _, _⟩ := h.form (by omega)
      simp only [Value.slice.injEq, true_and] at hv0
      obtain ⟨rfl, rfl⟩ := hv0
      have c0 := owns_cell h i (.string (S x)) (by simp [strs, hx])
      rw [add_zero_addr] at c0
      have A1 := add_S' zs (b := { data := #[32] }) [32] rfl (by simp; omega)
      have A2 := add_S (zs ++ [32]) x (by simp; omega)
      go_wp2_with fail
      go_roundg (L.length + 1 - (i + 1))
      case measure => omega
      case rel =>
        refine ⟨i + 1, zs ++ 32 :: x, by simp, by go_num, by omega, rfl, by simp; omega, ?_, rfl⟩
        show _ = _
        rw [List.take_add_one, hx, HZ.out]
        simp
    · have hieq : i = L.length := by omega
      go_wp2_with fail
      go_ret
      rw [HZ.out, hieq, List.take_length]
      exact ⟨rfl, rfl⟩
end Go.Proofs.Qxb6500302a
