import Derived.Test.Qxb6500302aUns1
import Derived.Test.Qxb6500302aPlain4
import Derived.BigRegion
namespace Go.Proofs.Qxb6500302a.M
open Go.RowKit
set_option linter.unusedSimpArgs false
set_option linter.unusedVariables false
attribute [local go_sem ↓] Go.wp_at_zero Go.wp_at_succ
attribute [-go_sem] Go.run_string_add_if Go.run_index_string Go.run_slice_string_if

/-- The model's reader in memory: the text, the place, the letters met, the flag. -/
def RdAt (w : World) (b : Nat) (s : List UInt8) (p : Nat) (vs : List UInt8) (bad : Bool) : Prop :=
  w.heap[b]? = some (.cells #[.string (S s), .int .i64 (p : Int), .string (S vs), .bool bad] 119)

section
variable {w w' : World} {b p : Nat} {s vs : List UInt8} {bad : Bool}
theorem RdAt.keep (h : RdAt w b s p vs bad) {T : Nat → Prop} (hf : Fr T w w') (hn : ¬ T b) : RdAt w' b s p vs bad := Fr.keep hf h hn
theorem RdAt.c0 (h : RdAt w b s p vs bad) : w.cell? ⟨b, 0, none⟩ = some (.string (S s)) := cell_of 0 h rfl
theorem RdAt.c1 (h : RdAt w b s p vs bad) : w.cell? ⟨b, 1, none⟩ = some (.int .i64 (p : Int)) := cell_of 1 h rfl
theorem RdAt.c2 (h : RdAt w b s p vs bad) : w.cell? ⟨b, 2, none⟩ = some (.string (S vs)) := cell_of 2 h rfl
theorem RdAt.c3 (h : RdAt w b s p vs bad) : w.cell? ⟨b, 3, none⟩ = some (.bool bad) := cell_of 3 h rfl
theorem RdAt.z1 (h : RdAt w b s p vs bad) : w.frozen? ⟨b, 1, none⟩ = false := frozen_of 1 h
theorem RdAt.z2 (h : RdAt w b s p vs bad) : w.frozen? ⟨b, 2, none⟩ = false := frozen_of 2 h
theorem RdAt.z3 (h : RdAt w b s p vs bad) : w.frozen? ⟨b, 3, none⟩ = false := frozen_of 3 h
theorem RdAt.pos (h : RdAt w b s p vs bad) : RdAt (w.setCell ⟨b, 1, none⟩ (.int .i64 ((p : Int) + 1))) b s (p + 1) vs bad := by
  have := heap_setCell_same (i := 1) (.int .i64 ((p : Int) + 1)) h
  unfold RdAt
  rw [this]
  simp
theorem RdAt.met (h : RdAt w b s p vs bad) (vs' : List UInt8) : RdAt (w.setCell ⟨b, 2, none⟩ (.string (S vs'))) b s p vs' bad := by
  have := heap_setCell_same (i := 2) (.string (S vs')) h
  unfold RdAt
  rw [this]
  simp
theorem RdAt.fail (h : RdAt w b s p vs bad) : RdAt (w.setCell ⟨b, 3, none⟩ (.bool true)) b s p vs true := by
  have := heap_setCell_same (i := 3) (.bool true) h
  unfold RdAt
  rw [this]
  simp
theorem at_drop (s : List UInt8) (p : Nat) (h : p < s.length) : s[p]? = some (hd (s.drop p)) := by
  rw [List.drop_eq_getElem_cons h]
  simp [hd]

set_option maxRecDepth 20000 in
theorem peek_any (h : RdAt w b s p vs bad) (hp : p ≤ 1000) (hs : s.length ≤ 40) : Calls Try.prog 68 #[.pointer (some ⟨b, 0, none⟩)] w fun e w' => e = .returned (.int .u8 ((hd (s.drop p)).toNat : Int)) ∧ Fr No w w' := by
  have c0 := h.c0
  have c1 := h.c1
  have hsz := S_size s
  by_cases hlt : p < s.length
  · have d1 : decide ((p : Int) < ((S s).size : Int)) = true := decide_eq_true (by omega)
    have d2 : decide (p < (S s).size) = true := decide_eq_true (by omega)
    have x := fun w => idx_Int (l := s) (i := (p : Int)) (by omega) (c := hd (s.drop p)) (by rw [Int.toNat_natCast]; exact at_drop s p hlt) w
    clear hsz
    go_enter Try.func68, Try.ntmps68
    go_wp2_with fail
    go_quiet (fail)
    go_wp2_with fail
    go_quiet (fail)
    go_wp2_with fail
    go_ret
    exact ⟨rfl, ((Fr.refl No w).drewN _).drewN _⟩
  · have d1 : decide ((p : Int) < ((S s).size : Int)) = false := decide_eq_false (by omega)
    have d2 : decide (p < (S s).size) = false := decide_eq_false (by omega)
    have e0 : hd (s.drop p) = 0 := by rw [List.drop_eq_nil_of_le (by omega)]; rfl
    clear hsz
    go_enter Try.func68, Try.ntmps68
    go_wp2_with fail
    go_quiet (fail)
    go_wp2_with fail
    go_ret
    rw [e0]
    exact ⟨rfl, (Fr.refl No w).drewN _⟩
end
end Go.Proofs.Qxb6500302a.M
