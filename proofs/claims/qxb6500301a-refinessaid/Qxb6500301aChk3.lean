import Derived.Test.Qxb6500301aChk1
import Derived.Test.Qxb6500301aChk2
namespace Go.Proofs.Qxb6500301a
open Go.RowKit
set_option linter.unusedSimpArgs false
set_option linter.unusedVariables false
attribute [local go_sem ↓] Go.wp_at_zero Go.wp_at_succ
attribute [-go_sem] Go.run_string_add_if Go.run_index_string Go.run_slice_string_if

section
variable {w : World} {p : Nat} {B : Blks} {ns : List Nd} {saved : List (List Nd)}
set_option maxRecDepth 40000 in
set_option maxHeartbeats 4000000 in
theorem Check_any (h : HeapAt w p B ns saved) : Calls Try.prog 33 #[.pointer (some ⟨p, 0, none⟩)] w fun e w' => e = .returned (.bool true) ∧ Fr No w w' := by
  have HN : Hid (∀ w', w' = w → Calls Try.prog 45 #[.pointer (some ⟨p, 0, none⟩)] w' fun e w'' => e = .returned (.bool true) ∧ w'' = w') := fun w' e => by subst e; exact nodesOK_any h
  have HT : Hid (∀ w', w' = w → Calls Try.prog 46 #[.pointer (some ⟨p, 0, none⟩)] w' fun e w'' => e = .returned (.bool true) ∧ Fr No w' w'') := fun w' e => by subst e; exact trailOK_any h
  obtain ⟨ws, tr, tms, h1, hinv, hsv, htm, hs26⟩ := h.main
  have hs := hinv.wft.small
  have c0 := h1.p0
  have c1 := h1.p1
  have c2 := h1.p2
  have c5 := h1.p5
  rw [htm] at c5
  have d1 : decide ((64 : Int) < (ns.length : Int)) = false := decide_eq_false (by omega)
  have d1' : decide (64 < ns.length) = false := decide_eq_false (by omega)
  have d2 : decide ((26 : Int) < (saved.length : Int)) = false := decide_eq_false (by omega)
  have d2' : decide (26 < saved.length) = false := decide_eq_false (by omega)
  have e2 : (((2 * ns.length : Nat) : Int)) = 2 * (ns.length : Int) := by omega
  clear h h1 hinv hsv htm
  go_enter Try.func33, Try.ntmps33
  go_wp2_with fail
  refine (HN.out _ rfl).mono ?_
  rintro e w1 ⟨rfl, rfl⟩
  go_wp2_with fail
  refine (HT.out _ rfl).mono ?_
  rintro e w2 ⟨rfl, hf⟩
  go_wp2_with fail
  go_ret
  exact ⟨rfl, hf⟩
end
end Go.Proofs.Qxb6500301a
